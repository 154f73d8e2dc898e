/- Going on. -/
import Derived.Shelf.SlGeneric
import Derived.Ground.GgzProg
import Derived.Ground.SlgmProg
import Derived.Ground.SlmcProg
import Derived.Shelf.SlIterI.Nil
import Derived.Shelf.SlMaps.Clone
import Derived.Shelf.SortM.Plain
import Derived.Shelf.SortM.SortNone
import Derived.Test.YtmpoeamfcienoaaKRL15
section
namespace Go.Proofs
open Go.Shelf
def Try.sh_slices_Sorted_int_ren : Go.Shelf.Ren := ⟨fun | 6 => 60 | 8 => 106 | 9 => 107 | 11 => 131 | 13 => 133 | 12 => 132 | 23 => 150 | 24 => 151 | 14 => 141 | 15 => 142 | 16 => 143 | 17 => 144 | 18 => 145 | 19 => 146 | 20 => 147 | 21 => 148 | 22 => 149 | 25 => 153 | 26 => 154 | 27 => 155 | 28 => 156 | 29 => 157 | 30 => 158 | 31 => 159 | n => n, fun | 26 => 3 | 28 => 112 | 24 => 114 | 0 => 0 | 3 => 3 | 37 => 60 | 48 => 195 | 50 => 197 | 4 => 4 | 40 => 187 | 39 => 186 | 45 => 192 | 5 => 5 | 9 => 9 | 51 => 199 | 55 => 203 | 57 => 205 | 58 => 206 | 33 => 86 | n => n, fun | n => n⟩
theorem Try.sh_slices_Sorted_int : Go.Proofs.SlLaysZI.n6 Try.prog Try.sh_slices_Sorted_int_ren := {
  mixed := by kernel_rfl
  f6 := ⟨Try.f60.name, by decide, Try.func60.trans (congrArg some (by kernel_rfl))⟩
  f8 := ⟨Try.f106.name, by decide, Try.func106.trans (congrArg some (by kernel_rfl))⟩
  f11 := ⟨Try.f131.name, by decide, Try.func131.trans (congrArg some (by kernel_rfl))⟩
  t0 := Try.underlying0
  a0 := Try.isAgg0
  z0 := Try.sizeOf0
  v0 := Try.zeroValue0
  t24 := Try.underlying114
  a24 := Try.isAgg114
  z24 := Try.sizeOf114
  v24 := Try.zeroValue114
  t26 := Try.underlying3
  a26 := Try.isAgg3
  z26 := Try.sizeOf3
  v26 := Try.zeroValue3
  t28 := Try.underlying112
  a28 := Try.isAgg112
  z28 := Try.sizeOf112
  v28 := Try.zeroValue112
  i26 := by kernel_rfl }
def Try.sh_maps_Keys_Place_ren : Go.Shelf.Ren := ⟨fun | 7 => 61 | 10 => 108 | n => n, fun | 23 => 92 | 26 => 3 | 3 => 41 | 28 => 112 | 0 => 0 | 27 => 111 | 33 => 86 | 4 => 4 | n => n, fun | n => n⟩
theorem Try.sh_maps_Keys_Place : Go.Proofs.SlLaysZI.n7 Try.prog Try.sh_maps_Keys_Place_ren := {
  mixed := by kernel_rfl
  f7 := ⟨Try.f61.name, by decide, Try.func61.trans (congrArg some (by kernel_rfl))⟩
  f10 := ⟨Try.f108.name, by decide, Try.func108.trans (congrArg some (by kernel_rfl))⟩
  t0 := Try.underlying0
  a0 := Try.isAgg0
  z0 := Try.sizeOf0
  v0 := Try.zeroValue0
  t4 := Try.underlying4
  a4 := Try.isAgg4
  z4 := Try.sizeOf4
  v4 := Try.zeroValue4
  t23 := Try.underlying92
  a23 := Try.isAgg92
  z23 := Try.sizeOf92
  v23 := Try.zeroValue92
  t26 := Try.underlying3
  a26 := Try.isAgg3
  z26 := Try.sizeOf3
  v26 := Try.zeroValue3
  t27 := Try.underlying111
  a27 := Try.isAgg111
  z27 := Try.sizeOf111
  v27 := Try.zeroValue111
  t28 := Try.underlying112
  a28 := Try.isAgg112
  z28 := Try.sizeOf112
  v28 := Try.zeroValue112
  t33 := Try.underlying86
  a33 := Try.isAgg86
  z33 := Try.sizeOf86
  v33 := Try.zeroValue86 }
def Try.sh_slices_Sort_int_ren : Go.Shelf.Ren := ⟨fun | 5 => 107 | 8 => 133 | 7 => 132 | 19 => 150 | 20 => 151 | 10 => 141 | 11 => 142 | 12 => 143 | 13 => 144 | 14 => 145 | 15 => 146 | 16 => 147 | 17 => 148 | 18 => 149 | 30 => 153 | 31 => 154 | 32 => 155 | 33 => 156 | 34 => 157 | 35 => 158 | 40 => 159 | n => n, fun | 23 => 114 | 25 => 3 | 3 => 3 | 32 => 60 | 22 => 114 | 0 => 0 | 44 => 195 | 46 => 197 | 4 => 4 | 36 => 187 | 35 => 186 | 41 => 192 | 5 => 5 | 9 => 9 | 53 => 199 | 57 => 203 | 63 => 205 | 64 => 206 | n => n, fun | n => n⟩
theorem Try.sh_slices_Sort_int : Go.Proofs.SlLaysM.n5 Try.prog Try.sh_slices_Sort_int_ren := {
  mixed := by kernel_rfl
  f5 := ⟨Try.f107.name, by decide, Try.func107.trans (congrArg some (by kernel_rfl))⟩
  f7 := ⟨Try.f132.name, by decide, Try.func132.trans (congrArg some (by kernel_rfl))⟩
  f8 := Try.func133.trans (congrArg some (by kernel_rfl))
  f10 := ⟨Try.f141.name, by decide, Try.func141.trans (congrArg some (by kernel_rfl))⟩
  f11 := ⟨Try.f142.name, by decide, Try.func142.trans (congrArg some (by kernel_rfl))⟩
  f12 := ⟨Try.f143.name, by decide, Try.func143.trans (congrArg some (by kernel_rfl))⟩
  f13 := ⟨Try.f144.name, by decide, Try.func144.trans (congrArg some (by kernel_rfl))⟩
  f14 := ⟨Try.f145.name, by decide, Try.func145.trans (congrArg some (by kernel_rfl))⟩
  f15 := ⟨Try.f146.name, by decide, Try.func146.trans (congrArg some (by kernel_rfl))⟩
  f16 := ⟨Try.f147.name, by decide, Try.func147.trans (congrArg some (by kernel_rfl))⟩
  f17 := ⟨Try.f148.name, by decide, Try.func148.trans (congrArg some (by kernel_rfl))⟩
  f18 := ⟨Try.f149.name, by decide, Try.func149.trans (congrArg some (by kernel_rfl))⟩
  f19 := Try.func150.trans (congrArg some (by kernel_rfl))
  f20 := Try.func151.trans (congrArg some (by kernel_rfl))
  f30 := ⟨Try.f153.name, by decide, Try.func153.trans (congrArg some (by kernel_rfl))⟩
  f31 := Try.func154.trans (congrArg some (by kernel_rfl))
  f32 := Try.func155.trans (congrArg some (by kernel_rfl))
  f33 := ⟨Try.f156.name, by decide, Try.func156.trans (congrArg some (by kernel_rfl))⟩
  f34 := ⟨Try.f157.name, by decide, Try.func157.trans (congrArg some (by kernel_rfl))⟩
  f35 := ⟨Try.f158.name, by decide, Try.func158.trans (congrArg some (by kernel_rfl))⟩
  f40 := ⟨Try.f159.name, by decide, Try.func159.trans (congrArg some (by kernel_rfl))⟩
  t0 := Try.underlying0
  a0 := Try.isAgg0
  z0 := Try.sizeOf0
  v0 := Try.zeroValue0
  t3 := Try.underlying3
  a3 := Try.isAgg3
  z3 := Try.sizeOf3
  v3 := Try.zeroValue3
  t4 := Try.underlying4
  a4 := Try.isAgg4
  z4 := Try.sizeOf4
  v4 := Try.zeroValue4
  t5 := Try.underlying5
  a5 := Try.isAgg5
  z5 := Try.sizeOf5
  v5 := Try.zeroValue5
  t9 := Try.underlying9
  a9 := Try.isAgg9
  z9 := Try.sizeOf9
  v9 := Try.zeroValue9
  t22 := Try.underlying114
  a22 := Try.isAgg114
  z22 := Try.sizeOf114
  v22 := Try.zeroValue114
  t23 := Try.underlying114
  a23 := Try.isAgg114
  z23 := Try.sizeOf114
  v23 := Try.zeroValue114
  t25 := Try.underlying3
  a25 := Try.isAgg3
  z25 := Try.sizeOf3
  v25 := Try.zeroValue3
  t32 := Try.underlying60
  a32 := Try.isAgg60
  z32 := Try.sizeOf60
  v32 := Try.zeroValue60
  t35 := Try.underlying186
  a35 := Try.isAgg186
  z35 := Try.sizeOf186
  v35 := Try.zeroValue186
  t36 := Try.underlying187
  a36 := Try.isAgg187
  z36 := Try.sizeOf187
  v36 := Try.zeroValue187
  t41 := Try.underlying192
  a41 := Try.isAgg192
  z41 := Try.sizeOf192
  v41 := Try.zeroValue192
  t44 := Try.underlying195
  a44 := Try.isAgg195
  z44 := Try.sizeOf195
  v44 := Try.zeroValue195
  t46 := Try.underlying197
  a46 := Try.isAgg197
  z46 := Try.sizeOf197
  v46 := Try.zeroValue197
  t53 := Try.underlying199
  a53 := Try.isAgg199
  z53 := Try.sizeOf199
  v53 := Try.zeroValue199
  t57 := Try.underlying203
  a57 := Try.isAgg203
  z57 := Try.sizeOf203
  v57 := Try.zeroValue203
  t63 := Try.underlying205
  a63 := Try.isAgg205
  z63 := Try.sizeOf205
  v63 := Try.zeroValue205
  t64 := Try.underlying206
  a64 := Try.isAgg206
  z64 := Try.sizeOf206
  v64 := Try.zeroValue206 }
def Try.sh_maps_Keys_Log_ren : Go.Shelf.Ren := ⟨fun | 7 => 113 | 10 => 134 | n => n, fun | 23 => 117 | 26 => 3 | 3 => 24 | 28 => 112 | 0 => 0 | 27 => 111 | 33 => 86 | 4 => 4 | n => n, fun | n => n⟩
theorem Try.sh_maps_Keys_Log : Go.Proofs.SlLaysZI.n7 Try.prog Try.sh_maps_Keys_Log_ren := {
  mixed := by kernel_rfl
  f7 := ⟨Try.f113.name, by decide, Try.func113.trans (congrArg some (by kernel_rfl))⟩
  f10 := ⟨Try.f134.name, by decide, Try.func134.trans (congrArg some (by kernel_rfl))⟩
  t0 := Try.underlying0
  a0 := Try.isAgg0
  z0 := Try.sizeOf0
  v0 := Try.zeroValue0
  t4 := Try.underlying4
  a4 := Try.isAgg4
  z4 := Try.sizeOf4
  v4 := Try.zeroValue4
  t23 := Try.underlying117
  a23 := Try.isAgg117
  z23 := Try.sizeOf117
  v23 := Try.zeroValue117
  t26 := Try.underlying3
  a26 := Try.isAgg3
  z26 := Try.sizeOf3
  v26 := Try.zeroValue3
  t27 := Try.underlying111
  a27 := Try.isAgg111
  z27 := Try.sizeOf111
  v27 := Try.zeroValue111
  t28 := Try.underlying112
  a28 := Try.isAgg112
  z28 := Try.sizeOf112
  v28 := Try.zeroValue112
  t33 := Try.underlying86
  a33 := Try.isAgg86
  z33 := Try.sizeOf86
  v33 := Try.zeroValue86 }
end Go.Proofs
end
section
namespace Go.Proofs.Ytmpoeamfcienoaa
open Go.Ab Go.Maps
set_option linter.unusedVariables false
set_option linter.unusedSimpArgs false
set_option maxRecDepth 100000
set_option maxHeartbeats 4000000
theorem sortsI (m : Nat) : AnyZI.SortsIn Try.prog Try.sh_slices_Sorted_int_ren Fence.wide m :=
  ⟨fun blk off cap ss W hH hblk hsz => callsIn_wide.2 (AnyM.slices_Sort_int Try.sh_slices_Sort_int blk off cap ss W hH hblk hsz),
   fun p cap W => callsIn_wide.2 (AnyM.slices_Sort_int_none Try.sh_slices_Sort_int p cap W)⟩
theorem ct_sorted_Place {β : Type} {s : AState} {cb b : Nat} {enc : β → AV} {A B : List (Int × β)} (hcb : s.get cb = .cells [.m b]) (hb : s.get b = .map (encM enc A)) (hAB : Rep A B)
    (hw : ∀ x ∈ B, -9223372036854775808 ≤ x.1 ∧ x.1 < 9223372036854775808) (hlen : B.length * 8 ≤ 140737488355328) :
    Gives prog F_slices_Sorted_int [.f (.func F_maps_Keys_Place_1) [] [.p cb 0]] s (.sl ((B.map (·.1)).map fun n => .v (.int .i64 n)) .no) s := by
  refine Runs.sorted (kt := Try.sh_maps_Keys_Place_ren.t 26) (T := Try.sh_slices_Sorted_int_ren.t 26) (enters_of Try.func60 (by kernel_rfl) rfl) hcb hb hAB hw Try.sh_maps_Keys_Place.t26 hlen ?_
  intro w Bm r D0 hc hlt hown hsz
  have hseq := AnyZI.keys_gives (ρ := Try.sh_maps_Keys_Place_ren) { Try.sh_maps_Keys_Place with } Fence.wide 2 trivial rfl (by omega) Bm r _ D0 w hlt hc hown
  have := AnyZI.sorted_in Try.sh_slices_Sorted_int Fence.wide 5 trivial trivial trivial trivial rfl (by omega) (sortsI _) (enters_of Try.func107 (by kernel_rfl) rfl) F_maps_Keys_Place_1 #[.pointer (some ⟨Bm, 0, none⟩)] trivial (enters_of Try.func108 (by kernel_rfl) rfl) _ (Maps.size D0)
    (by have e : maxLen = 9223372036854775807 := rfl; omega) (by omega) w hseq
  exact (callsIn_wide (n := 5)).1 this
theorem ct_maps_Keys_Place {b : Nat} {s : AState} : Gives prog F_maps_Keys_Place [.m b] s (.f (.func F_maps_Keys_Place_1) [] [.p s.n 0]) (s.alloc (.cells [.m b])) := by
  refine runs_e h_maps_Keys_Place (Nat.le_of_ble_eq_true rfl) ?_
  refine st0 ?_
  exact ret_ok rfl ⟨rfl, rfl⟩
theorem ct_sorted_Log {β : Type} {s : AState} {cb b : Nat} {enc : β → AV} {A B : List (Int × β)} (hcb : s.get cb = .cells [.m b]) (hb : s.get b = .map (encM enc A)) (hAB : Rep A B)
    (hw : ∀ x ∈ B, -9223372036854775808 ≤ x.1 ∧ x.1 < 9223372036854775808) (hlen : B.length * 8 ≤ 140737488355328) :
    Gives prog F_slices_Sorted_int [.f (.func F_maps_Keys_Log_1) [] [.p cb 0]] s (.sl ((B.map (·.1)).map fun n => .v (.int .i64 n)) .no) s := by
  refine Runs.sorted (kt := Try.sh_maps_Keys_Log_ren.t 26) (T := Try.sh_slices_Sorted_int_ren.t 26) (enters_of Try.func60 (by kernel_rfl) rfl) hcb hb hAB hw Try.sh_maps_Keys_Log.t26 hlen ?_
  intro w Bm r D0 hc hlt hown hsz
  have hseq := AnyZI.keys_gives (ρ := Try.sh_maps_Keys_Log_ren) { Try.sh_maps_Keys_Log with } Fence.wide 2 trivial rfl (by omega) Bm r _ D0 w hlt hc hown
  have := AnyZI.sorted_in Try.sh_slices_Sorted_int Fence.wide 5 trivial trivial trivial trivial rfl (by omega) (sortsI _) (enters_of Try.func107 (by kernel_rfl) rfl) F_maps_Keys_Log_1 #[.pointer (some ⟨Bm, 0, none⟩)] trivial (enters_of Try.func134 (by kernel_rfl) rfl) _ (Maps.size D0)
    (by have e : maxLen = 9223372036854775807 := rfl; omega) (by omega) w hseq
  exact (callsIn_wide (n := 5)).1 this
theorem ct_maps_Keys_Log {b : Nat} {s : AState} : Gives prog F_maps_Keys_Log [.m b] s (.f (.func F_maps_Keys_Log_1) [] [.p s.n 0]) (s.alloc (.cells [.m b])) := by
  refine runs_e h_maps_Keys_Log (Nat.le_of_ble_eq_true rfl) ?_
  refine st0 ?_
  exact ret_ok rfl ⟨rfl, rfl⟩
theorem ct_slices_Clone_Entry {es : List Ent} {s : AState} (hlen : es.length * 32 ≤ 140737488355328) : Gives prog F_slices_Clone_Entry [.sl (es.map Ent.av) .no] s (.sl (es.map Ent.av) .no) s := by
  refine Runs.gives' (runs_e h_slices_Clone_Entry (Nat.le_of_ble_eq_true rfl) ?_) (flat_sl Ent.row _)
  refine st0 ?_
  refine i_N (fun hne => ?_) (fun hne b => ?_)
  · refine st0 ?_
    refine m_app (xs := []) (tk := .zero) (B := s) (N := s.n) (by simp) (by simp; exact ⟨rfl, rfl⟩) (Grows.refl s) (Nat.le_refl _) (Nat.le_refl _) trivial (by simp) (by simp) (by simp; omega) (by simp; omega) ?_
    intro s' tk2 hg hm _ _
    refine st0 ?_
    exact ret_ok rfl ⟨hg, by simpa using AV.le_no _ _⟩
  · have : es = [] := by simpa using hne
    subst this
    cases b
    · refine st0 ?_
      exact ret_ok rfl ⟨Grows.refl _, AV.le_no _ _⟩
    · refine st0 ?_
      exact ret_ok rfl ⟨Grows.refl _, AV.le_no _ _⟩
end Go.Proofs.Ytmpoeamfcienoaa
end
section
namespace Go.Proofs.Ytmpoeamfcienoaa
open Go.Ab
set_option linter.unusedVariables false
set_option linter.unusedSimpArgs false
set_option maxRecDepth 100000
set_option maxHeartbeats 4000000
def Ones (xs : List AV) : Prop := ∀ x ∈ xs, x.cells = [x] ∧ x.one = true ∧ x.strip = x
theorem Ones.ints {k : IntKind} (l : List Int) : Ones (l.map fun n => .v (.int k n)) := by intro x hx; obtain ⟨n, _, rfl⟩ := List.mem_map.1 hx; exact ⟨rfl, rfl, rfl⟩
theorem ct_slices_Values_int {xs : List AV} {s : AState} : Gives prog F_slices_Values_int [.sl xs .no] s (.f (.func F_slices_Values_int_1) [] [.p s.n 0]) (s.alloc (.cells [.sl xs .no])) := by
  refine runs_e h_slices_Values_int (Nat.le_of_ble_eq_true rfl) ?_
  refine st0 ?_
  exact ret_ok rfl ⟨rfl, rfl⟩
theorem it_slices_Values_int (xs : List AV) (hx : Ones xs) (b : Nat) (hlen : xs.length < 9223372036854775808) : Iter prog F_slices_Values_int_1 [] [.p b 0] (xs.map fun e => [e]) (fun s => s.get b = .cells [.sl xs .no]) := by
  intro l s I J hp ha hj hy h0
  refine runs_e h_slices_Values_int_1 (Nat.le_of_ble_eq_true rfl) ?_
  refine st1 (hp 0 s h0) ?_
  refine loop_ok [0, 5, 6, 7] (fun m a s1 => ∃ j : Nat, j + m = xs.length ∧ I j s1 ∧ a = { t := den 16 [(0, .y l), (5, .sl xs .no), (6, .v (.int .i64 xs.length)), (7, .v (.int .i64 j))], d := [] }) xs.length ?_ ?_
  · exact ⟨0, by simp, h0, by simp⟩
  · rintro m a s1 ⟨j, hjm, hI, rfl⟩
    by_cases hlt : j < xs.length
    · have hw : IntKind.wrap .i64 ((j : Int) + 1) = ((j + 1 : Nat) : Int) := by rw [wrap_i64 (by omega) (by omega)]; omega
      obtain ⟨hc, ho, _⟩ := hx _ (List.getElem_mem hlt)
      refine st3 hlt hc ho ?_
      have hy' := hy j (by simpa using hlt) _ hI
      simp only [List.getElem_map] at hy'
      refine yr0 (hy') ?_
      rintro _ s2 (⟨rfl, hI2⟩ | ⟨rfl, hJ⟩)
      · refine st1 hw ?_
        exact ⟨m - 1, by omega, j + 1, by omega, hI2, by simp⟩
      · refine st0 ?_
        exact ret_ok rfl (.inr hJ)
    · refine st1 hlt ?_
      have : j = xs.length := by omega
      subst this
      exact end_ok rfl (.inl (by simpa using hI))
theorem ct_slices_Values_uint8 {xs : List AV} {s : AState} : Gives prog F_slices_Values_uint8 [.sl xs .no] s (.f (.func F_slices_Values_uint8_1) [] [.p s.n 0]) (s.alloc (.cells [.sl xs .no])) := by
  refine runs_e h_slices_Values_uint8 (Nat.le_of_ble_eq_true rfl) ?_
  refine st0 ?_
  exact ret_ok rfl ⟨rfl, rfl⟩
theorem it_slices_Values_uint8 (xs : List AV) (hx : Ones xs) (b : Nat) (hlen : xs.length < 9223372036854775808) : Iter prog F_slices_Values_uint8_1 [] [.p b 0] (xs.map fun e => [e]) (fun s => s.get b = .cells [.sl xs .no]) := by
  intro l s I J hp ha hj hy h0
  refine runs_e h_slices_Values_uint8_1 (Nat.le_of_ble_eq_true rfl) ?_
  refine st1 (hp 0 s h0) ?_
  refine loop_ok [0, 5, 6, 7] (fun m a s1 => ∃ j : Nat, j + m = xs.length ∧ I j s1 ∧ a = { t := den 16 [(0, .y l), (5, .sl xs .no), (6, .v (.int .i64 xs.length)), (7, .v (.int .i64 j))], d := [] }) xs.length ?_ ?_
  · exact ⟨0, by simp, h0, by simp⟩
  · rintro m a s1 ⟨j, hjm, hI, rfl⟩
    by_cases hlt : j < xs.length
    · have hw : IntKind.wrap .i64 ((j : Int) + 1) = ((j + 1 : Nat) : Int) := by rw [wrap_i64 (by omega) (by omega)]; omega
      obtain ⟨hc, ho, _⟩ := hx _ (List.getElem_mem hlt)
      refine st3 hlt hc ho ?_
      have hy' := hy j (by simpa using hlt) _ hI
      simp only [List.getElem_map] at hy'
      refine yr0 (hy') ?_
      rintro _ s2 (⟨rfl, hI2⟩ | ⟨rfl, hJ⟩)
      · refine st1 hw ?_
        exact ⟨m - 1, by omega, j + 1, by omega, hI2, by simp⟩
      · refine st0 ?_
        exact ret_ok rfl (.inr hJ)
    · refine st1 hlt ?_
      have : j = xs.length := by omega
      subst this
      exact end_ok rfl (.inl (by simpa using hI))
end Go.Proofs.Ytmpoeamfcienoaa
end
section
namespace Go.Ab
def spotsL (v : LogV) : List Spt := v.sp.map fun x => ⟨v.g.id, x.1, x.2.sg, x.2.at_⟩
end Go.Ab
namespace Go.Proofs.Ytmpoeamfcienoaa
open Go.Ab
set_option linter.unusedVariables false
set_option linter.unusedSimpArgs false
set_option maxRecDepth 100000
set_option maxHeartbeats 8000000
theorem ct_place_Log_Group {lb : Nat} {v : LogV} {F : List Nat} {s : AState} (hL : LogAt s lb v F) (hl : v.g.es.length * 32 ≤ 140737488355328) : Gives prog F_place_Log_Group [.p lb 0] s v.g.av s := by
  have hlt := hL.lt
  obtain ⟨tk, mb, A, rfl, h1, h2, h3⟩ := hL
  have hlb : lb < s.n := hlt lb (by simp)
  unfold logC at h1
  refine Runs.gives' (runs_e h_place_Log_Group (Nat.le_of_ble_eq_true rfl) ?_) (Grp.row _).flat
  refine st1 h1 ?_
  refine gv (ct_slices_Clone_Entry (es := v.g.es) hl) ?_
  refine st0 ?_
  exact ret_ok (by simp; rfl) ⟨((Grows.refl _).alloc _).alloc _, (AV.le_strip _).trans (by simp [Grp.av, Grp.cells, retVal]; exact .refl _)⟩
theorem ct_place_Log_Spots {lb : Nat} {v : LogV} {F : List Nat} {s : AState} (hL : LogAt s lb v F) (hk : ∀ x ∈ v.sp, -9223372036854775808 ≤ x.1 ∧ x.1 < 9223372036854775808) (hlen : v.sp.length * 32 ≤ 140737488355328) :
    Gives prog F_place_Log_Spots [.p lb 0] s (.sl ((spotsL v).map Spt.av) .no) s := by
  have hlt := hL.lt
  obtain ⟨tk, mb, A, rfl, h1, h2, h3⟩ := hL
  have hlb : lb < s.n := hlt lb (by simp)
  have hmb : mb < s.n := hlt mb (by simp)
  unfold logC at h1
  refine Runs.gives' (runs_e h_place_Log_Spots (Nat.le_of_ble_eq_true rfl) ?_) (flat_sl Spt.row _)
  refine st1 h1 ?_
  refine gv (ct_maps_Keys_Place) ?_
  refine st0 ?_
  refine giv (ct_sorted_Place (cb := s.n + 1 + 1) (b := mb) (enc := Plc.av) (A := A) (B := v.sp) (dz0) (dz1 h2) h3 hk (by omega)) (by simp) ?_
  refine st0 ?_
  refine gv (ct_slices_Values_int (xs := (v.sp.map (·.1)).map fun n => .v (.int .i64 n))) ?_
  refine st0 ?_
  have hit := it_slices_Values_int ((v.sp.map (·.1)).map fun n => .v (.int .i64 n)) (.ints _) (s.n + 1 + 1 + 1) (by simp; omega)
  refine w_rangeG (α := Tok) (β := Unit) (m := v.sp.length) (by simp) hit (by intro x hx; obtain ⟨p, _, rfl⟩ := List.mem_map.1 hx; rfl) (by simp) (fun k tk => (((s.alloc (.cells [.p lb 0])).alloc (.cells [.sl (((spotsL v).map Spt.av).take k) tk])).alloc (.cells [.m mb])).alloc (.cells [.sl ((v.sp.map (·.1)).map fun n => .v (.int .i64 n)) .no]))
    (fun k tk s' => May (s.n + 6) s' (((spotsL v).map Spt.av).take k) tk) (fun _ _ => s) (fun _ _ _ => False) .zero (by simp) (fun s' h => trivial) ?_ (fun k a s' o h => h.alloc o) (fun _ _ _ _ h => h) ?_ ?_ (fun _ _ _ _ _ h => h.elim)
  · intro k a s' _ h1 hg
    refine (hg.get (by simp)).trans ?_
    exact get_alloc_eq (by simp)
  · rintro LR LB LJ _ k hkk tk1 g' h1' hm
    have hk' : k < v.sp.length := by simpa using hkk
    have hTk : ((spotsL v).map Spt.av).take (k + 1) = ((spotsL v).map Spt.av).take k ++ [Spt.av ⟨v.g.id, v.sp[k].1, v.sp[k].2.sg, v.sp[k].2.at_⟩] := by
      have hk2 : k < (spotsL v).length := by simpa [spotsL] using hk'
      rw [take_snoc hk2]; simp [spotsL]
    refine st1 h1 ?_
    refine m_look (κ := Int) (A := A) (k := v.sp[k].1) (b := mb) (enc := Plc.av) (by simp) (dz1 h2) (by simp; rfl) ?_
    have hlk : lk A v.sp[k].1 = some v.sp[k].2 := by rw [h3.lk]; exact h3.srt.lk_mem (List.getElem_mem hk')
    have hlv : lkV Plc.av A v.sp[k].1 (.agg [.v (.int .i64 0), .v (.int .i64 0)]) false = v.sp[k].2.av := by unfold lkV; rw [hlk]; rfl
    rw [hlv]
    have hlS : (spotsL v).length = v.sp.length := by simp [spotsL]
    repeat (first | simp -dsimp -implicitDefEqProofs (disch := first | omega | (simp <;> omega) | fail) [Plc.cells] | ((with_reducible first | apply m_1 | apply m_0); (focus ((conv => lhs; simp -dsimp -implicitDefEqProofs (disch := first | omega | (simp <;> omega) | fail) [Plc.cells]); done))) | ((with_reducible first | apply i_T | apply g_T); (focus (simp -dsimp -implicitDefEqProofs (disch := first | omega | (simp <;> omega) | fail) [Plc.cells]; done))) | ((with_reducible first | apply i_F | apply g_F); (focus (simp -dsimp -implicitDefEqProofs (disch := first | omega | (simp <;> omega) | fail) [Plc.cells]; done))))
    refine m_app (xs := ((spotsL v).map Spt.av).take k) (tk := tk1) (ys := [Spt.av ⟨v.g.id, v.sp[k].1, v.sp[k].2.sg, v.sp[k].2.at_⟩]) (t2 := .zero) (B := _) (N := s.n + 6)
      (by simp) (by simp; rfl) ⟨g', rfl⟩ (by simp) (by simp) (hm.swap (by simp) (by simp)) (by rw [← List.map_take]; exact head_map Spt.row _) (by simp) (by simp; omega) (by simp; omega) ?_
    rintro s' tk2 hg2 hm2 _ _
    obtain ⟨g2, rfl⟩ := hg2
    refine st0 ?_
    refine ⟨tk2, by simp, ?_, ?_⟩
    · rw [hTk]; simp; exact ⟨_, rfl⟩
    · rw [hTk]; exact (by simpa using hm2 : May _ _ _ _).swap (by simp) (by simp)
  · rintro LR tk1 g2 h1' hm
    rw [List.take_of_length_le (by simp [spotsL])] at *
    refine st0 ?_
    refine ret_okD (by simp) (by simp) (by simp; rfl) ⟨?_, by simp [retVal]; exact AV.le_no _ _⟩
    simp only [killAll, List.foldl]
    simp
    exact (((((Grows.refl s).alloc _).alloc _).alloc _).alloc _).alloc _ |>.alloc _ |>.allocs _
end Go.Proofs.Ytmpoeamfcienoaa
end
section
namespace Go.Proofs.Ytmpoeamfcienoaa
open Go.Ab
set_option linter.unusedVariables false
set_option linter.unusedSimpArgs false
set_option maxRecDepth 100000
set_option maxHeartbeats 8000000
theorem rn_ledger_New {s : AState} : Runs (compCode prog) prog F_ledger_New [] s (fun x s' => ∃ b F, x = .p b 0 ∧ LedAt s' b [] F ∧ Grows s s' ∧ ∀ x ∈ F, s.n ≤ x) := by
  refine runs_e h_ledger_New (Nat.le_of_ble_eq_true rfl) ?_
  refine st0 ?_
  refine ret_ok rfl ⟨s.n + 1, [s.n + 1, s.n], rfl, ⟨s.n, [], [], [], rfl, by simp, ?_, .nil, rfl, by simp⟩, ((Grows.refl s).alloc _).alloc _, by simp⟩
  simp (disch := first | omega | (simp <;> omega) | fail)
theorem ct_ledger_Ledger_logs {b : Nat} {s : AState} : Gives prog F_ledger_Ledger_logs [.p b 0] s (.f (.func F_ledger_Ledger_logs_1) [] [.p s.n 0]) (s.alloc (.cells [.p b 0])) := by
  refine runs_e h_ledger_Ledger_logs (Nat.le_of_ble_eq_true rfl) ?_
  refine st0 ?_
  exact ret_ok rfl ⟨rfl, rfl⟩
def pairA (B : List (Int × Nat)) : List (List AV) := B.map fun x => [.v (.int .i64 x.1), .p x.2 0]
def LogsPre (cb b mb : Nat) (A : List (Int × Nat)) (s : AState) : Prop := s.get cb = .cells [.p b 0] ∧ s.get b = .cells [.m mb] ∧ s.get mb = .map (encM ptr A)
theorem it_ledger_Ledger_logs {cb b mb : Nat} {A B : List (Int × Nat)} (hAB : Rep A B) (hw : ∀ x ∈ B, -9223372036854775808 ≤ x.1 ∧ x.1 < 9223372036854775808) (hlen : B.length * 8 ≤ 140737488355328) :
    Iter prog F_ledger_Ledger_logs_1 [] [.p cb 0] (pairA B) (LogsPre cb b mb A) := by
  intro l s I J hp ha hj hy h0
  refine runs_e h_ledger_Ledger_logs_1 (Nat.le_of_ble_eq_true rfl) ?_
  obtain ⟨p1, p2, p3⟩ := hp 0 s h0
  have l1 := AState.lt_of_get p1 (by simp)
  have l2 := AState.lt_of_get p2 (by simp)
  have l3 := AState.lt_of_get p3 (by simp)
  refine st2 p1 p2 ?_
  refine gv (ct_maps_Keys_Log) ?_
  refine st0 ?_
  refine giv (ct_sorted_Log (cb := s.n) (b := mb) (enc := ptr) (A := A) (B := B) (by simp) (dz1 p3) hAB hw hlen) (by simp) ?_
  have h1 := ha _ _ (.cells [.m mb]) h0
  generalize s.alloc (.cells [.m mb]) = s at h1 ⊢
  refine st0 ?_
  refine loop_ok [0, 1, 10, 11, 12] (fun m a s1 => ∃ j : Nat, j + m = B.length ∧ I j s1 ∧ a = { t := den 27 [(0, .y l), (1, .p cb 0), (10, .sl ((B.map (·.1)).map fun n => .v (.int .i64 n)) .no), (11, .v (.int .i64 B.length)), (12, .v (.int .i64 j))], d := [] }) B.length ?_ ?_
  · exact ⟨0, by simp, h1, by simp⟩
  · rintro m a s1 ⟨j, hjm, hI, rfl⟩
    obtain ⟨p1, p2, p3⟩ := hp j s1 hI
    by_cases hlt : j < B.length
    · have hw : IntKind.wrap .i64 ((j : Int) + 1) = ((j + 1 : Nat) : Int) := by rw [wrap_i64 (by omega) (by omega)]; omega
      repeat (first | simp -dsimp -implicitDefEqProofs (disch := first | omega | (simp <;> omega) | fail) [hlt, p1, p2] | ((with_reducible first | apply m_1 | apply m_0); (focus ((conv => lhs; simp -dsimp -implicitDefEqProofs (disch := first | omega | (simp <;> omega) | fail) [hlt, p1, p2]); done))) | ((with_reducible first | apply i_T | apply g_T); (focus (simp -dsimp -implicitDefEqProofs (disch := first | omega | (simp <;> omega) | fail) [hlt, p1, p2]; done))) | ((with_reducible first | apply i_F | apply g_F); (focus (simp -dsimp -implicitDefEqProofs (disch := first | omega | (simp <;> omega) | fail) [hlt, p1, p2]; done))))
      refine m_look (κ := Int) (A := A) (k := B[j].1) (b := mb) (enc := ptr) (by simp) p3 (by simp; rfl) ?_
      have hlk : lk A B[j].1 = some B[j].2 := by rw [hAB.lk]; exact hAB.srt.lk_mem (List.getElem_mem hlt)
      have hlv : lkV ptr A B[j].1 (.v (.pointer none)) false = .p B[j].2 0 := by unfold lkV; rw [hlk]; rfl
      rw [hlv]
      refine st0 ?_
      have hy' := hy j (by simpa [pairA] using hlt) _ hI
      simp only [pairA, List.getElem_map] at hy'
      refine yr0 (hy') ?_
      rintro _ s2 (⟨rfl, hI2⟩ | ⟨rfl, hJ⟩)
      · refine st1 hw ?_
        exact ⟨m - 1, by omega, j + 1, by omega, hI2, by simp⟩
      · refine st0 ?_
        exact ret_ok rfl (.inr hJ)
    · refine st1 hlt ?_
      have : j = B.length := by omega
      subst this
      exact end_ok rfl (.inl (by simpa [pairA] using hI))
end Go.Proofs.Ytmpoeamfcienoaa
end
section
namespace Go.Ab
def GOk (M : List (Int × LogV)) : Prop := ∀ x ∈ M, Spar x.2.g
theorem GOk.doP {M : List (Int × LogV)} (h : GOk M) (at_ : Plc) (p : Prt) : GOk (doP at_ M p) := by
  unfold Ab.doP
  split
  · next hp =>
    split
    · intro x hx; exact h x (List.mem_filter.1 hx).1
    · intro x hx
      rcases put_mem hx with rfl | hx
      · refine logDo_spar ?_ p at_
        cases hl : lk M p.gr with
        | none =>
          refine newG_spar ?_
          simp only [isPart, Bool.and_eq_true] at hp
          have := hp.1.1
          simpa [btw] using this
        | some v => exact h _ (lk_mem hl)
      · exact h x hx
  · exact h
theorem GOk.doL {M : List (Int × LogV)} (h : GOk M) (l : List Prt) (at_ : Plc) : GOk (doL M l at_) := by
  unfold Ab.doL
  induction l generalizing M with
  | nil => exact h
  | cons p l ih => exact ih (h.doP at_ p)
theorem doL_snoc {M : List (Int × LogV)} {l : List Prt} {at_ : Plc} {k : Nat} (h : k < l.length) : doL M (l.take (k + 1)) at_ = doP at_ (doL M (l.take k) at_) l[k] := by
  unfold doL; rw [List.take_succ_eq_append_getElem h, List.foldl_append]; rfl
structure DoI (s : AState) (b : Nat) (M : List (Int × LogV)) (F : List Nat) (l : List Prt) (at_ : Plc) (s' : AState) : Prop where
  b1 : s'.get s.n = .cells [.p b 0]
  b2 : s'.get (s.n + 1) = .cells at_.cells
  b3 : s'.get (s.n + 2) = .cells [.sl (l.map Prt.av) .no]
  n : s.n + 5 ≤ s'.n
  led : ∃ F', LedAt s' b M F' ∧ Mut F F' s s' ∧ ∀ x ∈ F', x < s.n ∨ s.n + 5 ≤ x
theorem DoI.keep {s : AState} {b : Nat} {M : List (Int × LogV)} {F : List Nat} {l : List Prt} {at_ : Plc} {s' s2 : AState} (h : DoI s b M F l at_ s') (hn : s'.n ≤ s2.n) (hk : ∀ x, x < s'.n → x ≠ s.n + 4 → s2.get x = s'.get x) : DoI s b M F l at_ s2 := by
  obtain ⟨h1, h2, h3, h4, F', h5, h6, h7⟩ := h
  have hF := h5.lt
  refine ⟨by rw [hk _ (by omega) (by omega)]; exact h1, by rw [hk _ (by omega) (by omega)]; exact h2, by rw [hk _ (by omega) (by omega)]; exact h3, by omega, F', h5.keep fun x hx => hk x (hF x hx) (by have := h7 x hx; omega), ⟨by have := h6.n; omega, fun x hx hn => (hk x (by have := h6.n; omega) (by omega)).trans (h6.keep x hx hn), h6.own⟩, h7⟩
end Go.Ab
namespace Go.Proofs.Ytmpoeamfcienoaa
open Go.Ab
set_option linter.unusedVariables false
set_option linter.unusedSimpArgs false
set_option maxRecDepth 100000
set_option maxHeartbeats 8000000
theorem rn_ledger_Ledger_Do {b : Nat} {M : List (Int × LogV)} {F : List Nat} {l : List Prt} {at_ : Plc} {s : AState} (hL : LedAt s b M F) (hM : GOk M) (hl : (l.length : Int) < 9223372036854775808) (he : ∀ p ∈ l, (p.es.length : Int) < 9223372036854775808) :
    Runs (compCode prog) prog F_ledger_Ledger_Do [.p b 0, .sl (l.map Prt.av) .no, at_.av] s (fun _ s' => ∃ F', LedAt s' b (doL M l at_) F' ∧ Mut F F' s s') := by
  have hlt := hL.lt
  have hb : b < s.n := hlt b hL.mem
  refine runs_e h_ledger_Ledger_Do (Nat.le_of_ble_eq_true rfl) ?_
  refine st0 ?_
  refine gv (ct_slices_Values_Part (xs := l.map Prt.av)) ?_
  refine st0 ?_
  have hit := it_slices_Values_Part l (s.n + 1 + 1) (by omega)
  refine w_rangeS (m := l.length) (by simp) hit (by intro x hx; obtain ⟨p, _, rfl⟩ := List.mem_map.1 hx; rfl) (by simp) (fun k s' => DoI s b (doL M (l.take k) at_) F l at_ s') (fun _ _ => False) ?_ ?_ ?_ ?_ ?_ ?_ ?_
  · intro LR
    refine ⟨dz0, dz0, dz0, by simp, F, hL.keep fun x hx => by have := hlt x hx; simp (disch := first | omega | (simp <;> omega) | fail), .grows ?_, fun x hx => .inl (hlt x hx)⟩
    exact (((((Grows.refl s).alloc _).alloc _).alloc _).alloc _).alloc _
  · intro k s' h; exact h.b3
  · intro k s' o hn h
    exact h.keep (by simp) fun x hx _ => get_alloc_ne (by omega)
  · intro j s' o hn h; exact h
  · intro LR LB LJ hLB hLR k hk s' hd hLL hln hI
    have hk' : k < l.length := by simpa using hk
    have hsn : (((s.alloc (.cells [.p b 0])).alloc (.cells at_.cells)).alloc (.cells [.sl (l.map Prt.av) .no])).n = s.n + 3 := by simp
    have hGk := hM.doL (l.take k) at_
    rw [doL_snoc hk']
    generalize doL M (l.take k) at_ = M1 at hI hGk ⊢
    have hpe := he _ (List.getElem_mem hk')
    simp only [List.getElem_map] at *
    generalize l[k] = p at hpe ⊢
    have hI2 := hI
    obtain ⟨h1, h2, h3, h4, F', h5, h6, h7⟩ := hI
    simp only [hsn] at *
    refine st3 h1 h2 hLL ?_
    have k1 : DoI s b M1 F l at_ ((s'.set (s.n + 4) LB).alloc (.cells p.cells)) := hI2.keep (by simp) fun x hx hn => dz1 hn
    have k2 : ((s'.set (s.n + 4) LB).alloc (.cells p.cells)).get (s.n + 4) = LB := dz0
    have k3 : ((s'.set (s.n + 4) LB).alloc (.cells p.cells)).get s'.n = .cells p.cells := by simp
    have k4 : ((s'.set (s.n + 4) LB).alloc (.cells p.cells)).get (s.n + 3) = .defd := by simp (disch := first | omega | (simp <;> omega) | fail) [hd]
    have k5 : ((s'.set (s.n + 4) LB).alloc (.cells p.cells)).n = s'.n + 1 := by simp
    have hsl : s.n + 5 ≤ s'.n := h4
    generalize s'.n = n6 at k3 k5 hsl ⊢
    generalize (s'.set (s.n + 4) LB).alloc (.cells p.cells) = s1 at k1 k2 k3 k4 k5 ⊢
    clear hI2 h1 h2 h3 h4 h5 h6 h7 hd hLL hln
    have close : ∀ s2, s2.get (s.n + 3) = .defd → DoI s b (doP at_ M1 p) F l at_ s2 → Lfi (FinS (some (s.n + 3)) (s.n + 3 + 1) LR LJ (DoI s b (doP at_ M1 p) F l at_) fun _ _ => False) none (s2.set (s.n + 3 + 1) LR) .a := fun s2 g1 g2 => by
      have := g2.n
      exact fins_n (fun d hd => by cases hd; simp (disch := first | omega | (simp <;> omega) | fail) [g1]) (dz0) (g2.keep (by simp) fun x hx hn => dz1 hn)
    obtain ⟨h1, h2, h3, h4, F1, h5, h6, h7⟩ := k1
    have hF1 := h5.lt
    refine gv (ct_part_Is (p := p) hpe) ?_
    cases hp : isPart p with
    | false =>
      refine st2 hp k2 ?_
      refine close s1 k4 ?_
      have : doP at_ M1 p = M1 := by unfold doP; rw [hp]; rfl
      rw [this]
      exact ⟨h1, h2, h3, h4, F1, h5, h6, h7⟩
    | true =>
      have h5' := h5
      obtain ⟨mb, A, B, G, rfl, e1, e2, e3, e4, e5⟩ := h5
      have hb1 : b < s1.n := hF1 b (by simp)
      have hmb1 : mb < s1.n := hF1 mb (by simp)
      have hmb2 : mb < s.n ∨ s.n + 5 ≤ mb := h7 mb (by simp)
      by_cases hk5 : p.kd = 5
      · have hdo : doP at_ M1 p = delL M1 p.gr := by unfold doP; rw [hp, if_pos hk5]; rfl
        refine st5 hp k3 hk5 h1 e1 ?_
        refine m_mdel0 (κ := Int) (A := A) (k := p.gr) (b := mb) (enc := ptr) (by simp) e2 (by simp; rfl) ?_
        have hne : mb ≠ s.n + 4 := by omega
        refine st2 k2 hne ?_
        obtain ⟨G', q1, q2⟩ := e4.drop p.gr (List.nodup_cons.1 (List.nodup_cons.1 e5).2).2
        refine close _ (dz1 k4) ?_
        rw [hdo]
        have hmbG : mb ∉ G := (List.nodup_cons.1 (List.nodup_cons.1 e5).2).1
        have hbmb : b ≠ mb := fun e => (List.nodup_cons.1 e5).1 (by simp [e])
        have hin : ∀ x ∈ b :: mb :: G', x ∈ b :: mb :: G := fun x hx => by
          rcases List.mem_cons.1 hx with rfl | hx
          · simp
          rcases List.mem_cons.1 hx with rfl | hx
          · simp
          · simp [q2.subset hx]
        refine ⟨dz1 h1, dz1 h2, dz1 h3, by simpa using h4, b :: mb :: G', ⟨mb, _, _, G', rfl, dz2 e1 hbmb, dz0, e3.del p.gr, q1.keep fun x hx => ?_, ?_⟩, ⟨by simpa using h6.n, fun x hx hn => ?_, fun x hx => h6.own x (hin x hx)⟩, fun x hx => h7 x (hin x hx)⟩
        · exact AState.get_set_ne _ _ (fun e => hmbG (by rw [← e]; exact q2.subset hx))
        · exact List.Nodup.sublist ((q2.cons_cons mb).cons_cons b) e5
        · rw [AState.get_set_ne _ _ (fun e => ?_)]
          · exact h6.keep x hx hn
          · subst e
            rcases h6.own x (by simp) with h | h
            · exact hn h
            · omega
      · have hdo : doP at_ M1 p = putL M1 p.gr (logDo ((lk M1 p.gr).getD ⟨newG p.gr, []⟩) p at_) := by unfold doP; rw [hp, if_neg hk5]; rfl
        have hmbG : mb ∉ G := (List.nodup_cons.1 (List.nodup_cons.1 e5).2).1
        have hbG : b ∉ G := fun h => (List.nodup_cons.1 e5).1 (by simp [h])
        have hbmb : b ≠ mb := fun e => (List.nodup_cons.1 e5).1 (by simp [e])
        have hGn : G.Nodup := (List.nodup_cons.1 (List.nodup_cons.1 e5).2).2
        have hSM : Srt M1 := h5'.srt
        refine st5 hp k3 hk5 h1 e1 ?_
        refine m_look (κ := Int) (A := A) (k := p.gr) (b := mb) (enc := ptr) (by simp) e2 (by simp; rfl) ?_
        cases hl : lk A p.gr with
        | some lb =>
          have hlv : lkV ptr A p.gr (.v (.pointer none)) false = .p lb 0 := by unfold lkV; rw [hl]; rfl
          rw [hlv]
          refine st3 k3 h1 e1 ?_
          refine m_look (κ := Int) (A := A) (k := p.gr) (b := mb) (enc := ptr) (by simp) e2 (by simp; rfl) ?_
          rw [hlv]
          refine st2 k3 h2 ?_
          obtain ⟨v, Fi, f1, f2, f3, f4⟩ := e4.focus hSM hGn (by rw [← e3.lk]; exact hl)
          refine run (rn_place_Log_Do (p := p) (at_ := at_) f2 (hGk _ (lk_mem f1)) hpe) (by simp) ?_
          rintro _ s2 ⟨Fi', g1, g2⟩
          obtain ⟨G', q1, q2, q3⟩ := f4 s2 _ _ g1 g2
          have hno : ∀ x, x < s1.n → s.n ≤ x → x < s.n + 5 → x ∉ Fi := fun x _ h8 h9 hx => by have := h7 x (by simp [f3 x hx]); omega
          have j2 : s2.get (s.n + 3 + 1) = LB := (g2.keep _ (by omega) (hno _ (by omega) (by omega) (by omega))).trans k2
          refine st1 j2 ?_
          refine close s2 ((g2.keep _ (by omega) (hno _ (by omega) (by omega) (by omega))).trans k4) ?_
          rw [hdo, f1]
          have q2' := q2.moreL [b, mb]
          have hb2 : s2.get b = s1.get b := q2.keep b hb1 hbG
          have hmb3 : s2.get mb = s1.get mb := q2.keep mb hmb1 hmbG
          have hG' := q2.apart (G := [b, mb]) (by simp [hbG, hmbG]) (by simp [hb1, hmb1])
          have kk : ∀ x, s.n ≤ x → x < s.n + 3 → s2.get x = s1.get x := fun x h8 h9 => g2.keep x (by omega) (hno x (by omega) (by omega) (by omega))
          refine ⟨(kk _ (by omega) (by omega)).trans h1, (kk _ (by omega) (by omega)).trans h2, (kk _ (by omega) (by omega)).trans h3, by have := g2.n; omega, b :: mb :: G', ⟨mb, A, B, G', rfl, hb2.trans e1, hmb3.trans e2, e3, q1, ?_⟩, h6.trans q2', fun x hx => ?_⟩
          · rw [List.nodup_cons, List.nodup_cons]
            exact ⟨by simp [hbmb, hG' b (by simp)], hG' mb (by simp), q3⟩
          · rcases q2'.own x hx with h8 | h8
            · exact h7 x h8
            · exact .inr (by omega)
        | none =>
          have hlv : lkV ptr A p.gr (.v (.pointer none)) false = .v (.pointer none) := by unfold lkV; rw [hl]; rfl
          rw [hlv]
          refine sd3 k3 h1 e1 ?_
          refine run (rn_place_New (id := p.gr)) (by simp) ?_
          rintro _ s2 ⟨lb, rfl, g1, g2, g3⟩
          refine ⟨m_ext g3.ext, ?_⟩
          refine sd0 ?_
          have gn := g3.n
          have gk := fun x (h : x < s1.n) => g3.get h
          refine q_mset (κ := Int) (A := A) (k := p.gr) (v := lb) (b := mb) (enc := ptr) (by simp) ((gk mb hmb1).trans e2) (by simp; rfl) (by simp [ptr]) ?_
          have hlb : lb < s2.n := g1.lt lb (by simp)
          obtain ⟨G2, r1, r2, r3⟩ := e4.add (i := p.gr) g1 (.new g3 (by simp; omega)) hGn (by rw [← e3.lk]; exact hl)
          have hg2 : ∀ x ∈ G2, x ∉ [b, mb] := fun x hx hm => r2.apart (G := [b, mb]) (by simp [hbG, hmbG]) (by simp [hb1, hmb1]) x hm hx
          have hmn6 : mb ≠ n6 := by rintro rfl; rw [k3] at e2; cases e2
          have m1 : (s2.set mb (.map (encM ptr (setM A p.gr lb)))).get (s.n + 3 + 1) = LB := dz2 gk k2
          have m2 : (s2.set mb (.map (encM ptr (setM A p.gr lb)))).get n6 = .cells p.cells := dz2 gk k3
          have m3 : (s2.set mb (.map (encM ptr (setM A p.gr lb)))).get s.n = .cells [.p b 0] := dz2 gk h1
          have m4 : (s2.set mb (.map (encM ptr (setM A p.gr lb)))).get (s.n + 1) = .cells at_.cells := dz2 gk h2
          have m5 : (s2.set mb (.map (encM ptr (setM A p.gr lb)))).get b = .cells [.m mb] := dz3 gk e1 hbmb
          have m6 : (s2.set mb (.map (encM ptr (setM A p.gr lb)))).get mb = .map (encM ptr (setM A p.gr lb)) := dz0
          have m7 : (s2.set mb (.map (encM ptr (setM A p.gr lb)))).get (s.n + 2) = .cells [.sl (l.map Prt.av) .no] := dz2 gk h3
          have m8 : (s2.set mb (.map (encM ptr (setM A p.gr lb)))).get (s.n + 3) = .defd := dz2 gk k4
          have m9 : ∀ x, x < s1.n → x ≠ mb → (s2.set mb (.map (encM ptr (setM A p.gr lb)))).get x = s1.get x := fun x hx hn => by rw [AState.get_set_ne _ _ hn]; exact gk x hx
          have m10 : (s2.set mb (.map (encM ptr (setM A p.gr lb)))).n = s2.n := rfl
          have r4 : LogsAt (s2.set mb (.map (encM ptr (setM A p.gr lb)))) (putL B p.gr lb) (putL M1 p.gr ⟨newG p.gr, []⟩) G2 := r1.keep fun x hx => AState.get_set_ne _ _ (fun e => hg2 x hx (by simp [e]))
          generalize s2.set mb (.map (encM ptr (setM A p.gr lb))) = s3 at m1 m2 m3 m4 m5 m6 m7 m8 m9 m10 r4 ⊢
          refine sd0 ?_
          refine st3 m3 m5 m2 ?_
          refine m_look (κ := Int) (A := setM A p.gr lb) (k := p.gr) (b := mb) (enc := ptr) (by simp) m6 (by simp; rfl) ?_
          have hlv : lkV ptr (setM A p.gr lb) p.gr (.v (.pointer none)) false = .p lb 0 := by unfold lkV; rw [lk_setM, if_pos rfl]; rfl
          rw [hlv]
          refine st2 m2 m4 ?_
          have e3' := e3.set p.gr lb
          have hlb2 : lk (putL B p.gr lb) p.gr = some lb := by rw [lk_put, if_pos rfl]
          obtain ⟨v, Fi, f1, f2, f3, f4⟩ := r4.focus (hSM.put _ _) r3 hlb2
          rw [lk_put, if_pos rfl] at f1
          obtain rfl : (⟨newG p.gr, []⟩ : LogV) = v := by simpa using f1
          have hsp : Spar (newG p.gr) := newG_spar (by simp only [isPart, Bool.and_eq_true] at hp; simpa [btw] using hp.1.1)
          refine run (rn_place_Log_Do (p := p) (at_ := at_) f2 hsp hpe) (by simp) ?_
          rintro _ s4 ⟨Fi', t1, t2⟩
          obtain ⟨G', q1, q2, q3⟩ := f4 s4 _ _ t1 t2
          have hFo : ∀ x ∈ G2, x < s.n ∨ s.n + 5 ≤ x := fun x hx => by
            rcases r2.own x hx with h8 | h8
            · exact h7 x (by simp [h8])
            · exact .inr (by omega)
          have hno : ∀ x, x < s3.n → s.n ≤ x → x < s.n + 5 → x ∉ Fi := fun x _ h8 h9 hx => by have := hFo x (f3 x hx); omega
          have j2 : s4.get (s.n + 3 + 1) = LB := (t2.keep _ (by omega) (hno _ (by omega) (by omega) (by omega))).trans m1
          refine st1 j2 ?_
          refine close s4 ((t2.keep _ (by omega) (hno _ (by omega) (by omega) (by omega))).trans m8) ?_
          have hdo2 : doP at_ M1 p = putL (putL M1 p.gr ⟨newG p.gr, []⟩) p.gr (logDo ⟨newG p.gr, []⟩ p at_) := by
            have hlM : lk M1 p.gr = none := (e4.no p.gr).1 (by rw [← e3.lk]; exact hl)
            rw [hdo, hlM]
            refine Srt.ext (hSM.put _ _) ((hSM.put _ _).put _ _) fun k => ?_
            rw [lk_put, lk_put, lk_put]
            split <;> rfl
          rw [hdo2]
          have hbG2 : b ∉ G2 := fun h => hg2 b h (by simp)
          have hmbG2 : mb ∉ G2 := fun h => hg2 mb h (by simp)
          have hb2 : s4.get b = s3.get b := q2.keep b (by omega) hbG2
          have hmb3 : s4.get mb = s3.get mb := q2.keep mb (by omega) hmbG2
          have hG' := q2.apart (G := [b, mb]) (by simp [hbG2, hmbG2]) (by simp; omega)
          have kk : ∀ x, s.n ≤ x → x < s.n + 3 → s4.get x = s3.get x := fun x h8 h9 => t2.keep x (by omega) (hno x (by omega) (by omega) (by omega))
          have q5 : Mut (b :: mb :: G) (b :: mb :: G') s1 s4 := by
            refine ⟨by have := t2.n; omega, fun x hx hn => ?_, fun x hx => ?_⟩
            · have hn' : x ≠ b ∧ x ≠ mb ∧ x ∉ G := by simpa using hn
              refine (q2.keep x (by omega) (fun hm => ?_)).trans (m9 x hx hn'.2.1)
              rcases r2.own x hm with h8 | h8
              · exact hn'.2.2 h8
              · omega
            · rcases List.mem_cons.1 hx with rfl | hx
              · exact .inl (by simp)
              rcases List.mem_cons.1 hx with rfl | hx
              · exact .inl (by simp)
              rcases q2.own x hx with h8 | h8
              · rcases r2.own x h8 with h9 | h9
                · exact .inl (by simp [h9])
                · exact .inr h9
              · exact .inr (by omega)
          refine ⟨(kk _ (by omega) (by omega)).trans m3, (kk _ (by omega) (by omega)).trans m4, (kk _ (by omega) (by omega)).trans m7, by have := t2.n; omega, b :: mb :: G', ⟨mb, _, _, G', rfl, hb2.trans m5, hmb3.trans m6, e3', q1, ?_⟩, h6.trans q5, fun x hx => ?_⟩
          · rw [List.nodup_cons, List.nodup_cons]
            exact ⟨by simp [hbmb, hG' b (by simp)], hG' mb (by simp), q3⟩
          · rcases q5.own x hx with h8 | h8
            · exact h7 x h8
            · exact .inr (by omega)
  · intro s' hd hln hI
    rw [List.take_length] at hI
    have hsn : (((s.alloc (.cells [.p b 0])).alloc (.cells at_.cells)).alloc (.cells [.sl (l.map Prt.av) .no])).n = s.n + 3 := by simp
    simp only [hsn] at *
    refine st0 ?_
    refine end_okD ?_ ?_ rfl ?_
    · simp (disch := first | omega | (simp <;> omega) | fail) [hd]
    · simp
    obtain ⟨h1, h2, h3, h4, F', h5, h6, h7⟩ := hI
    have hF := h5.lt
    have hk : ∀ x, x < s'.n → (x < s.n ∨ s.n + 5 ≤ x) → (killAll [s.n + 3] (s'.set (s.n + 3 + 1) .dead)).get x = s'.get x := fun x hx h8 => by
      simp only [killAll, List.foldl]
      rw [AState.get_set_ne _ _ (by omega), AState.get_set_ne _ _ (by omega)]
    exact ⟨F', h5.keep fun x hx => hk x (hF x hx) (h7 x hx), ⟨by simpa [killAll] using h6.n, fun x hx hn => (hk x (by have := h6.n; omega) (.inl hx)).trans (h6.keep x hx hn), h6.own⟩⟩
  · intro j s' _ _ h; exact h.elim
end Go.Proofs.Ytmpoeamfcienoaa
end
section
namespace Go.Ab
set_option linter.unusedVariables false
structure TellI (s : AState) (b : Nat) (l : List AV) (s' : AState) : Prop where
  b0 : ∃ tk, s'.get s.n = .cells [.sl l tk] ∧ May (s.n + 4) s' l tk
  b1 : s'.get (s.n + 1) = .cells [.p b 0]
  n : s.n + 4 ≤ s'.n
  old : ∀ x, x < s.n → s'.get x = s.get x
theorem TellI.alloc {s : AState} {b : Nat} {l : List AV} {s' : AState} (h : TellI s b l s') (o : AObj) : TellI s b l (s'.alloc o) := by
  obtain ⟨⟨tk, g1, g2⟩, b1, n, old⟩ := h
  exact ⟨⟨tk, dz1 g1, g2.alloc o⟩, dz1 b1, by simp; omega, fun x hx => dz1 (old x hx)⟩
structure Small (M : List (Int × LogV)) : Prop where
  len : M.length ≤ 1000000
  es : ∀ x ∈ M, x.2.g.es.length * 32 ≤ 140737488355328
  sp : (spotsM M).length * 32 ≤ 140737488355328
theorem LogsAt.pre {s : AState} {B : List (Int × Nat)} {M : List (Int × LogV)} {F : List Nat} (h : LogsAt s B M F) (hM : MOk M) : ∀ x ∈ B, -9223372036854775808 ≤ x.1 ∧ x.1 < 9223372036854775808 := fun x hx => by
  have : x.1 ∈ M.map (·.1) := by rw [← h.keys]; exact List.mem_map_of_mem hx
  obtain ⟨y, hy, e⟩ := List.mem_map.1 this
  have := (hM.2 y hy).rng
  omega
theorem MOk.gok {M : List (Int × LogV)} (hM : MOk M) : GOk M := fun x hx => (hM.2 x hx).g
theorem spots_le {M : List (Int × LogV)} {x : Int × LogV} (hx : x ∈ M) : x.2.sp.length ≤ (spotsM M).length := by
  induction M with
  | nil => cases hx
  | cons y M ih =>
    simp only [spotsM, List.flatMap_cons, List.length_append, List.length_map] at ih ⊢
    rcases List.mem_cons.1 hx with rfl | hx
    · omega
    · have := ih hx; omega
theorem VOk.keys {i : Int} {v : LogV} (h : VOk i v) : ∀ x ∈ v.sp, -1 ≤ x.1 ∧ x.1 ≤ MI := fun x hx => by
  have hMI := MI_eq
  rcases h.key x hx with h1 | h1 | ⟨e, he, h1⟩
  · omega
  · omega
  · have := (okEnt_iff.1 (h.g.ok e he)).1; omega
theorem grps_le (M : List (Int × LogV)) (k : Nat) : (grpsL (M.take k)).length ≤ (grpsL M).length := by simp [grpsL]; omega
theorem spots_take (M : List (Int × LogV)) (k : Nat) : (spotsM (M.take k)).length ≤ (spotsM M).length := by
  have h := congrArg (fun l => (spotsM l).length) (List.take_append_drop k M)
  simp only [spotsM, List.flatMap_append, List.length_append] at h ⊢
  omega
theorem grps_snoc {M : List (Int × LogV)} {k : Nat} (h : k < M.length) : grpsL (M.take (k + 1)) = grpsL (M.take k) ++ [M[k].2.g] := by
  have e : M.take (k + 1) = M.take k ++ [M[k]] := (List.take_append_getElem h).symm
  rw [e]; simp only [grpsL, List.map_append, List.map_cons, List.map_nil]
theorem spots_snoc {M : List (Int × LogV)} {k : Nat} (h : k < M.length) : spotsM (M.take (k + 1)) = spotsM (M.take k) ++ spotsL M[k].2 := by
  have e : M.take (k + 1) = M.take k ++ [M[k]] := (List.take_append_getElem h).symm
  rw [e]; simp only [spotsM, spotsL, List.flatMap_append, List.flatMap_cons, List.flatMap_nil, List.append_nil]
end Go.Ab
namespace Go.Proofs.Ytmpoeamfcienoaa
open Go.Ab
set_option linter.unusedVariables false
set_option linter.unusedSimpArgs false
set_option maxRecDepth 100000
set_option maxHeartbeats 8000000
theorem ct_ledger_Ledger_Groups {b : Nat} {M : List (Int × LogV)} {F : List Nat} {s : AState} (hL : LedAt s b M F) (hM : MOk M) (hS : Small M) : Gives prog F_ledger_Ledger_Groups [.p b 0] s (.sl ((grpsL M).map Grp.av) .no) s := by
  have hlt := hL.lt
  have hb : b < s.n := hlt b hL.mem
  obtain ⟨hS1, hS2, hS3⟩ := hS
  obtain ⟨mb, A, B, F', rfl, e1, e2, e3, e4, e5⟩ := hL
  have hmb : mb < s.n := hlt mb (by simp)
  have hlB := e4.len
  have hMI := MI_eq
  have hsn : ((s.alloc (.cells [.sl [] .zero])).alloc (.cells [.p b 0])).n = s.n + 2 := by simp
  refine Runs.gives (runs_e h_ledger_Ledger_Groups (Nat.le_of_ble_eq_true rfl) ?_) (flat_sl Grp.row _)
  refine st0 ?_
  refine gv (ct_ledger_Ledger_logs (b := b)) ?_
  refine st0 ?_
  have hit := it_ledger_Ledger_logs (cb := s.n + 1) (b := b) (mb := mb) e3 (e4.pre hM) (by omega)
  have hTl := grps_le M
  have hbig : (grpsL M).length * 72 ≤ 140737488355328 := by simp only [grpsL, List.length_map]; omega
  refine w_rangeS (m := M.length) (by simp) hit (by intro x hx; obtain ⟨p, _, rfl⟩ := List.mem_map.1 hx; rfl) (by simp [pairA, hlB]) (fun k s' => TellI s b ((grpsL (M.take k)).map Grp.av) s') (fun _ _ => False) ?_ ?_ ?_ ?_ ?_ ?_ ?_
  · intro LR
    exact ⟨⟨.zero, by simp (disch := first | omega | (simp <;> omega) | fail) [grpsL, spotsM], trivial⟩, dz0, by simp, fun x hx => dz0⟩
  · intro k s' h; exact ⟨h.b1, (h.old b hb).trans e1, (h.old mb hmb).trans e2⟩
  · intro k s' o hn h; exact h.alloc o
  · intro j s' o hn h; exact h
  · intro LR LB LJ hLB hLR k hk s' hd hLL hln hI
    have hkB : k < B.length := by simpa [pairA] using hk
    have hk' : k < M.length := by omega
    obtain ⟨⟨tk, g1, g2⟩, b1, n, old⟩ := hI
    obtain ⟨-, Fi, f1, f2⟩ := e4.nth hkB hk'
    have f3 : LogAt (s'.set (s.n + 2 + 1) LB) B[k].2 M[k].2 Fi := f1.keep fun x hx => by
      have := hlt x (by simp [f2 x hx])
      simp (disch := first | omega | (simp <;> omega) | fail) [old x this]
    have hok := hM.2 _ (List.getElem_mem hk')
    have hTs := hTl (k + 1)
    have hTk : grpsL (M.take (k + 1)) = grpsL (M.take k) ++ [M[k].2.g] := grps_snoc hk'
    simp only [hsn, pairA, List.getElem_map, List.zip_cons_cons, List.zip_nil_right, List.reverse_cons, List.reverse_nil, List.nil_append, List.cons_append] at hd hLL hln ⊢
    refine sd2 hLL g1 ?_
    refine gv (ct_place_Log_Group f3 (hS2 _ (List.getElem_mem hk'))) ?_
    refine sd2 hLL g1 ?_
    refine q_appS (xs := (grpsL (M.take k)).map Grp.av) (tk := tk) (ys := ([M[k].2.g]).map Grp.av) (t2 := .zero) (N := s.n + 4) (by simp) (by simp) (by simp; omega) (g2.set _ (by omega)) (head_map Grp.row _) (by simp) (by have := congrArg List.length hTk; simp only [List.length_append, List.length_map] at this ⊢; omega) (by have := congrArg List.length hTk; simp only [List.length_append, List.length_map] at this ⊢; omega) ?_
    intro s2 tk2 hm2 hlow hext
    have k0 : s2.get s.n = .cells [.sl ((grpsL (M.take k)).map Grp.av) tk] := by rw [hlow _ (by omega)]; simp (disch := first | omega | (simp <;> omega) | fail) [g1]
    have k1 : s2.get (s.n + 1) = .cells [.p b 0] := by rw [hlow _ (by omega)]; simp (disch := first | omega | (simp <;> omega) | fail) [b1]
    have k2 : s2.get (s.n + 2) = .defd := by rw [hlow _ (by omega)]; simp (disch := first | omega | (simp <;> omega) | fail) [hd]
    have k3 : s2.get (s.n + 2 + 1) = LB := by rw [hlow _ (by omega)]; simp (disch := first | omega | (simp <;> omega) | fail)
    have k4 : ∀ x, x < s.n → s2.get x = s.get x := fun x hx => by rw [hlow _ (by omega)]; simp (disch := first | omega | (simp <;> omega) | fail) [old x hx]
    have hn2 : s.n + 4 ≤ s2.n := by have := hext.1; simp at this; omega
    clear hext hlow
    refine sd1 k0 ?_
    refine st2 k0 k3 ?_
    refine fins_n (fun d hd => by cases hd; simp (disch := first | omega | (simp <;> omega) | fail) [k2]) (dz0) ⟨⟨tk2, dz1 hTk, ?_⟩, dz1 k1, by simpa using hn2, fun x hx => dz1 (k4 x hx)⟩
    rw [hTk]
    simpa using (hm2.set _ (by omega)).set _ (by omega)
  · rintro s' hd hln ⟨⟨tk, g1, g2⟩, b1, n, old⟩
    rw [List.take_length] at g1 g2
    simp only [hsn] at hd hln ⊢
    refine st1 g1 ?_
    refine ret_okD ?_ ?_ rfl ⟨⟨?_, fun x hx => .inl ?_⟩, AV.le_no _ _⟩
    · simp (disch := first | omega | (simp <;> omega) | fail) [hd]
    · simp
    · simp [killAll]; omega
    · simp (disch := first | omega | (simp <;> omega) | fail) [killAll, old x hx]
  · intro j s' _ _ h; exact h.elim
theorem ct_ledger_Ledger_Spots {b : Nat} {M : List (Int × LogV)} {F : List Nat} {s : AState} (hL : LedAt s b M F) (hM : MOk M) (hS : Small M) : Gives prog F_ledger_Ledger_Spots [.p b 0] s (.sl ((spotsM M).map Spt.av) .no) s := by
  have hlt := hL.lt
  have hb : b < s.n := hlt b hL.mem
  obtain ⟨hS1, hS2, hS3⟩ := hS
  obtain ⟨mb, A, B, F', rfl, e1, e2, e3, e4, e5⟩ := hL
  have hmb : mb < s.n := hlt mb (by simp)
  have hlB := e4.len
  have hMI := MI_eq
  have hsn : ((s.alloc (.cells [.sl [] .zero])).alloc (.cells [.p b 0])).n = s.n + 2 := by simp
  refine Runs.gives (runs_e h_ledger_Ledger_Spots (Nat.le_of_ble_eq_true rfl) ?_) (flat_sl Spt.row _)
  refine st0 ?_
  refine gv (ct_ledger_Ledger_logs (b := b)) ?_
  refine st0 ?_
  have hit := it_ledger_Ledger_logs (cb := s.n + 1) (b := b) (mb := mb) e3 (e4.pre hM) (by omega)
  have hTl := spots_take M
  have hbig : (spotsM M).length * 32 ≤ 140737488355328 := hS3
  refine w_rangeS (m := M.length) (by simp) hit (by intro x hx; obtain ⟨p, _, rfl⟩ := List.mem_map.1 hx; rfl) (by simp [pairA, hlB]) (fun k s' => TellI s b ((spotsM (M.take k)).map Spt.av) s') (fun _ _ => False) ?_ ?_ ?_ ?_ ?_ ?_ ?_
  · intro LR
    exact ⟨⟨.zero, by simp (disch := first | omega | (simp <;> omega) | fail) [grpsL, spotsM], trivial⟩, dz0, by simp, fun x hx => dz0⟩
  · intro k s' h; exact ⟨h.b1, (h.old b hb).trans e1, (h.old mb hmb).trans e2⟩
  · intro k s' o hn h; exact h.alloc o
  · intro j s' o hn h; exact h
  · intro LR LB LJ hLB hLR k hk s' hd hLL hln hI
    have hkB : k < B.length := by simpa [pairA] using hk
    have hk' : k < M.length := by omega
    obtain ⟨⟨tk, g1, g2⟩, b1, n, old⟩ := hI
    obtain ⟨-, Fi, f1, f2⟩ := e4.nth hkB hk'
    have f3 : LogAt (s'.set (s.n + 2 + 1) LB) B[k].2 M[k].2 Fi := f1.keep fun x hx => by
      have := hlt x (by simp [f2 x hx])
      simp (disch := first | omega | (simp <;> omega) | fail) [old x this]
    have hok := hM.2 _ (List.getElem_mem hk')
    have hTs := hTl (k + 1)
    have hTk : spotsM (M.take (k + 1)) = spotsM (M.take k) ++ spotsL M[k].2 := spots_snoc hk'
    simp only [hsn, pairA, List.getElem_map, List.zip_cons_cons, List.zip_nil_right, List.reverse_cons, List.reverse_nil, List.nil_append, List.cons_append] at hd hLL hln ⊢
    refine sd2 hLL g1 ?_
    refine gv (ct_place_Log_Spots f3 (fun x hx => by have := hok.keys x hx; omega) (by have := spots_le (List.getElem_mem hk'); omega)) ?_
    refine sd2 hLL g1 ?_
    refine q_appS (xs := (spotsM (M.take k)).map Spt.av) (tk := tk) (ys := (spotsL M[k].2).map Spt.av) (t2 := .no) (N := s.n + 4) (by simp) (by simp) (by simp; omega) (g2.set _ (by omega)) (head_map Spt.row _) (by simp) (by have := congrArg List.length hTk; simp only [List.length_append, List.length_map] at this ⊢; omega) (by have := congrArg List.length hTk; simp only [List.length_append, List.length_map] at this ⊢; omega) ?_
    intro s2 tk2 hm2 hlow hext
    have k0 : s2.get s.n = .cells [.sl ((spotsM (M.take k)).map Spt.av) tk] := by rw [hlow _ (by omega)]; simp (disch := first | omega | (simp <;> omega) | fail) [g1]
    have k1 : s2.get (s.n + 1) = .cells [.p b 0] := by rw [hlow _ (by omega)]; simp (disch := first | omega | (simp <;> omega) | fail) [b1]
    have k2 : s2.get (s.n + 2) = .defd := by rw [hlow _ (by omega)]; simp (disch := first | omega | (simp <;> omega) | fail) [hd]
    have k3 : s2.get (s.n + 2 + 1) = LB := by rw [hlow _ (by omega)]; simp (disch := first | omega | (simp <;> omega) | fail)
    have k4 : ∀ x, x < s.n → s2.get x = s.get x := fun x hx => by rw [hlow _ (by omega)]; simp (disch := first | omega | (simp <;> omega) | fail) [old x hx]
    have hn2 : s.n + 4 ≤ s2.n := by have := hext.1; simp at this; omega
    clear hext hlow
    refine sd1 k0 ?_
    refine st2 k0 k3 ?_
    refine fins_n (fun d hd => by cases hd; simp (disch := first | omega | (simp <;> omega) | fail) [k2]) (dz0) ⟨⟨tk2, dz1 hTk, ?_⟩, dz1 k1, by simpa using hn2, fun x hx => dz1 (k4 x hx)⟩
    rw [hTk]
    simpa using (hm2.set _ (by omega)).set _ (by omega)
  · rintro s' hd hln ⟨⟨tk, g1, g2⟩, b1, n, old⟩
    rw [List.take_length] at g1 g2
    simp only [hsn] at hd hln ⊢
    refine st1 g1 ?_
    refine ret_okD ?_ ?_ rfl ⟨⟨?_, fun x hx => .inl ?_⟩, AV.le_no _ _⟩
    · simp (disch := first | omega | (simp <;> omega) | fail) [hd]
    · simp
    · simp [killAll]; omega
    · simp (disch := first | omega | (simp <;> omega) | fail) [killAll, old x hx]
  · intro j s' _ _ h; exact h.elim
end Go.Proofs.Ytmpoeamfcienoaa
end
section
namespace Go.Ab
set_option linter.unusedVariables false
set_option linter.unusedSimpArgs false
theorem part_gr {p : Prt} (h : isPart p = true) : 0 ≤ p.gr ∧ p.gr ≤ 999 := by
  simp only [isPart, Bool.and_eq_true] at h; simpa [btw] using h.1.1
theorem doS_id (g : Grp) (p : Prt) : (doS g p).id = g.id := by
  have h1 : ∀ (g : Grp) i t, (goneS g i t).id = g.id := fun g i t => by unfold goneS; split <;> rfl
  have h2 : ∀ (l : List Ent) (g : Grp), (l.foldl putS g).id = g.id := fun l => by
    induction l with
    | nil => intro g; rfl
    | cons e l ih => intro g; rw [List.foldl_cons, ih]; unfold putS; split <;> rfl
  unfold doS
  split
  · split
    · rfl
    split
    · rfl
    split
    · exact h1 _ _ _
    split
    · rw [h1]; split <;> rfl
    split
    · unfold fwdS; rw [h2]; split <;> split <;> first | rfl | exact h1 _ _ _
    · rfl
  · rfl
section
variable {look : Int → Option Plc} {p : Prt} {at_ : Plc}
theorem lk_nx0 (k : Int) (c : List (Int × Plc)) (i : Int) : lk (nx0 putL look k c) i = if i = k then (match look k with | some x => some x | none => lk c i) else lk c i := by
  unfold nx0
  cases look k with
  | none => simp
  | some x => simp [lk_put]
theorem lk_nx1s : ∀ {es : List Ent} (c : List (Int × Plc)) (i : Int), (es.Pairwise fun a b => a.ix < b.ix) →
    lk (es.foldl (nx1 putL look p at_) c) i = match es.find? (fun e => decide (e.ix = i)) with | some e => some (if broughtS p e = true then at_ else (look i).getD ⟨0, 0⟩) | none => lk c i
  | [], c, i, _ => rfl
  | e :: es, c, i, h => by
    obtain ⟨h1, h2⟩ := List.pairwise_cons.1 h
    rw [List.foldl_cons, lk_nx1s _ _ h2, List.find?_cons]
    have hc : lk (nx1 putL look p at_ c e) i = if i = e.ix then some (if broughtS p e = true then at_ else (look e.ix).getD ⟨0, 0⟩) else lk c i := by
      unfold nx1
      split
      · rw [lk_put, lk_put]; by_cases a : i = e.ix <;> simp [a]
      · rw [lk_put]
    by_cases a : e.ix = i
    · have : es.find? (fun e => decide (e.ix = i)) = none := List.find?_eq_none.2 fun x hx => by have := h1 x hx; simp; omega
      rw [this]
      simp only [hc, a]
      simp [a]
    · have : ¬ i = e.ix := fun e => a e.symm
      rw [hc, if_neg this]
      simp [a]
theorem lk_next (old now : Grp) (i : Int) (h : now.es.Pairwise fun a b => a.ix < b.ix) :
    lk (nextW putL look p at_ old now) i = if marksS p old now = true ∧ i = 0 then some at_ else if (p.kd = 2 ∨ p.he = true) ∧ i = -1 then some at_ else
      match now.es.find? (fun e => decide (e.ix = i)) with | some e => some (if broughtS p e = true then at_ else (look i).getD ⟨0, 0⟩) | none => if i = 0 ∨ i = -1 then look i else none := by
  unfold nextW
  have hI : lk (nxI putL look p at_ now.es) i = match now.es.find? (fun e => decide (e.ix = i)) with | some e => some (if broughtS p e = true then at_ else (look i).getD ⟨0, 0⟩) | none => if i = 0 ∨ i = -1 then look i else none := by
    unfold nxI
    rw [lk_nx1s _ _ h, lk_nx0, lk_nx0]
    cases now.es.find? (fun e => decide (e.ix = i)) with
    | some e => rfl
    | none =>
      by_cases a : i = 0
      · subst a; cases look 0 <;> simp
      · by_cases b : i = -1
        · subst b; cases look (-1) <;> simp
        · simp [a, b]
  unfold nxM nxH
  by_cases hm : marksS p old now = true
  · rw [if_pos hm, lk_put]
    by_cases a : i = 0
    · simp [hm, a]
    · rw [if_neg a, if_neg (fun h : marksS p old now = true ∧ i = 0 => a h.2)]
      by_cases hh : p.kd = 2 ∨ p.he = true
      · rw [if_pos hh, lk_put]
        by_cases b : i = -1
        · simp [hh, b]
        · rw [if_neg b, if_neg (fun h : (p.kd = 2 ∨ p.he = true) ∧ i = -1 => b h.2)]; exact hI
      · rw [if_neg hh, if_neg (fun h : (p.kd = 2 ∨ p.he = true) ∧ i = -1 => hh h.1)]; exact hI
  · rw [if_neg hm, if_neg (fun h : marksS p old now = true ∧ i = 0 => hm h.1)]
    by_cases hh : p.kd = 2 ∨ p.he = true
    · rw [if_pos hh, lk_put]
      by_cases b : i = -1
      · simp [hh, b]
      · rw [if_neg b, if_neg (fun h : (p.kd = 2 ∨ p.he = true) ∧ i = -1 => b h.2)]; exact hI
    · rw [if_neg hh, if_neg (fun h : (p.kd = 2 ∨ p.he = true) ∧ i = -1 => hh h.1)]; exact hI
end
theorem next_srt (look : Int → Option Plc) (p : Prt) (at_ : Plc) (old now : Grp) : Srt (nextW putL look p at_ old now) := (nextW_rep (look := look) (look' := look) (fun _ => rfl) p at_ old now).srt
end Go.Ab
end
section
namespace Go.Ab
set_option linter.unusedVariables false
set_option linter.unusedSimpArgs false
theorem has_of {es : List Ent} (h : es.Pairwise fun a b => a.ix < b.ix) {i : Int} {e : Ent} (he : e ∈ es) (hi : e.ix = i) : es.find? (fun e => decide (e.ix = i)) = some e := by
  induction es with
  | nil => cases he
  | cons x es ih =>
    obtain ⟨h1, h2⟩ := List.pairwise_cons.1 h
    rw [List.find?_cons]
    rcases List.mem_cons.1 he with rfl | he
    · simp [hi]
    · have := h1 e he
      have hx : ¬ x.ix = i := by omega
      simp only [hx, decide_false]
      exact ih h2 he
theorem VOk.new {id : Int} (h : 0 ≤ id ∧ id ≤ 999) : VOk id ⟨newG id, []⟩ := ⟨rfl, h, newG_spar h, .nil, by simp, by simp [newG]⟩
theorem VOk.do {i : Int} {v : LogV} (h : VOk i v) (p : Prt) (at_ : Plc) : VOk i (logDo v p at_) := by
  unfold logDo
  split
  case isFalse => exact h
  case isTrue hok =>
    have hS := h.g.doS p
    refine ⟨by rw [doS_id]; exact h.id, h.rng, hS, next_srt _ _ _ _ _, fun x hx => ?_, fun e he => ?_⟩
    · have hl := (next_srt (lk v.sp) p at_ v.g (doS v.g p)).lk_mem hx
      rw [lk_next _ _ _ hS.srt] at hl
      split at hl
      · next hc => exact .inr (.inl hc.2)
      split at hl
      · next hc => exact .inl hc.2
      split at hl
      · next e hf =>
        have := List.find?_some hf
        exact .inr (.inr ⟨e, List.mem_of_find?_eq_some hf, by simpa using (by simpa using this : e.ix = x.1).symm⟩)
      split at hl
      · next hc => rcases hc with hc | hc
                   · exact .inr (.inl hc)
                   · exact .inl hc
      · cases hl
    · have hl := lk_next (look := lk v.sp) (p := p) (at_ := at_) v.g (doS v.g p) e.ix hS.srt
      have hpos := (okEnt_iff.1 (hS.ok e he)).1
      rw [if_neg (fun hc => by have := hc.2; omega), if_neg (fun hc => by have := hc.2; omega), has_of hS.srt he rfl] at hl
      exact ⟨_, lk_mem hl, rfl⟩
theorem MOk.at {M : List (Int × LogV)} (hM : MOk M) {i : Int} (hi : 0 ≤ i ∧ i ≤ 999) : VOk i ((lk M i).getD ⟨newG i, []⟩) := by
  cases h : lk M i with
  | none => exact .new hi
  | some v => exact hM.2 _ (lk_mem h)
theorem MOk.doP {M : List (Int × LogV)} (hM : MOk M) (at_ : Plc) (p : Prt) : MOk (doP at_ M p) := by
  unfold Ab.doP
  split
  · next hp =>
    split
    · exact ⟨hM.1.del _, fun x hx => hM.2 x (List.mem_filter.1 hx).1⟩
    · refine ⟨hM.1.put _ _, fun x hx => ?_⟩
      rcases put_mem hx with rfl | hx
      · exact (hM.at (part_gr hp)).do p at_
      · exact hM.2 x hx
  · exact hM
theorem MOk.doL {M : List (Int × LogV)} (hM : MOk M) (l : List Prt) (at_ : Plc) : MOk (doL M l at_) := by
  unfold Ab.doL
  induction l generalizing M with
  | nil => exact hM
  | cons p l ih => exact ih (hM.doP at_ p)
end Go.Ab
end
section
namespace Go.Ab
open Go.RowKit Go.Proofs
set_option linter.unusedVariables false
set_option linter.unusedSimpArgs false
@[ext] structure Stp where
  l : List Prt
  sg : Int
  at_ : Int
  deriving DecidableEq, Inhabited
end Go.Ab
end
section
namespace Go.Proofs.Ytmpoeamfcienoaa
open Go.Ab
set_option linter.unusedVariables false
set_option linter.unusedSimpArgs false
set_option maxRecDepth 100000
set_option maxHeartbeats 4000000
def fewPart (p : Prt) : Bool := ((List.range p.es.length).all fun j => !decide ((60 : Int) < ((p.es.getD j default).da.size : Int))) && decide ((p.es.length : Int) ≤ 8)
def fewParts (l : List Prt) : Bool := ((List.range l.length).all fun j => fewPart (l.getD j default)) && decide ((l.length : Int) ≤ 6)
def fewFound (l : List Fnd) : Bool := ((List.range l.length).all fun j => fewParts (l.getD j default).ps) && decide ((l.length : Int) ≤ 30)
theorem ct_ladelaw13_fewPart {x : Prt} {s : AState} (hl : (x.es.length : Int) < 9223372036854775808)  : Gives prog F_ladelaw13_fewPart [x.av] s (.v (.bool (fewPart x))) s := by
  refine Runs.gives' (runs_e h_ladelaw13_fewPart (Nat.le_of_ble_eq_true rfl) ?_) (.v _)
  unfold fewPart
  refine st0 ?_
  refine loop_ok [0, 1, 3] (fun k a s1 => Grows (s.alloc (.cells x.cells)) s1 ∧ ∃ i : Nat, i + k = x.es.length ∧ ((List.range i).all (fun j => !decide ((60 : Int) < ((x.es.getD j default).da.size : Int)))) = true ∧ a = { t := den 23 [(0, x.av), (1, .p s.n 0), (3, .v (.int .i64 i))], d := [] }) x.es.length ?_ ?_
  · exact ⟨.refl _, 0, by simp, rfl, by simp⟩
  · rintro k a s1 ⟨hg, i, hik, hall, rfl⟩
    by_cases hlt : i < x.es.length
    · have e1 : x.es.getD i default = x.es[i] := by simp [hlt]
      have hG := trivial
      have hG2 := trivial
      have hw : IntKind.wrap .i64 ((i : Int) + 1) = (i : Int) + 1 := wrap_i64 (by omega) (by omega)
      have hgb := hg.get (b := s.n)
      try simp at hgb
      clear hl
      repeat' (first | refine sa0 ?_ | ((with_reducible first | apply s_split | apply s_gsplit) <;> (intro hb; have hb' := hb; try simp only [decide_eq_true_eq, decide_eq_false_iff_not, beq_iff_eq, beq_eq_false_iff_ne, bne_iff_ne, bne_eq_false_iff_eq, ne_eq, Bool.not_true, Bool.not_false, Bool.not_eq_true', Bool.not_eq_false', Bool.and_eq_true, Bool.or_eq_true, Bool.or_eq_false_iff] at hb; try simp at hb')))
      all_goals first
        | exact ⟨k - 1, by omega, (by first | exact hg | exact hg.alloc _), i + 1, by omega, all_step hall (by simp only [e1]; simp [*]), by simp [hw]⟩
        | (refine ret_ok rfl ⟨((Grows.refl _).alloc _).trans hg, ?_⟩; rw [all_stop hlt (by simp only [e1]; simp [*])]; exact AV.le.refl _)
    · have hgb := hg.get (b := s.n)
      try simp at hgb
      refine st2 hlt hgb ?_
      have : i = x.es.length := by omega
      subst this
      refine ret_ok rfl ⟨((Grows.refl _).alloc _).trans hg, ?_⟩
      rw [hall]; simp [AV.le.refl]
theorem ct_ladelaw14_fewPart {x : Prt} {s : AState} (hl : (x.es.length : Int) < 9223372036854775808)  : Gives prog F_ladelaw14_fewPart [x.av] s (.v (.bool (fewPart x))) s := by
  refine Runs.gives' (runs_e h_ladelaw14_fewPart (Nat.le_of_ble_eq_true rfl) ?_) (.v _)
  unfold fewPart
  refine st0 ?_
  refine loop_ok [0, 1, 3] (fun k a s1 => Grows (s.alloc (.cells x.cells)) s1 ∧ ∃ i : Nat, i + k = x.es.length ∧ ((List.range i).all (fun j => !decide ((60 : Int) < ((x.es.getD j default).da.size : Int)))) = true ∧ a = { t := den 23 [(0, x.av), (1, .p s.n 0), (3, .v (.int .i64 i))], d := [] }) x.es.length ?_ ?_
  · exact ⟨.refl _, 0, by simp, rfl, by simp⟩
  · rintro k a s1 ⟨hg, i, hik, hall, rfl⟩
    by_cases hlt : i < x.es.length
    · have e1 : x.es.getD i default = x.es[i] := by simp [hlt]
      have hG := trivial
      have hG2 := trivial
      have hw : IntKind.wrap .i64 ((i : Int) + 1) = (i : Int) + 1 := wrap_i64 (by omega) (by omega)
      have hgb := hg.get (b := s.n)
      try simp at hgb
      clear hl
      repeat' (first | simp -dsimp -implicitDefEqProofs (disch := first | omega | (simp <;> omega) | fail) [*] | ((with_reducible first | apply m_1 | apply m_0); (focus ((conv => lhs; simp -dsimp -implicitDefEqProofs (disch := first | omega | (simp <;> omega) | fail) [*]); done))) | ((with_reducible first | apply i_T | apply g_T); (focus (simp -dsimp -implicitDefEqProofs (disch := first | omega | (simp <;> omega) | fail) [*]; done))) | ((with_reducible first | apply i_F | apply g_F); (focus (simp -dsimp -implicitDefEqProofs (disch := first | omega | (simp <;> omega) | fail) [*]; done))) | ((with_reducible first | apply s_split | apply s_gsplit) <;> (intro hb; have hb' := hb; try simp only [decide_eq_true_eq, decide_eq_false_iff_not, beq_iff_eq, beq_eq_false_iff_ne, bne_iff_ne, bne_eq_false_iff_eq, ne_eq, Bool.not_true, Bool.not_false, Bool.not_eq_true', Bool.not_eq_false', Bool.and_eq_true, Bool.or_eq_true, Bool.or_eq_false_iff] at hb; try simp at hb')))
      all_goals first
        | exact ⟨k - 1, by omega, (by first | exact hg | exact hg.alloc _), i + 1, by omega, all_step hall (by simp only [e1]; simp [*]), by simp [hw]⟩
        | (refine ret_ok rfl ⟨((Grows.refl _).alloc _).trans hg, ?_⟩; rw [all_stop hlt (by simp only [e1]; simp [*])]; exact AV.le.refl _)
    · have hgb := hg.get (b := s.n)
      try simp at hgb
      refine st2 hlt hgb ?_
      have : i = x.es.length := by omega
      subst this
      refine ret_ok rfl ⟨((Grows.refl _).alloc _).trans hg, ?_⟩
      rw [hall]; simp [AV.le.refl]
theorem ct_ladelaw14_fewParts {x : List Prt} {s : AState} (hl : (x.length : Int) < 9223372036854775808) (hes : ∀ p ∈ x, (p.es.length : Int) < 9223372036854775808) : Gives prog F_ladelaw14_fewParts [.sl (x.map Prt.av) .no] s (.v (.bool (fewParts x))) s := by
  refine Runs.gives' (runs_e h_ladelaw14_fewParts (Nat.le_of_ble_eq_true rfl) ?_) (.v _)
  unfold fewParts
  refine st0 ?_
  refine loop_ok [0, 3] (fun k a s1 => Grows (s) s1 ∧ ∃ i : Nat, i + k = x.length ∧ ((List.range i).all (fun j => fewPart (x.getD j default))) = true ∧ a = { t := den 19 [(0, .sl (x.map Prt.av) .no), (3, .v (.int .i64 i))], d := [] }) x.length ?_ ?_
  · exact ⟨.refl _, 0, by simp, rfl, by simp⟩
  · rintro k a s1 ⟨hg, i, hik, hall, rfl⟩
    by_cases hlt : i < x.length
    · have e1 : x.getD i default = x[i] := by simp [hlt]
      have hG := hes _ (List.getElem_mem hlt)
      have hG2 := trivial
      have hw : IntKind.wrap .i64 ((i : Int) + 1) = (i : Int) + 1 := wrap_i64 (by omega) (by omega)
      have hgb := hg.get (b := s.n)
      try simp at hgb
      clear hl hes
      repeat' (first | simp -dsimp -implicitDefEqProofs (disch := first | omega | (simp <;> omega) | fail) [*] | ((with_reducible first | apply m_1 | apply m_0); (focus ((conv => lhs; simp -dsimp -implicitDefEqProofs (disch := first | omega | (simp <;> omega) | fail) [*]); done))) | ((with_reducible apply giv); (case hAR => ((conv => lhs; simp -dsimp -implicitDefEqProofs (disch := first | omega | (simp <;> omega) | fail) [*]); done)); (case hCT => (first | (apply ct_ladelaw14_fewPart <;> first | assumption | omega | decide)))) | ((with_reducible first | apply i_T | apply g_T); (focus (simp -dsimp -implicitDefEqProofs (disch := first | omega | (simp <;> omega) | fail) [*]; done))) | ((with_reducible first | apply i_F | apply g_F); (focus (simp -dsimp -implicitDefEqProofs (disch := first | omega | (simp <;> omega) | fail) [*]; done))) | ((with_reducible first | apply s_split | apply s_gsplit) <;> (intro hb; have hb' := hb; try simp only [decide_eq_true_eq, decide_eq_false_iff_not, beq_iff_eq, beq_eq_false_iff_ne, bne_iff_ne, bne_eq_false_iff_eq, ne_eq, Bool.not_true, Bool.not_false, Bool.not_eq_true', Bool.not_eq_false', Bool.and_eq_true, Bool.or_eq_true, Bool.or_eq_false_iff] at hb; try simp at hb')))
      all_goals first
        | exact ⟨k - 1, by omega, (by first | exact hg | exact hg.alloc _), i + 1, by omega, all_step hall (by simp only [e1]; simp [*]), by simp [hw]⟩
        | (refine ret_ok rfl ⟨hg, ?_⟩; rw [all_stop hlt (by simp only [e1]; simp [*])]; exact AV.le.refl _)
    · have hgb := hg.get (b := s.n)
      try simp at hgb
      refine st2 hlt hgb ?_
      have : i = x.length := by omega
      subst this
      refine ret_ok rfl ⟨hg, ?_⟩
      rw [hall]; simp [AV.le.refl]
theorem ct_ladelaw19_fewPart {x : Prt} {s : AState} (hl : (x.es.length : Int) < 9223372036854775808)  : Gives prog F_ladelaw19_fewPart [x.av] s (.v (.bool (fewPart x))) s := by
  refine Runs.gives' (runs_e h_ladelaw19_fewPart (Nat.le_of_ble_eq_true rfl) ?_) (.v _)
  unfold fewPart
  refine st0 ?_
  refine loop_ok [0, 1, 3] (fun k a s1 => Grows (s.alloc (.cells x.cells)) s1 ∧ ∃ i : Nat, i + k = x.es.length ∧ ((List.range i).all (fun j => !decide ((60 : Int) < ((x.es.getD j default).da.size : Int)))) = true ∧ a = { t := den 23 [(0, x.av), (1, .p s.n 0), (3, .v (.int .i64 i))], d := [] }) x.es.length ?_ ?_
  · exact ⟨.refl _, 0, by simp, rfl, by simp⟩
  · rintro k a s1 ⟨hg, i, hik, hall, rfl⟩
    by_cases hlt : i < x.es.length
    · have e1 : x.es.getD i default = x.es[i] := by simp [hlt]
      have hG := trivial
      have hG2 := trivial
      have hw : IntKind.wrap .i64 ((i : Int) + 1) = (i : Int) + 1 := wrap_i64 (by omega) (by omega)
      have hgb := hg.get (b := s.n)
      try simp at hgb
      clear hl
      repeat' (first | simp -dsimp -implicitDefEqProofs (disch := first | omega | (simp <;> omega) | fail) [*] | ((with_reducible first | apply m_1 | apply m_0); (focus ((conv => lhs; simp -dsimp -implicitDefEqProofs (disch := first | omega | (simp <;> omega) | fail) [*]); done))) | ((with_reducible first | apply i_T | apply g_T); (focus (simp -dsimp -implicitDefEqProofs (disch := first | omega | (simp <;> omega) | fail) [*]; done))) | ((with_reducible first | apply i_F | apply g_F); (focus (simp -dsimp -implicitDefEqProofs (disch := first | omega | (simp <;> omega) | fail) [*]; done))) | ((with_reducible first | apply s_split | apply s_gsplit) <;> (intro hb; have hb' := hb; try simp only [decide_eq_true_eq, decide_eq_false_iff_not, beq_iff_eq, beq_eq_false_iff_ne, bne_iff_ne, bne_eq_false_iff_eq, ne_eq, Bool.not_true, Bool.not_false, Bool.not_eq_true', Bool.not_eq_false', Bool.and_eq_true, Bool.or_eq_true, Bool.or_eq_false_iff] at hb; try simp at hb')))
      all_goals first
        | exact ⟨k - 1, by omega, (by first | exact hg | exact hg.alloc _), i + 1, by omega, all_step hall (by simp only [e1]; simp [*]), by simp [hw]⟩
        | (refine ret_ok rfl ⟨((Grows.refl _).alloc _).trans hg, ?_⟩; rw [all_stop hlt (by simp only [e1]; simp [*])]; exact AV.le.refl _)
    · have hgb := hg.get (b := s.n)
      try simp at hgb
      refine st2 hlt hgb ?_
      have : i = x.es.length := by omega
      subst this
      refine ret_ok rfl ⟨((Grows.refl _).alloc _).trans hg, ?_⟩
      rw [hall]; simp [AV.le.refl]
theorem ct_ladelaw19_fewParts {x : List Prt} {s : AState} (hl : (x.length : Int) < 9223372036854775808) (hes : ∀ p ∈ x, (p.es.length : Int) < 9223372036854775808) : Gives prog F_ladelaw19_fewParts [.sl (x.map Prt.av) .no] s (.v (.bool (fewParts x))) s := by
  refine Runs.gives' (runs_e h_ladelaw19_fewParts (Nat.le_of_ble_eq_true rfl) ?_) (.v _)
  unfold fewParts
  refine st0 ?_
  refine loop_ok [0, 3] (fun k a s1 => Grows (s) s1 ∧ ∃ i : Nat, i + k = x.length ∧ ((List.range i).all (fun j => fewPart (x.getD j default))) = true ∧ a = { t := den 19 [(0, .sl (x.map Prt.av) .no), (3, .v (.int .i64 i))], d := [] }) x.length ?_ ?_
  · exact ⟨.refl _, 0, by simp, rfl, by simp⟩
  · rintro k a s1 ⟨hg, i, hik, hall, rfl⟩
    by_cases hlt : i < x.length
    · have e1 : x.getD i default = x[i] := by simp [hlt]
      have hG := hes _ (List.getElem_mem hlt)
      have hG2 := trivial
      have hw : IntKind.wrap .i64 ((i : Int) + 1) = (i : Int) + 1 := wrap_i64 (by omega) (by omega)
      have hgb := hg.get (b := s.n)
      try simp at hgb
      clear hl hes
      repeat' (first | simp -dsimp -implicitDefEqProofs (disch := first | omega | (simp <;> omega) | fail) [*] | ((with_reducible first | apply m_1 | apply m_0); (focus ((conv => lhs; simp -dsimp -implicitDefEqProofs (disch := first | omega | (simp <;> omega) | fail) [*]); done))) | ((with_reducible apply giv); (case hAR => ((conv => lhs; simp -dsimp -implicitDefEqProofs (disch := first | omega | (simp <;> omega) | fail) [*]); done)); (case hCT => (first | (apply ct_ladelaw19_fewPart <;> first | assumption | omega | decide)))) | ((with_reducible first | apply i_T | apply g_T); (focus (simp -dsimp -implicitDefEqProofs (disch := first | omega | (simp <;> omega) | fail) [*]; done))) | ((with_reducible first | apply i_F | apply g_F); (focus (simp -dsimp -implicitDefEqProofs (disch := first | omega | (simp <;> omega) | fail) [*]; done))) | ((with_reducible first | apply s_split | apply s_gsplit) <;> (intro hb; have hb' := hb; try simp only [decide_eq_true_eq, decide_eq_false_iff_not, beq_iff_eq, beq_eq_false_iff_ne, bne_iff_ne, bne_eq_false_iff_eq, ne_eq, Bool.not_true, Bool.not_false, Bool.not_eq_true', Bool.not_eq_false', Bool.and_eq_true, Bool.or_eq_true, Bool.or_eq_false_iff] at hb; try simp at hb')))
      all_goals first
        | exact ⟨k - 1, by omega, (by first | exact hg | exact hg.alloc _), i + 1, by omega, all_step hall (by simp only [e1]; simp [*]), by simp [hw]⟩
        | (refine ret_ok rfl ⟨hg, ?_⟩; rw [all_stop hlt (by simp only [e1]; simp [*])]; exact AV.le.refl _)
    · have hgb := hg.get (b := s.n)
      try simp at hgb
      refine st2 hlt hgb ?_
      have : i = x.length := by omega
      subst this
      refine ret_ok rfl ⟨hg, ?_⟩
      rw [hall]; simp [AV.le.refl]
theorem ct_ladelaw19_fewFound {x : List Fnd} {s : AState} (hl : (x.length : Int) < 9223372036854775808) (hps : ∀ f ∈ x, (f.ps.length : Int) < 9223372036854775808) (hes : ∀ f ∈ x, ∀ p ∈ f.ps, (p.es.length : Int) < 9223372036854775808) : Gives prog F_ladelaw19_fewFound [.sl (x.map Fnd.av) .no] s (.v (.bool (fewFound x))) s := by
  refine Runs.gives' (runs_e h_ladelaw19_fewFound (Nat.le_of_ble_eq_true rfl) ?_) (.v _)
  unfold fewFound
  refine st0 ?_
  refine loop_ok [0, 3] (fun k a s1 => Grows (s) s1 ∧ ∃ i : Nat, i + k = x.length ∧ ((List.range i).all (fun j => fewParts (x.getD j default).ps)) = true ∧ a = { t := den 21 [(0, .sl (x.map Fnd.av) .no), (3, .v (.int .i64 i))], d := [] }) x.length ?_ ?_
  · exact ⟨.refl _, 0, by simp, rfl, by simp⟩
  · rintro k a s1 ⟨hg, i, hik, hall, rfl⟩
    by_cases hlt : i < x.length
    · have e1 : x.getD i default = x[i] := by simp [hlt]
      have hG := hps _ (List.getElem_mem hlt)
      have hG2 := hes _ (List.getElem_mem hlt)
      have hw : IntKind.wrap .i64 ((i : Int) + 1) = (i : Int) + 1 := wrap_i64 (by omega) (by omega)
      have hgb := hg.get (b := s.n)
      try simp at hgb
      clear hl hps hes
      repeat' (first | simp -dsimp -implicitDefEqProofs (disch := first | omega | (simp <;> omega) | fail) [*] | ((with_reducible first | apply m_1 | apply m_0); (focus ((conv => lhs; simp -dsimp -implicitDefEqProofs (disch := first | omega | (simp <;> omega) | fail) [*]); done))) | ((with_reducible apply giv); (case hAR => ((conv => lhs; simp -dsimp -implicitDefEqProofs (disch := first | omega | (simp <;> omega) | fail) [*]); done)); (case hCT => (first | (apply ct_ladelaw19_fewParts <;> first | assumption | omega | decide)))) | ((with_reducible first | apply i_T | apply g_T); (focus (simp -dsimp -implicitDefEqProofs (disch := first | omega | (simp <;> omega) | fail) [*]; done))) | ((with_reducible first | apply i_F | apply g_F); (focus (simp -dsimp -implicitDefEqProofs (disch := first | omega | (simp <;> omega) | fail) [*]; done))) | ((with_reducible first | apply s_split | apply s_gsplit) <;> (intro hb; have hb' := hb; try simp only [decide_eq_true_eq, decide_eq_false_iff_not, beq_iff_eq, beq_eq_false_iff_ne, bne_iff_ne, bne_eq_false_iff_eq, ne_eq, Bool.not_true, Bool.not_false, Bool.not_eq_true', Bool.not_eq_false', Bool.and_eq_true, Bool.or_eq_true, Bool.or_eq_false_iff] at hb; try simp at hb')))
      all_goals first
        | exact ⟨k - 1, by omega, (by first | exact hg | exact hg.alloc _), i + 1, by omega, all_step hall (by simp only [e1]; simp [*]), by simp [hw]⟩
        | (refine ret_ok rfl ⟨hg, ?_⟩; rw [all_stop hlt (by simp only [e1]; simp [*])]; exact AV.le.refl _)
    · have hgb := hg.get (b := s.n)
      try simp at hgb
      refine st2 hlt hgb ?_
      have : i = x.length := by omega
      subst this
      refine ret_ok rfl ⟨hg, ?_⟩
      rw [hall]; simp [AV.le.refl]
theorem fewParts_len {l : List Prt} (h : fewParts l = true) : l.length ≤ 6 ∧ (∀ p ∈ l, p.es.length ≤ 8) := by
  simp only [fewParts, Bool.and_eq_true, decide_eq_true_eq, List.all_eq_true, List.mem_range] at h
  refine ⟨by omega, fun p hp => ?_⟩
  obtain ⟨j, hj, rfl⟩ := List.getElem_of_mem hp
  have := h.1 j hj
  rw [List.getD_eq_getElem?_getD, List.getElem?_eq_getElem hj] at this
  simp only [fewPart, Bool.and_eq_true, decide_eq_true_eq, Option.getD_some] at this
  omega
end Go.Proofs.Ytmpoeamfcienoaa
end
section
namespace Go.Ab
set_option linter.unusedVariables false
theorem srt_len2 {α : Type} : ∀ {l : List (Int × α)} {lo hi : Int}, Srt l → (∀ x ∈ l, lo ≤ x.1 ∧ x.1 ≤ hi) → lo ≤ hi + 1 → (l.length : Int) ≤ hi - lo + 1
  | [], lo, hi, _, _, h => by simp; omega
  | x :: l, lo, hi, hs, hr, h => by
    obtain ⟨h1, h2⟩ := List.pairwise_cons.1 hs
    have hx := hr x (by simp)
    have := srt_len2 (lo := x.1 + 1) (hi := hi) h2 (fun y hy => ⟨by have : x.1 < y.1 := h1 y hy; omega, (hr y (by simp [hy])).2⟩) (by omega)
    simp only [List.length_cons]; omega
theorem MOk.len {M : List (Int × LogV)} (h : MOk M) : M.length ≤ 1000 := by
  have := srt_len2 (lo := 0) (hi := 999) h.1 (fun x hx => (h.2 x hx).rng) (by omega)
  omega
theorem MOk.small {M : List (Int × LogV)} (h : MOk M) (hs : (spotsM M).length ≤ 4000000000) : Small M :=
  ⟨by have := h.len; omega, fun x hx => by have := (h.2 x hx).g.len; have := MI_eq; omega, by omega⟩
section
variable {P : Program} {g : FuncId} {args : List AV} {s : AState} {R K : AV → AState → Prop}
theorem runS (h : Runs (compCode P) P g (args.map AV.strip) s R) (k : ∀ x s', R x s' → K x s') : Lruns (compCode P) P g args s K .a := run (Runs.strip h) rfl k
end
end Go.Ab
end
section
namespace Go.Ab
theorem m_mksl {P : Program} {cmp : Code → Option ACode} {d n : Nat} {e : List (Nat × AV)} {s : AState} {r : List AOper} {K : List AV → AState → Prop} {bytes : Nat} {zs : List AV} {lx : Arg} {kd : IntKind} {mm : Int} (hx : lx.ev (den n e) = .v (.int kd mm)) (h : 0 ≤ mm ∧ mm * bytes ≤ 140737488355328 ∧ mm ≤ 4611686018427387904)
    (hk : AOps cmp P r K (den n ((d, .ms s.n 0 mm.toNat) :: e)) (s.alloc (.cells (List.replicate mm.toNat zs).flatten))) : Lops cmp P ⟨some d, .mksl zs bytes lx, none⟩ r K n e s .a := o_mksl hx h hk
end Go.Ab
namespace Go.Proofs.Ytmpoeamfcienoaa
open Go.Ab
set_option linter.unusedVariables false
set_option linter.unusedSimpArgs false
set_option maxRecDepth 100000
set_option maxHeartbeats 1000000
def held (n : Int) : Int := if n < 1 then 1 else if 64 < n then 64 else n
def ofG (g n : Int) : Int := (if g < 0 then 0 else g).tmod (held n)
theorem held_pos (n : Int) : 1 ≤ held n ∧ held n ≤ 64 := by unfold held; split <;> (try split) <;> omega
theorem held_ne (n : Int) : held n ≠ 0 := by have := held_pos n; omega
theorem held_held (n : Int) : held (held n) = held n := by unfold held; split <;> (try split) <;> (try split) <;> (try split) <;> omega
theorem ofG_held (g n : Int) : ofG g (held n) = ofG g n := by unfold ofG; rw [held_held]
theorem ct_shard_held {n : Int} {s : AState} : Gives prog F_shard_held [.v (.int .i64 n)] s (.v (.int .i64 (held n))) s := by
  refine runs_e h_shard_held (Nat.le_of_ble_eq_true rfl) ?_
  refine st0 ?_
  refine ret_ok rfl ⟨?_, rfl⟩
  simp [held]; split <;> split <;> (try split) <;> (try omega)
theorem ct_shard_Of {g n : Int} {s : AState} : Gives prog F_shard_Of [.v (.int .i64 g), .v (.int .i64 n)] s (.v (.int .i64 (ofG g n))) s := by
  refine runs_e h_shard_Of (Nat.le_of_ble_eq_true rfl) ?_
  refine st1c1 @ct_shard_held held_ne ?_
  refine ret_ok rfl ⟨?_, rfl⟩
  have e : (if 0 < g then g else 0) = (if g < 0 then 0 else g) := by split <;> split <;> omega
  simp [ofG, e]
end Go.Proofs.Ytmpoeamfcienoaa
end
section
namespace Go.Proofs.Ytmpoeamfcienoaa
open Go.Ab
set_option linter.unusedVariables false
set_option linter.unusedSimpArgs false
set_option maxRecDepth 100000
set_option maxHeartbeats 4000000
def mineP (i n : Int) (p : Prt) : Bool := decide (ofG p.gr n = i)
theorem ct_shard_own {q i n : Int} {ps : List Prt} {s : AState} : Gives prog F_shard_own [.agg [.v (.int .i64 q), .sl (ps.map Prt.av) .no], .v (.int .i64 i), .v (.int .i64 n)] s
    (.f (.func F_shard_own_1) [] [.p s.n 0, .p (s.n + 2) 0, .p (s.n + 1) 0]) (((s.alloc (.cells [.v (.int .i64 q), .sl (ps.map Prt.av) .no])).alloc (.cells [.v (.int .i64 i)])).alloc (.cells [.v (.int .i64 n)])) := by
  refine runs_e h_shard_own (Nat.le_of_ble_eq_true rfl) ?_
  refine st0 ?_
  exact ret_ok rfl ⟨rfl, rfl⟩
theorem it_shard_own {q i n : Int} {ps : List Prt} {b1 b2 b3 : Nat} (hlen : (ps.length : Int) < 9223372036854775808) :
    Iter prog F_shard_own_1 [] [.p b1 0, .p b2 0, .p b3 0] ((ps.filter (mineP i n)).map fun p => [p.av])
      (fun s => s.get b1 = .cells [.v (.int .i64 q), .sl (ps.map Prt.av) .no] ∧ s.get b2 = .cells [.v (.int .i64 n)] ∧ s.get b3 = .cells [.v (.int .i64 i)]) := by
  intro l s I J hp ha hj hy h0
  obtain ⟨p1, p2, p3⟩ := hp 0 s h0
  refine runs_e h_shard_own_1 (Nat.le_of_ble_eq_true rfl) ?_
  refine st1 p1 ?_
  refine loop_ok [0, 2, 3, 8, 9, 10] (fun m a s1 => ∃ j : Nat, j + m = ps.length ∧ I ((ps.take j).filter (mineP i n)).length s1 ∧ a = { t := den 27 [(0, .y l), (2, .p b2 0), (3, .p b3 0), (8, .sl (ps.map Prt.av) .no), (9, .v (.int .i64 ps.length)), (10, .v (.int .i64 j))], d := [] }) ps.length ?_ ?_
  · exact ⟨0, by simp, by simpa using h0, by simp⟩
  · rintro m a s1 ⟨j, hjm, hI, rfl⟩
    by_cases hlt : j < ps.length
    · obtain ⟨e1, e2, e3⟩ := hp _ s1 hI
      have hw : IntKind.wrap .i64 ((j : Int) + 1) = (j : Int) + 1 := wrap_i64 (by omega) (by omega)
      have n2 := AState.lt_of_get e2 (by simp)
      have n3 := AState.lt_of_get e3 (by simp)
      by_cases hm : ofG ps[j].gr n = i
      · repeat (first | simp -dsimp -implicitDefEqProofs (disch := first | omega | (simp <;> omega) | fail) [hlt, e2, e3, hm] | (with_reducible apply m_draw) | ((with_reducible refine ⟨m_op ?_, ?_⟩); (focus (simp -dsimp -implicitDefEqProofs (disch := first | omega | (simp <;> omega) | fail) [hlt, e2, e3, hm]; done))) | ((with_reducible first | apply m_d1 rfl | apply m_dE | apply m_dE0); (focus ((conv => lhs; simp -dsimp -implicitDefEqProofs (disch := first | omega | (simp <;> omega) | fail) [hlt, e2, e3, hm]); done))) | ((with_reducible apply givQ); (case hAR => ((conv => lhs; simp -dsimp -implicitDefEqProofs (disch := first | omega | (simp <;> omega) | fail) [hlt, e2, e3, hm]); done)); (case hCT => intro _ _; (first | (apply ct_shard_Of <;> first | assumption | omega | decide)))) | ((with_reducible first | apply m_1 | apply m_0); (focus ((conv => lhs; simp -dsimp -implicitDefEqProofs (disch := first | omega | (simp <;> omega) | fail) [hlt, e2, e3, hm]); done))) | ((with_reducible apply giv); (case hAR => ((conv => lhs; simp -dsimp -implicitDefEqProofs (disch := first | omega | (simp <;> omega) | fail) [hlt, e2, e3, hm]); done)); (case hCT => (first | (apply ct_shard_Of <;> first | assumption | omega | decide)))) | ((with_reducible first | apply i_T | apply g_T | apply h_T); (focus (simp -dsimp -implicitDefEqProofs (disch := first | omega | (simp <;> omega) | fail) [hlt, e2, e3, hm]; done))) | ((with_reducible first | apply i_F | apply g_F | apply h_F); (focus (simp -dsimp -implicitDefEqProofs (disch := first | omega | (simp <;> omega) | fail) [hlt, e2, e3, hm]; done))))
        obtain ⟨hk, hg⟩ := fget (p := mineP i n) hlt (by simpa [mineP] using hm)
        have hy' := hy _ (by simpa using hk) _ (ha _ _ (.cells ps[j].cells) hI)
        simp only [List.getElem_map, hg] at hy'
        refine yr0 (hy') ?_
        rintro _ s2 (⟨rfl, hI2⟩ | ⟨rfl, hJ⟩)
        · refine sd0 ?_
          refine ⟨m - 1, by omega, j + 1, by omega, ?_, by simp [hw]⟩
          rw [ftake hlt, if_pos (by simpa [mineP] using hm)]; simpa using hI2
        · refine sd0 ?_
          exact ret_ok rfl (.inr hJ)
      · repeat (first | simp -dsimp -implicitDefEqProofs (disch := first | omega | (simp <;> omega) | fail) [hlt, e2, e3, hm] | (with_reducible apply m_draw) | ((with_reducible refine ⟨m_op ?_, ?_⟩); (focus (simp -dsimp -implicitDefEqProofs (disch := first | omega | (simp <;> omega) | fail) [hlt, e2, e3, hm]; done))) | ((with_reducible first | apply m_d1 rfl | apply m_dE | apply m_dE0); (focus ((conv => lhs; simp -dsimp -implicitDefEqProofs (disch := first | omega | (simp <;> omega) | fail) [hlt, e2, e3, hm]); done))) | ((with_reducible apply givQ); (case hAR => ((conv => lhs; simp -dsimp -implicitDefEqProofs (disch := first | omega | (simp <;> omega) | fail) [hlt, e2, e3, hm]); done)); (case hCT => intro _ _; (first | (apply ct_shard_Of <;> first | assumption | omega | decide)))) | ((with_reducible first | apply m_1 | apply m_0); (focus ((conv => lhs; simp -dsimp -implicitDefEqProofs (disch := first | omega | (simp <;> omega) | fail) [hlt, e2, e3, hm]); done))) | ((with_reducible apply giv); (case hAR => ((conv => lhs; simp -dsimp -implicitDefEqProofs (disch := first | omega | (simp <;> omega) | fail) [hlt, e2, e3, hm]); done)); (case hCT => (first | (apply ct_shard_Of <;> first | assumption | omega | decide)))) | ((with_reducible first | apply i_T | apply g_T | apply h_T); (focus (simp -dsimp -implicitDefEqProofs (disch := first | omega | (simp <;> omega) | fail) [hlt, e2, e3, hm]; done))) | ((with_reducible first | apply i_F | apply g_F | apply h_F); (focus (simp -dsimp -implicitDefEqProofs (disch := first | omega | (simp <;> omega) | fail) [hlt, e2, e3, hm]; done))))
        refine ⟨m - 1, by omega, j + 1, by omega, ?_, by simp [hw]⟩
        rw [ftake hlt, if_neg (by simpa [mineP] using hm)]; simpa using ha _ _ (.cells ps[j].cells) hI
    · refine st1 hlt ?_
      have : j = ps.length := by omega
      subst this
      exact end_ok rfl (.inl (by simpa using hI))
def pickF (i n : Int) (f : Fnd) : Fnd := { f with ps := f.ps.filter (mineP i n) }
def splitI (l : List Fnd) (i n : Int) : List Fnd := (l.map (pickF i n)).filter fun f => !f.ps.isEmpty
def split (l : List Fnd) (n : Int) : List (List Fnd) := (List.range (held n).toNat).map fun i : Nat => splitI l (i : Int) n
theorem mineP_held (i n : Int) : mineP i (held n) = mineP i n := by funext p; simp only [mineP, ofG_held]
theorem splitI_snoc {l : List Fnd} {i n : Int} {j : Nat} (h : j < l.length) : splitI (l.take (j + 1)) i n = splitI (l.take j) i n ++ (if (pickF i n l[j]).ps.isEmpty then [] else [pickF i n l[j]]) := by
  unfold splitI
  rw [List.take_succ_eq_append_getElem h, List.map_append, List.filter_append]
  congr 1
  by_cases e : (pickF i n l[j]).ps.isEmpty = true <;> simp [e]
theorem splitI_len (l : List Fnd) (i n : Int) : (splitI l i n).length ≤ l.length := by
  unfold splitI; exact Nat.le_trans (List.length_filter_le _ _) (by simp)
set_option maxHeartbeats 8000000 in
theorem rn_shard_Split {l : List Fnd} {n : Int} {s : AState} (hl : (l.length : Int) * 48 ≤ 140737488355328) (hps : ∀ f ∈ l, (f.ps.length : Int) * 88 ≤ 140737488355328) :
    Runs (compCode prog) prog F_shard_Split [.sl (l.map Fnd.av) .no, .v (.int .i64 n)] s (fun x s' => ∃ cs, x = .ms s.n 0 (held n).toNat ∧ Grows (s.alloc (.cells cs)) s' ∧ cs.length = (held n).toNat ∧
      ∀ i (h : i < cs.length), ∃ tk, cs[i] = .sl ((splitI l i n).map Fnd.av) tk) := by
  have hh := held_pos n
  obtain ⟨k, hk⟩ : ∃ k : Nat, (k : Int) = held n := ⟨(held n).toNat, by omega⟩
  have hkn : (held n).toNat = k := by omega
  have hk64 : (k : Int) ≤ 64 := by omega
  have hk0 : (0 : Int) ≤ held n := by omega
  have hkb : held n * 24 ≤ 140737488355328 ∧ held n ≤ 4611686018427387904 := by omega
  refine runs_e h_shard_Split (Nat.le_of_ble_eq_true rfl) ?_
  repeat (first | simp -dsimp -implicitDefEqProofs (disch := first | omega | (simp <;> omega) | fail) | ((with_reducible first | apply m_1 | apply m_0); (focus ((conv => lhs; simp -dsimp -implicitDefEqProofs (disch := first | omega | (simp <;> omega) | fail)); done))) | ((with_reducible apply giv); (case hAR => ((conv => lhs; simp -dsimp -implicitDefEqProofs (disch := first | omega | (simp <;> omega) | fail)); done)); (case hCT => (first | (apply ct_shard_held <;> first | assumption | omega | decide)))) | ((with_reducible first | apply i_T | apply g_T); (focus (simp -dsimp -implicitDefEqProofs (disch := first | omega | (simp <;> omega) | fail); done))) | ((with_reducible first | apply i_F | apply g_F); (focus (simp -dsimp -implicitDefEqProofs (disch := first | omega | (simp <;> omega) | fail); done))))
  refine m_mksl (kd := .i64) (mm := held n) (by simp) ⟨hk0, hkb⟩ ?_
  rw [hkn]
  have hfl : (List.replicate k [AV.sl [] Tok.zero]).flatten = List.replicate k (.sl [] .zero) := by simp
  rw [hfl]
  repeat (first | simp -dsimp -implicitDefEqProofs (disch := first | omega | (simp <;> omega) | fail) | ((with_reducible first | apply m_1 | apply m_0); (focus ((conv => lhs; simp -dsimp -implicitDefEqProofs (disch := first | omega | (simp <;> omega) | fail)); done))) | ((with_reducible first | apply i_T | apply g_T); (focus (simp -dsimp -implicitDefEqProofs (disch := first | omega | (simp <;> omega) | fail); done))) | ((with_reducible first | apply i_F | apply g_F); (focus (simp -dsimp -implicitDefEqProofs (disch := first | omega | (simp <;> omega) | fail); done))))
  refine loop_ok [0, 1, 5, 16, 17] (fun m a s1 => ∃ (i : Nat) (L : List AV) (ds : List Nat), i + m = k ∧ L.length = i ∧ (∀ j (h : j < L.length), ∃ tk, L[j] = .sl ((splitI l j n).map Fnd.av) tk) ∧
    Grows (s.alloc (.cells (L ++ List.replicate (k - i) (.sl [] .zero)))) s1 ∧ Dfs (s.n + 1) s1 ds ∧
    a = { t := den 65 [(0, .sl (l.map Fnd.av) .no), (1, .v (.int .i64 (held n))), (5, .ms s.n 0 k), (16, .v (.int .i64 k)), (17, .v (.int .i64 i))], d := ds }) k ?_ ?_
  · refine ⟨0, [], [], by simp, rfl, (fun j h => by simp at h), ?_, Dfs.nil _ _, by simp⟩
    simp [Grows.refl]
  · rintro m a s1 ⟨i, L, ds, him, hL, hdone, ⟨g, rfl⟩, hds, rfl⟩
    by_cases hlt : i < k
    · have hlt' : (i : Int) < k := by omega
      have hrep : List.replicate (k - i) (AV.sl [] .zero) = AV.sl [] .zero :: List.replicate (k - i - 1) (.sl [] .zero) := by
        rw [show k - i = (k - i - 1) + 1 by omega, List.replicate_succ]; simp
      rw [hrep] at hds ⊢
      generalize hR : List.replicate (k - i - 1) (AV.sl [] .zero) = Rr at hds ⊢
      have hRl : Rr.length = k - i - 1 := by rw [← hR]; simp
      have fd : ∀ x : AV, (L ++ x :: Rr).drop i = x :: Rr := fun x => drop_mid hL
      have ft : ∀ x : AV, (L ++ x :: Rr).take i = L := fun x => take_mid hL
      have fr : ∀ x : AV, (L ++ x :: Rr).drop (i + 1) = Rr := fun x => drop_mid1 hL
      have hmi := mineP_held (i : Int) n
      repeat (first | simp -dsimp -implicitDefEqProofs (disch := first | omega | (simp <;> omega) | fail) [hlt] | ((with_reducible first | apply m_1 | apply m_0); (focus ((conv => lhs; simp -dsimp -implicitDefEqProofs (disch := first | omega | (simp <;> omega) | fail) [hlt]); done))) | ((with_reducible first | apply i_T | apply g_T); (focus (simp -dsimp -implicitDefEqProofs (disch := first | omega | (simp <;> omega) | fail) [hlt]; done))) | ((with_reducible first | apply i_F | apply g_F); (focus (simp -dsimp -implicitDefEqProofs (disch := first | omega | (simp <;> omega) | fail) [hlt]; done))))
      refine loop_ok [0, 1, 5, 16, 17, 6, 20, 21, 22] (fun m2 a s1 => ∃ (j : Nat) (tk : Tok) (ds : List Nat), j + m2 = l.length ∧ Grows (s.alloc (.cells (L ++ .sl ((splitI (l.take j) i n).map Fnd.av) tk :: Rr))) s1 ∧
        May (s.n + 1) s1 ((splitI (l.take j) i n).map Fnd.av) tk ∧ Dfs (s.n + 1) s1 ds ∧
        a = { t := den 65 [(0, .sl (l.map Fnd.av) .no), (1, .v (.int .i64 (held n))), (5, .ms s.n 0 k), (16, .v (.int .i64 k)), (17, .v (.int .i64 i)), (6, .v (.int .i64 i)), (20, .sl (l.map Fnd.av) .no), (21, .v (.int .i64 l.length)), (22, .v (.int .i64 j))], d := ds }) l.length ?_ ?_
      · exact ⟨0, .zero, ds, by simp, by simp [splitI]; exact ⟨_, rfl⟩, trivial, hds, by simp⟩
      · clear hds ds g
        rintro m2 a s1 ⟨j, tk, ds, hjm, ⟨g, rfl⟩, hmay, hds, rfl⟩
        by_cases hj : j < l.length
        · have hj' : (j : Int) < l.length := by omega
          have hfl : (l[j].ps.length : Int) * 88 ≤ 140737488355328 := hps _ (List.getElem_mem hj)
          repeat (first | simp -dsimp -implicitDefEqProofs (disch := first | omega | (simp <;> omega) | fail) [hj] | ((with_reducible first | apply m_1 | apply m_0); (focus ((conv => lhs; simp -dsimp -implicitDefEqProofs (disch := first | omega | (simp <;> omega) | fail) [hj]); done))) | ((with_reducible apply giv); (case hAR => ((conv => lhs; simp -dsimp -implicitDefEqProofs (disch := first | omega | (simp <;> omega) | fail) [hj]); done)); (case hCT => (first | (apply ct_shard_own <;> first | assumption | omega | decide)))) | ((with_reducible first | apply i_T | apply g_T); (focus (simp -dsimp -implicitDefEqProofs (disch := first | omega | (simp <;> omega) | fail) [hj]; done))) | ((with_reducible first | apply i_F | apply g_F); (focus (simp -dsimp -implicitDefEqProofs (disch := first | omega | (simp <;> omega) | fail) [hj]; done))))
          generalize hS0 : allocs (s.alloc (.cells (L ++ .sl ((splitI (l.take j) i n).map Fnd.av) tk :: Rr))) g = S0 at hmay hds ⊢
          have hSn : s.n + 1 ≤ S0.n := by rw [← hS0]; simp
          have hnn : s.n + 1 + g.length = S0.n := by rw [← hS0]; simp [n_allocs]
          try simp only [hnn]
          have hg0 : S0.get s.n = .cells (L ++ .sl ((splitI (l.take j) i n).map Fnd.av) tk :: Rr) := by rw [← hS0]; simp
          have hit := it_shard_own (q := l[j].sq) (i := i) (n := held n) (ps := l[j].ps) (b1 := S0.n + 1 + 1) (b2 := S0.n + 1 + 1 + 2) (b3 := S0.n + 1 + 1 + 1) (by omega)
          have hfl2 : (l[j].ps.filter (mineP i (held n))).length ≤ l[j].ps.length := List.length_filter_le _ _
          generalize hfp : l[j].ps.filter (mineP i (held n)) = fp at hit hfl2
          refine w_rangeG (α := Tok) (β := Unit) (m := fp.length) (xs := fp.map fun p => [p.av]) (by simp) hit (by intro x hx; obtain ⟨p, _, rfl⟩ := List.mem_map.1 hx; rfl) (by simp)
            (fun kk tk => ((((S0.alloc (.cells l[j].cells)).alloc (.cells [.v (.int .i64 l[j].sq), .sl ((fp.map Prt.av).take kk) tk, .v (.int .i64 l[j].sg), .v (.int .i64 l[j].at_)])).alloc (.cells [.v (.int .i64 l[j].sq), .sl (l[j].ps.map Prt.av) .no])).alloc (.cells [.v (.int .i64 i)])).alloc (.cells [.v (.int .i64 (held n))]))
            (fun kk tk s' => May (S0.n + 7) s' ((fp.map Prt.av).take kk) tk) (fun _ _ => S0) (fun _ _ _ => False) .zero (by simp) (fun s' h => trivial) ?_ (fun _ _ _ o h => h.alloc o) (fun _ _ _ _ h => h) ?_ ?_ (fun _ _ _ _ _ h => h.elim)
          · intro kk a s' _ h1 hg
            refine ⟨?_, ?_, ?_⟩ <;> (refine (hg.get (by simp)).trans ?_; simp)
          · intro LR LB LJ _ kk hkk tk2 g2 h1 hm
            have hkk' : kk < fp.length := by simpa using hkk
            repeat (first | simp -dsimp -implicitDefEqProofs (disch := first | omega | (simp <;> omega) | fail) [hkk'] | ((with_reducible first | apply m_1 | apply m_0); (focus ((conv => lhs; simp -dsimp -implicitDefEqProofs (disch := first | omega | (simp <;> omega) | fail) [hkk']); done))) | ((with_reducible first | apply i_T | apply g_T); (focus (simp -dsimp -implicitDefEqProofs (disch := first | omega | (simp <;> omega) | fail) [hkk']; done))) | ((with_reducible first | apply i_F | apply g_F); (focus (simp -dsimp -implicitDefEqProofs (disch := first | omega | (simp <;> omega) | fail) [hkk']; done))))
            refine m_app (xs := (fp.map Prt.av).take kk) (tk := tk2) (ys := [fp[kk].av]) (t2 := .zero) (B := _) (N := S0.n + 7) (by simp) (by simp) ⟨_, allocs_snoc _ _ _⟩ (by simp) (by simp; omega) ((hm.swap (by simp) (by simp)).alloc _) (by simp) (by simp) (by simp; omega) (by simp; omega) ?_
            rintro _ tk3 ⟨g3, rfl⟩ hm3 _ _
            repeat (first | simp -dsimp -implicitDefEqProofs (disch := first | omega | (simp <;> omega) | fail) | ((with_reducible first | apply m_1 | apply m_0); (focus ((conv => lhs; simp -dsimp -implicitDefEqProofs (disch := first | omega | (simp <;> omega) | fail)); done))) | ((with_reducible first | apply i_T | apply g_T); (focus (simp -dsimp -implicitDefEqProofs (disch := first | omega | (simp <;> omega) | fail); done))) | ((with_reducible first | apply i_F | apply g_F); (focus (simp -dsimp -implicitDefEqProofs (disch := first | omega | (simp <;> omega) | fail); done))))
            refine ⟨tk3, by simp, ?_, ?_⟩
            · rw [take_snoc hkk']; exact ⟨_, rfl⟩
            · rw [take_snoc hkk']; exact hm3.swap (by simp) (by simp)
          · intro LR tk2 g2 h1 hm
            have htk : (fp.map Prt.av).take fp.length = fp.map Prt.av := List.take_of_length_le (by simp)
            rw [htk] at hm ⊢
            have hpk : (pickF i n l[j]).ps = fp := by rw [← hfp, hmi]; rfl
            have hDl : ∀ x ∈ ds, x < S0.n := fun x hx => hds.lt hx
            by_cases hfe : 0 < fp.length
            · repeat (first | simp -dsimp -implicitDefEqProofs (disch := first | omega | (simp <;> omega) | fail) [hfe, hlt, hg0, fd] | ((with_reducible first | apply m_1 | apply m_0); (focus ((conv => lhs; simp -dsimp -implicitDefEqProofs (disch := first | omega | (simp <;> omega) | fail) [hfe, hlt, hg0, fd]); done))) | ((with_reducible first | apply i_T | apply g_T); (focus (simp -dsimp -implicitDefEqProofs (disch := first | omega | (simp <;> omega) | fail) [hfe, hlt, hg0, fd]; done))) | ((with_reducible first | apply i_F | apply g_F); (focus (simp -dsimp -implicitDefEqProofs (disch := first | omega | (simp <;> omega) | fail) [hfe, hlt, hg0, fd]; done))))
              refine m_app (xs := (splitI (l.take j) i n).map Fnd.av) (tk := tk) (ys := [.agg [.v (.int .i64 l[j].sq), .sl (fp.map Prt.av) .no, .v (.int .i64 l[j].sg), .v (.int .i64 l[j].at_)]]) (t2 := .zero) (B := s.alloc (.cells (L ++ .sl ((splitI (l.take j) i n).map Fnd.av) tk :: Rr))) (N := s.n + 1) (by simp) (by simp) ?_ (by simp) (by simp; omega) (hmay.grows ?_) (by simp) (by simp) (by have := splitI_len (l.take j) i n; simp at this ⊢; omega) (by have := splitI_len (l.take j) i n; simp at this ⊢; omega) ?_
              · rw [← hS0]; (repeat (first | exact Grows.refl _ | with_reducible apply Grows.alloc | with_reducible apply Grows.allocs))
              · (repeat (first | exact Grows.refl _ | with_reducible apply Grows.alloc | with_reducible apply Grows.allocs))
              rintro _ tk3 ⟨g3, rfl⟩ hm3 _ hext
              refine st4 hlt ft fr hL ?_
              have e : splitI (l.take (j + 1)) i n = splitI (l.take j) i n ++ [pickF i n l[j]] := by
                rw [splitI_snoc hj, if_neg (by rw [hpk]; cases fp <;> simp_all)]
              have ef : (pickF i n l[j]).av = .agg [.v (.int .i64 l[j].sq), .sl (fp.map Prt.av) .no, .v (.int .i64 l[j].sg), .v (.int .i64 l[j].at_)] := by
                rw [← hpk]; rfl
              refine ⟨m2 - 1, by omega, j + 1, tk3, (S0.n + 5) :: ds, by omega, ?_, ?_, ?_, ?_⟩
              · rw [e, List.map_append, List.map_cons, ef]; exact ⟨_, rfl⟩
              · rw [e, List.map_append, List.map_cons, ef]; exact hm3.swap (by simp) (by simp)
              · refine Dfs.swap (X := s.alloc (.cells (L ++ .sl ((splitI (l.take j) i n).map Fnd.av) tk :: Rr))) (by simp) (by simp) ((Dfs.cons (hds.ext (Grows.ext ?_)) (by omega) (by simp) (fun y hy => by have := hDl y hy; omega)).ext hext)
                (repeat (first | exact Grows.refl _ | with_reducible apply Grows.alloc | with_reducible apply Grows.allocs))
              · simp
            · refine st1 hfe ?_
              have e : splitI (l.take (j + 1)) i n = splitI (l.take j) i n := by
                rw [splitI_snoc hj, if_pos (by rw [hpk]; cases fp <;> simp_all)]; simp
              refine ⟨m2 - 1, by omega, j + 1, tk, (S0.n + 5) :: ds, by omega, ?_, ?_, ?_, ?_⟩
              · rw [e, ← hS0]; (repeat (first | exact Grows.refl _ | with_reducible apply Grows.alloc | with_reducible apply Grows.allocs))
              · rw [e]; refine hmay.grows ?_; (repeat (first | exact Grows.refl _ | with_reducible apply Grows.alloc | with_reducible apply Grows.allocs))
              · refine Dfs.cons (hds.ext (Grows.ext ?_)) (by omega) (by simp) (fun y hy => by have := hDl y hy; omega)
                (repeat (first | exact Grows.refl _ | with_reducible apply Grows.alloc | with_reducible apply Grows.allocs))
              · simp
        · refine st1 hj ?_
          have : j = l.length := by omega
          subst this
          rw [List.take_length] at hds hmay ⊢
          refine ⟨m - 1, by omega, i + 1, L ++ [.sl ((splitI l i n).map Fnd.av) tk], ds, by omega, by simp [hL], ?_, ?_, ?_, by simp⟩
          · intro j' h'
            by_cases he : j' < L.length
            · rw [List.getElem_append_left he]; exact hdone j' he
            · have : j' = i := by simp at h'; omega
              subst this
              rw [List.getElem_append_right (by omega)]; exact ⟨tk, by simp [hL]⟩
          · rw [show k - (i + 1) = k - i - 1 by omega, hR]; simp; exact ⟨_, rfl⟩
          · exact hds
    · refine st1 (show ¬ (i : Int) < k by omega) ?_
      have : i = k := by omega
      subst this
      simp only [Nat.sub_self, List.replicate_zero, List.append_nil] at hds ⊢
      have hs : s.n ∉ ds := fun h => by have := (hds.1 _ h).1; omega
      refine ret_okD (fun x hx => (hds.1 x hx).2) hds.2 (by simp; rfl) ⟨L, rfl, ?_, hL, ?_⟩
      · exact killAll_grows ⟨_, rfl⟩ (by simp) hds
      · exact hdone
end Go.Proofs.Ytmpoeamfcienoaa
end
section
namespace Go.Ab
set_option linter.unusedVariables false
set_option linter.unusedSimpArgs false
def runL (M : List (Int × LogV)) (l : List (List Prt × Plc)) : List (Int × LogV) := l.foldl (fun M x => doL M x.1 x.2) M
theorem MOk.runL {M : List (Int × LogV)} (hM : MOk M) (l : List (List Prt × Plc)) : MOk (runL M l) := by
  unfold Ab.runL
  induction l generalizing M with
  | nil => exact hM
  | cons x l ih => exact ih (hM.doL _ _)
theorem MOk.nil' : MOk [] := ⟨.nil, by simp⟩
end Go.Ab
end
section
namespace Go.Ab
set_option linter.unusedVariables false
def LedsAll (s : AState) (bs : List Nat) (Ms : List (List (Int × LogV))) : Prop := bs.length = Ms.length ∧ ∀ i (h : i < bs.length) (h' : i < Ms.length), ∃ F, LedAt s bs[i] Ms[i] F ∧ ∀ x ∈ F, x < s.n
theorem LedsAll.keep {s s' : AState} {bs : List Nat} {Ms : List (List (Int × LogV))} (h : LedsAll s bs Ms) (hn : s.n ≤ s'.n) (k : ∀ x, x < s.n → s'.get x = s.get x) : LedsAll s' bs Ms :=
  ⟨h.1, fun i h1 h2 => by obtain ⟨F, hF, hl⟩ := h.2 i h1 h2; exact ⟨F, hF.keep fun x hx => k x (hl x hx), fun x hx => by have := hl x hx; omega⟩⟩
end Go.Ab
end
section
namespace Go.Ab
set_option linter.unusedVariables false
set_option linter.unusedSimpArgs false
def Live (s : AState) (F : List Nat) : Prop := ∀ x ∈ F, s.get x ≠ .dead ∧ s.get x ≠ .tok
theorem Live.ext {s s' : AState} {F : List Nat} (h : Live s F) (e : s.ext s') : ∀ x ∈ F, s'.get x = s.get x := fun x hx => e.2 x (h x hx).1 (h x hx).2
theorem LogAt.live {s : AState} {lb : Nat} {v : LogV} {F : List Nat} (h : LogAt s lb v F) : Live s F := by
  obtain ⟨tk, mb, A, rfl, h1, h2, h3⟩ := h
  intro x hx
  simp only [List.mem_cons, List.not_mem_nil, or_false] at hx
  rcases hx with rfl | rfl
  · rw [h1]; exact ⟨by simp, by simp⟩
  · rw [h2]; exact ⟨by simp, by simp⟩
theorem LogsAt.live {s : AState} : ∀ {B : List (Int × Nat)} {M : List (Int × LogV)} {F : List Nat}, LogsAt s B M F → Live s F
  | [], [], _, h => by intro x hx; rw [show _ = [] from h] at hx; cases hx
  | x :: B, y :: M, _, ⟨h, F1, F2, e, h1, h2⟩ => by
    subst e; intro z hz
    rcases List.mem_append.1 hz with hz | hz
    · exact h1.live z hz
    · exact LogsAt.live h2 z hz
theorem LedAt.live {s : AState} {b : Nat} {M : List (Int × LogV)} {F : List Nat} (h : LedAt s b M F) : Live s F := by
  obtain ⟨mb, A, B, F', rfl, h1, h2, h3, h4, h5⟩ := h
  intro x hx
  rcases List.mem_cons.1 hx with rfl | hx
  · rw [h1]; exact ⟨by simp, by simp⟩
  rcases List.mem_cons.1 hx with rfl | hx
  · rw [h2]; exact ⟨by simp, by simp⟩
  · exact h4.live x hx
def LedsAt (s : AState) : List Nat → List (List (Int × LogV)) → List Nat → Prop
  | [], [], F => F = []
  | b :: bs, M :: Ms, F => ∃ F1 F2, F = F1 ++ F2 ∧ LedAt s b M F1 ∧ LedsAt s bs Ms F2
  | _, _, _ => False
theorem LedsAt.len {s : AState} : ∀ {bs : List Nat} {Ms : List (List (Int × LogV))} {F : List Nat}, LedsAt s bs Ms F → bs.length = Ms.length
  | [], [], _, _ => rfl
  | b :: bs, M :: Ms, _, ⟨F1, F2, _, _, h⟩ => by simp [LedsAt.len h]
theorem LedsAt.lt {s : AState} : ∀ {bs : List Nat} {Ms : List (List (Int × LogV))} {F : List Nat}, LedsAt s bs Ms F → ∀ x ∈ F, x < s.n
  | [], [], _, h => by intro x hx; rw [show _ = [] from h] at hx; cases hx
  | b :: bs, M :: Ms, _, ⟨F1, F2, e, h1, h2⟩ => by
    subst e; intro z hz
    rcases List.mem_append.1 hz with hz | hz
    · exact h1.lt z hz
    · exact LedsAt.lt h2 z hz
theorem LedsAt.live {s : AState} : ∀ {bs : List Nat} {Ms : List (List (Int × LogV))} {F : List Nat}, LedsAt s bs Ms F → Live s F
  | [], [], _, h => by intro x hx; rw [show _ = [] from h] at hx; cases hx
  | b :: bs, M :: Ms, _, ⟨F1, F2, e, h1, h2⟩ => by
    subst e; intro z hz
    rcases List.mem_append.1 hz with hz | hz
    · exact h1.live z hz
    · exact LedsAt.live h2 z hz
theorem LedsAt.keep {s s' : AState} : ∀ {bs : List Nat} {Ms : List (List (Int × LogV))} {F : List Nat}, LedsAt s bs Ms F → (∀ x ∈ F, s'.get x = s.get x) → LedsAt s' bs Ms F
  | [], [], _, h, _ => h
  | b :: bs, M :: Ms, _, ⟨F1, F2, e, h1, h2⟩, k => by
    subst e
    exact ⟨F1, F2, rfl, h1.keep fun z hz => k z (List.mem_append.2 (.inl hz)), LedsAt.keep h2 fun z hz => k z (List.mem_append.2 (.inr hz))⟩
theorem LedsAt.all {s : AState} : ∀ {bs : List Nat} {Ms : List (List (Int × LogV))} {F : List Nat}, LedsAt s bs Ms F → LedsAll s bs Ms
  | [], [], _, _ => ⟨rfl, fun i h => absurd h (Nat.not_lt_zero _)⟩
  | b :: bs, M :: Ms, _, ⟨F1, F2, e, h1, h2⟩ => by
    have ih := LedsAt.all h2
    refine ⟨by simp [ih.1], fun i h h' => ?_⟩
    cases i with
    | zero => exact ⟨F1, h1, h1.lt⟩
    | succ i => exact ih.2 i (by simpa using h) (by simpa using h')
theorem LedsAt.snoc {s s' : AState} {b : Nat} {M : List (Int × LogV)} {Fi : List Nat} (hL : LedAt s' b M Fi) : ∀ {bs : List Nat} {Ms : List (List (Int × LogV))} {F : List Nat}, LedsAt s bs Ms F → (∀ x ∈ F, s'.get x = s.get x) → LedsAt s' (bs ++ [b]) (Ms ++ [M]) (F ++ Fi)
  | [], [], _, h, _ => by obtain rfl := (h : _ = []); exact ⟨Fi, [], by simp, hL, rfl⟩
  | b :: bs, M :: Ms, _, ⟨F1, F2, e, h1, h2⟩, k => by
    subst e
    exact ⟨F1, F2 ++ Fi, by simp, h1.keep fun z hz => k z (List.mem_append.2 (.inl hz)), LedsAt.snoc hL h2 fun z hz => k z (List.mem_append.2 (.inr hz))⟩
theorem LedsAt.focus {s : AState} : ∀ {bs : List Nat} {Ms : List (List (Int × LogV))} {F : List Nat}, LedsAt s bs Ms F → F.Nodup → ∀ {i : Nat} (h : i < bs.length) (h' : i < Ms.length),
    ∃ Fi, LedAt s bs[i] Ms[i] Fi ∧ (∀ x ∈ Fi, x ∈ F) ∧ ∀ (s' : AState) (M' : List (Int × LogV)) (Fi' : List Nat), LedAt s' bs[i] M' Fi' → Mut Fi Fi' s s' → ∃ F', LedsAt s' bs (Ms.set i M') F' ∧ Mut F F' s s' ∧ F'.Nodup
  | b :: bs, M :: Ms, _, ⟨F1, F2, e, h1, h2⟩, hn, i, hi, hi' => by
    subst e
    obtain ⟨hn1, hn2, hn3⟩ := List.nodup_append.1 hn
    have hd : ∀ z ∈ F2, z ∉ F1 := fun z hz hz' => hn3 z hz' z hz rfl
    have hd' : ∀ z ∈ F1, z ∉ F2 := fun z hz hz' => hn3 z hz z hz' rfl
    have hl2 := LedsAt.lt h2
    cases i with
    | zero =>
      refine ⟨F1, h1, fun z hz => List.mem_append.2 (.inl hz), fun s' M' Fi' g1 g2 => ?_⟩
      exact ⟨Fi' ++ F2, ⟨Fi', F2, rfl, g1, h2.keep (g2.get hd hl2)⟩, g2.more F2, nodup_app g2 g1.nodup hn2 hd hl2⟩
    | succ i =>
      obtain ⟨Fi, k1, k2, k3⟩ := LedsAt.focus h2 hn2 (i := i) (by simpa using hi) (by simpa using hi')
      refine ⟨Fi, k1, fun z hz => List.mem_append.2 (.inr (k2 z hz)), fun s' M' Fi' g1 g2 => ?_⟩
      obtain ⟨F', q1, q2, q3⟩ := k3 s' M' Fi' g1 g2
      exact ⟨F1 ++ F', ⟨F1, F', rfl, h1.keep (q2.get hd' h1.lt), q1⟩, q2.moreL F1, nodup_app' q2 q3 hn1 hd' h1.lt⟩
def RpAt (s : AState) (b : Nat) (L : List (List Fnd)) (Ms : List (List (Int × LogV))) (F : List Nat) : Prop :=
  ∃ (lb : Nat) (cs : List AV) (ps : List Nat) (tk : Tok) (F' : List Nat), F = b :: lb :: F' ∧ s.get b = .cells [.ms lb 0 L.length, .sl (ps.map ptr) tk] ∧ s.get lb = .cells cs ∧ cs.length = L.length ∧
    (∀ i (h : i < cs.length) (h' : i < L.length), ∃ t, cs[i] = .sl ((L[i]).map Fnd.av) t) ∧ LedsAt s ps Ms F' ∧ F.Nodup ∧ Ms.length = L.length
theorem RpAt.lt {s : AState} {b : Nat} {L : List (List Fnd)} {Ms : List (List (Int × LogV))} {F : List Nat} (h : RpAt s b L Ms F) : ∀ x ∈ F, x < s.n := by
  obtain ⟨lb, cs, ps, tk, F', rfl, h1, h2, h3, h4, h5, h6, h7⟩ := h
  intro x hx
  rcases List.mem_cons.1 hx with rfl | hx
  · exact AState.lt_of_get h1 (by simp)
  rcases List.mem_cons.1 hx with rfl | hx
  · exact AState.lt_of_get h2 (by simp)
  · exact h5.lt x hx
theorem RpAt.keep {s s' : AState} {b : Nat} {L : List (List Fnd)} {Ms : List (List (Int × LogV))} {F : List Nat} (h : RpAt s b L Ms F) (k : ∀ x ∈ F, s'.get x = s.get x) : RpAt s' b L Ms F := by
  obtain ⟨lb, cs, ps, tk, F', rfl, h1, h2, h3, h4, h5, h6, h7⟩ := h
  exact ⟨lb, cs, ps, tk, F', rfl, (k _ (by simp)).trans h1, (k _ (by simp)).trans h2, h3, h4, h5.keep fun x hx => k x (by simp [hx]), h6, h7⟩
structure NwI (s1 : AState) (b lb k j : Nat) (s3 : AState) (ps : List Nat) (tk : Tok) (F : List Nat) : Prop where
  c : s3.get b = .cells [.ms lb 0 k, .sl (ps.map ptr) tk]
  may : May (b + 1) s3 (ps.map ptr) tk
  leds : LedsAt s3 ps (List.replicate j []) F
  nd : F.Nodup
  hi : ∀ x ∈ F, b + 1 ≤ x
  n : b + 1 ≤ s3.n
  old : ∀ x, x < b → s3.get x = s1.get x
end Go.Ab
namespace Go.Proofs.Ytmpoeamfcienoaa
open Go.Ab
set_option linter.unusedVariables false
set_option linter.unusedSimpArgs false
set_option maxRecDepth 100000
set_option maxHeartbeats 1000000
theorem rn_replay_New {l : List Fnd} {n : Int} {s : AState} (hl : (l.length : Int) * 48 ≤ 140737488355328) (hps : ∀ f ∈ l, (f.ps.length : Int) * 88 ≤ 140737488355328) :
    Runs (compCode prog) prog F_replay_New [.sl (l.map Fnd.av) .no, .v (.int .i64 n)] s (fun x s' => ∃ b F, x = .p b 0 ∧ RpAt s' b (split l n) (List.replicate (held n).toNat []) F ∧ Mut [] F s s') := by
  have hh := held_pos n
  refine runs_e h_replay_New (Nat.le_of_ble_eq_true rfl) ?_
  repeat (first | simp -dsimp -implicitDefEqProofs (disch := first | omega | (simp <;> omega) | fail) | ((with_reducible first | apply m_1 | apply m_0); (focus ((conv => lhs; simp -dsimp -implicitDefEqProofs (disch := first | omega | (simp <;> omega) | fail)); done))) | ((with_reducible first | apply i_T | apply g_T); (focus (simp -dsimp -implicitDefEqProofs (disch := first | omega | (simp <;> omega) | fail); done))) | ((with_reducible first | apply i_F | apply g_F); (focus (simp -dsimp -implicitDefEqProofs (disch := first | omega | (simp <;> omega) | fail); done))))
  refine run (rn_shard_Split (l := l) (n := n) hl hps) (by first | (simp; done) | rfl | (simp; rfl)) ?_
  rintro _ s1 ⟨cs, rfl, hg, hcl, hcs⟩
  have hn1 := hg.n
  simp at hn1
  obtain ⟨k, hk⟩ : ∃ k : Nat, k = (held n).toNat := ⟨_, rfl⟩
  rw [← hk] at hcl ⊢
  have hk64 : k ≤ 64 := by omega
  repeat (first | simp -dsimp -implicitDefEqProofs (disch := first | omega | (simp <;> omega) | fail) | ((with_reducible first | apply m_1 | apply m_0); (focus ((conv => lhs; simp -dsimp -implicitDefEqProofs (disch := first | omega | (simp <;> omega) | fail)); done))) | ((with_reducible first | apply i_T | apply g_T); (focus (simp -dsimp -implicitDefEqProofs (disch := first | omega | (simp <;> omega) | fail); done))) | ((with_reducible first | apply i_F | apply g_F); (focus (simp -dsimp -implicitDefEqProofs (disch := first | omega | (simp <;> omega) | fail); done))))
  refine loop_ok [5, 15, 16] (fun r a s3 => ∃ (j : Nat) (ps : List Nat) (tk : Tok) (F : List Nat), j + r = k ∧ ps.length = j ∧ NwI s1 s1.n s.n k j s3 ps tk F ∧
    a = { t := den 30 [(5, .p s1.n 0), (15, .v (.int .i64 k)), (16, .v (.int .i64 j))], d := [] }) k ?_ ?_
  · exact ⟨0, [], .zero, [], by simp, rfl, ⟨by simp, trivial, rfl, List.nodup_nil, by simp, by simp, fun x hx => get_alloc_ne (by omega)⟩, by simp⟩
  rintro r a s3 ⟨j, ps, tk, F, hjr, hpl, ⟨c, may, leds, nd, hi, nn, old⟩, rfl⟩
  by_cases hlt : j < k
  · have w3 : IntKind.wrap .i64 ((j : Int) + 1) = (j : Int) + 1 := wrap_i64 (by omega) (by omega)
    have hlF := leds.lt
    repeat (first | simp -dsimp -implicitDefEqProofs (disch := first | omega | (simp <;> omega) | fail) [hlt, c] | (with_reducible apply m_draw) | ((with_reducible refine ⟨m_op ?_, ?_⟩); (focus (simp -dsimp -implicitDefEqProofs (disch := first | omega | (simp <;> omega) | fail) [hlt, c]; done))) | ((with_reducible first | apply m_d1 rfl | apply m_dE | apply m_dE0); (focus ((conv => lhs; simp -dsimp -implicitDefEqProofs (disch := first | omega | (simp <;> omega) | fail) [hlt, c]); done))) | ((with_reducible first | apply m_1 | apply m_0); (focus ((conv => lhs; simp -dsimp -implicitDefEqProofs (disch := first | omega | (simp <;> omega) | fail) [hlt, c]); done))) | ((with_reducible first | apply i_T | apply g_T | apply h_T); (focus (simp -dsimp -implicitDefEqProofs (disch := first | omega | (simp <;> omega) | fail) [hlt, c]; done))) | ((with_reducible first | apply i_F | apply g_F | apply h_F); (focus (simp -dsimp -implicitDefEqProofs (disch := first | omega | (simp <;> omega) | fail) [hlt, c]; done))))
    refine run (rn_ledger_New) (by first | (simp; done) | rfl | (simp; rfl)) ?_
    rintro _ s4 ⟨bl, F1, rfl, h1, h2, h3⟩
    refine ⟨m_ext h2.ext, ?_⟩
    repeat (first | simp -dsimp -implicitDefEqProofs (disch := first | omega | (simp <;> omega) | fail) | (with_reducible apply m_draw) | ((with_reducible refine ⟨m_op ?_, ?_⟩); (focus (simp -dsimp -implicitDefEqProofs (disch := first | omega | (simp <;> omega) | fail); done))) | ((with_reducible first | apply m_d1 rfl | apply m_dE | apply m_dE0); (focus ((conv => lhs; simp -dsimp -implicitDefEqProofs (disch := first | omega | (simp <;> omega) | fail)); done))) | ((with_reducible first | apply m_1 | apply m_0); (focus ((conv => lhs; simp -dsimp -implicitDefEqProofs (disch := first | omega | (simp <;> omega) | fail)); done))) | ((with_reducible first | apply i_T | apply g_T | apply h_T); (focus (simp -dsimp -implicitDefEqProofs (disch := first | omega | (simp <;> omega) | fail); done))) | ((with_reducible first | apply i_F | apply g_F | apply h_F); (focus (simp -dsimp -implicitDefEqProofs (disch := first | omega | (simp <;> omega) | fail); done))))
    refine q_appS (xs := ps.map ptr) (tk := tk) (ys := [.p bl 0]) (t2 := .zero) (N := s1.n + 1) (by simp) (by simp) (by have := h2.n; omega) (may.grows h2) (by cases ps <;> simp [headK, ptr, AV.cells]) (by simp) (by simp; omega) (by simp; omega) ?_
    intro s5 tk2 hm2 hlow hext
    have hn4 := h2.n
    have c4 : s4.get s1.n = _ := (h2.get (by omega)).trans c
    have c5 : s5.get s1.n = _ := (hlow _ (by omega)).trans c4
    have kF : ∀ x ∈ F, s5.get x = s3.get x := fun x hx => ((leds.keep fun y hy => h2.get (hlF y hy)).live.ext hext x hx).trans (h2.get (hlF x hx))
    have kF1 : ∀ x ∈ F1, s5.get x = s4.get x := h1.live.ext hext
    have hn5 := hext.1
    repeat (first | simp -dsimp -implicitDefEqProofs (disch := first | omega | (simp <;> omega) | fail) [c5] | (with_reducible apply m_draw) | ((with_reducible refine ⟨m_op ?_, ?_⟩); (focus (simp -dsimp -implicitDefEqProofs (disch := first | omega | (simp <;> omega) | fail) [c5]; done))) | ((with_reducible first | apply m_d1 rfl | apply m_dE | apply m_dE0); (focus ((conv => lhs; simp -dsimp -implicitDefEqProofs (disch := first | omega | (simp <;> omega) | fail) [c5]); done))) | ((with_reducible first | apply m_1 | apply m_0); (focus ((conv => lhs; simp -dsimp -implicitDefEqProofs (disch := first | omega | (simp <;> omega) | fail) [c5]); done))) | ((with_reducible first | apply i_T | apply g_T | apply h_T); (focus (simp -dsimp -implicitDefEqProofs (disch := first | omega | (simp <;> omega) | fail) [c5]; done))) | ((with_reducible first | apply i_F | apply g_F | apply h_F); (focus (simp -dsimp -implicitDefEqProofs (disch := first | omega | (simp <;> omega) | fail) [c5]; done))))
    refine ⟨r - 1, by omega, j + 1, ps ++ [bl], tk2, F ++ F1, by omega, by simp [hpl], ?_, by simp [w3]⟩
    have ne : ∀ x, s1.n + 1 ≤ x → x ≠ s1.n := fun x h => by omega
    refine ⟨by simp (disch := first | omega | (simp <;> omega) | fail) [ptr], by simpa [ptr] using hm2.set _ (by omega), ?_, ?_, fun x hx => ?_, by simp; omega, fun x hx => ?_⟩
    · rw [List.replicate_succ']
      exact LedsAt.snoc (h1.keep fun x hx => by rw [AState.get_set_ne _ _ (ne x (by have := h3 x hx; omega))]; exact kF1 x hx) leds fun x hx => by rw [AState.get_set_ne _ _ (ne x (hi x hx))]; exact kF x hx
    · rw [List.nodup_append]
      exact ⟨nd, h1.nodup, fun x hx y hy e => by have := hlF x hx; have := h3 y hy; omega⟩
    · rcases List.mem_append.1 hx with h | h
      · exact hi x h
      · have := h3 x h; omega
    · rw [AState.get_set_ne _ _ (by omega), hlow x (by omega), h2.get (by omega), old x hx]
  · have : j = k := by omega
    subst this
    have hsp : (split l n).length = j := by rw [hk]; simp [split]
    refine st1 hlt ?_
    have hlF := leds.lt
    refine ret_ok rfl ⟨s1.n, s1.n :: s.n :: F, rfl, ⟨s.n, cs, ps, tk, F, rfl, by rw [hsp]; exact c, ?_, by rw [hsp, hcl], fun i h h' => ?_, leds, ?_, by rw [hsp]; simp⟩, ?_⟩
    · rw [old _ (by omega), hg.get (by simp)]; simp
    · obtain ⟨t, e⟩ := hcs i h
      exact ⟨t, by rw [e]; simp [split]⟩
    · simp only [List.nodup_cons, List.mem_cons, not_or]
      exact ⟨⟨by omega, fun h => by have := hi _ h; omega⟩, fun h => by have := hi _ h; omega, nd⟩
    · refine ⟨by omega, fun x hx _ => ?_, fun x hx => .inr ?_⟩
      · rw [old _ (by omega), hg.get (by simp; omega)]; exact get_alloc_ne (by omega)
      · simp only [List.mem_cons] at hx
        rcases hx with rfl | rfl | h
        · omega
        · omega
        · have := hi x h; omega
end Go.Proofs.Ytmpoeamfcienoaa
end
section
namespace Go.Ab
set_option linter.unusedVariables false
set_option linter.unusedSimpArgs false
def nextF (L : List (List Fnd)) (i : Int) : Option (Fnd × List Fnd) := if i < 0 then none else match L[i.toNat]? with | some (f :: r) => some (f, r) | _ => none
def stepL (L : List (List Fnd)) (i : Int) : List (List Fnd) := match nextF L i with | some (_, r) => L.set i.toNat r | none => L
def stepM (L : List (List Fnd)) (Ms : List (List (Int × LogV))) (i : Int) : List (List (Int × LogV)) := match nextF L i with | some (f, _) => Ms.set i.toNat (doL (Ms.getD i.toNat []) f.ps ⟨f.sg, f.at_⟩) | none => Ms
def cntL (L : List (List Fnd)) : Nat := (L.map List.length).sum
def GsOk (Ms : List (List (Int × LogV))) : Prop := ∀ M ∈ Ms, MOk M
theorem GsOk.step {L : List (List Fnd)} {Ms : List (List (Int × LogV))} (h : GsOk Ms) (i : Int) : GsOk (stepM L Ms i) := by
  unfold stepM
  split
  · next f r hn =>
    intro M hM
    rcases List.mem_or_eq_of_mem_set hM with h1 | rfl
    · exact h M h1
    · refine MOk.doL ?_ _ _
      rw [List.getD_eq_getElem?_getD]
      cases e : Ms[i.toNat]? with
      | none => exact .nil'
      | some M => exact h M (List.mem_of_getElem? e)
  · exact h
theorem stepL_len (L : List (List Fnd)) (i : Int) : (stepL L i).length = L.length := by unfold stepL; split <;> simp
structure FewL (L : List (List Fnd)) : Prop where
  k : L.length ≤ 64
  n : ∀ l ∈ L, l.length ≤ 30
  p : ∀ l ∈ L, ∀ f ∈ l, f.ps.length ≤ 6
  e : ∀ l ∈ L, ∀ f ∈ l, ∀ p ∈ f.ps, p.es.length ≤ 8
theorem FewL.step {L : List (List Fnd)} (h : FewL L) (i : Int) : FewL (stepL L i) := by
  unfold stepL
  split
  · next f r hn =>
    have hL : (f :: r) ∈ L := by
      unfold nextF at hn
      split at hn
      · cases hn
      split at hn
      · next f' r' e => cases hn; exact List.mem_of_getElem? e
      · cases hn
    have key : ∀ l ∈ L.set i.toNat r, ∃ l' ∈ L, l.length ≤ l'.length ∧ ∀ x ∈ l, x ∈ l' := fun l hl => by
      rcases List.mem_or_eq_of_mem_set hl with h1 | rfl
      · exact ⟨l, h1, Nat.le_refl _, fun x hx => hx⟩
      · exact ⟨_, hL, by simp, fun x hx => by simp [hx]⟩
    refine ⟨by simpa using h.k, fun l hl => ?_, fun l hl f hf => ?_, fun l hl f hf p hp => ?_⟩ <;> obtain ⟨l', h1, h2, h3⟩ := key l hl
    · have := h.n l' h1; omega
    · exact h.p l' h1 f (h3 f hf)
    · exact h.e l' h1 f (h3 f hf) p hp
  · exact h
end Go.Ab
namespace Go.Proofs.Ytmpoeamfcienoaa
open Go.Ab
set_option linter.unusedVariables false
set_option linter.unusedSimpArgs false
set_option maxRecDepth 100000
set_option maxHeartbeats 1000000
theorem rn_replay_Replay_Step {b : Nat} {L : List (List Fnd)} {Ms : List (List (Int × LogV))} {F : List Nat} {i : Int} {s : AState} (hR : RpAt s b L Ms F) (hM : GsOk Ms) (hf : FewL L) :
    Runs (compCode prog) prog F_replay_Replay_Step [.p b 0, .v (.int .i64 i)] s (fun x s' => ∃ F', x = .v (.bool (nextF L i).isSome) ∧ RpAt s' b (stepL L i) (stepM L Ms i) F' ∧ Mut F F' s s') := by
  have hR' := hR
  have hlt := hR.lt
  have hk := hf.k
  obtain ⟨lb, cs, ps, tk, F', rfl, h1, h2, h3, h4, h5, h6, h7⟩ := hR
  have hb := hlt b (by simp)
  have hlb := hlt lb (by simp)
  have hpl := h5.len
  refine runs_e h_replay_Replay_Step (Nat.le_of_ble_eq_true rfl) ?_
  have stay : ∀ (h : nextF L i = none), ∃ F2, (.v (.bool false) : AV) = .v (.bool (nextF L i).isSome) ∧ RpAt s b (stepL L i) (stepM L Ms i) F2 ∧ Mut (b :: lb :: F') F2 s s := fun h => by
    refine ⟨b :: lb :: F', by rw [h]; rfl, ?_, .refl _ _⟩
    unfold stepL stepM; rw [h]; exact hR'
  by_cases hi : i < 0
  · have hn : nextF L i = none := by unfold nextF; rw [if_pos hi]
    repeat (first | simp -dsimp -implicitDefEqProofs (disch := first | omega | (simp <;> omega) | fail) [hi] | ((with_reducible first | apply m_1 | apply m_0); (focus ((conv => lhs; simp -dsimp -implicitDefEqProofs (disch := first | omega | (simp <;> omega) | fail) [hi]); done))) | ((with_reducible first | apply i_T | apply g_T); (focus (simp -dsimp -implicitDefEqProofs (disch := first | omega | (simp <;> omega) | fail) [hi]; done))) | ((with_reducible first | apply i_F | apply g_F); (focus (simp -dsimp -implicitDefEqProofs (disch := first | omega | (simp <;> omega) | fail) [hi]; done))))
    exact ret_ok rfl (stay hn)
  obtain ⟨m, rfl⟩ : ∃ m : Nat, i = m := ⟨i.toNat, by omega⟩
  by_cases hm : m < L.length
  · have hm2 : ¬ L.length ≤ m := by omega
    have hnx : nextF L m = match L[m] with | f :: r => some (f, r) | [] => none := by
      unfold nextF
      rw [if_neg hi, show (m : Int).toNat = m from rfl, List.getElem?_eq_getElem hm]
      cases L[m] <;> rfl
    obtain ⟨t, ht⟩ := h4 m (by omega) hm
    obtain ⟨A, c, B, hcs, hA⟩ : ∃ A c B, cs = A ++ c :: B ∧ A.length = m := ⟨cs.take m, cs[m], cs.drop (m + 1), by rw [List.getElem_cons_drop]; simp, by simp; omega⟩
    have hc : c = .sl ((L[m]).map Fnd.av) t := by
      rw [← ht]; simp [hcs, ← hA]
    have fd : ∀ x : AV, (A ++ x :: B).drop m = x :: B := fun x => drop_mid hA
    have ft : ∀ x : AV, (A ++ x :: B).take m = A := fun x => take_mid hA
    have fr : ∀ x : AV, (A ++ x :: B).drop (m + 1) = B := fun x => drop_mid1 hA
    rw [hcs, hc] at h2
    cases hL : L[m] with
    | nil =>
      rw [hL] at hnx h2
      repeat (first | simp -dsimp -implicitDefEqProofs (disch := first | omega | (simp <;> omega) | fail) [hi, hm, h1, h2, fd] | ((with_reducible first | apply m_1 | apply m_0); (focus ((conv => lhs; simp -dsimp -implicitDefEqProofs (disch := first | omega | (simp <;> omega) | fail) [hi, hm, h1, h2, fd]); done))) | ((with_reducible first | apply i_T | apply g_T); (focus (simp -dsimp -implicitDefEqProofs (disch := first | omega | (simp <;> omega) | fail) [hi, hm, h1, h2, fd]; done))) | ((with_reducible first | apply i_F | apply g_F); (focus (simp -dsimp -implicitDefEqProofs (disch := first | omega | (simp <;> omega) | fail) [hi, hm, h1, h2, fd]; done))))
      exact ret_ok rfl (stay hnx)
    | cons f r =>
      rw [hL] at hnx h2
      have hr0 : ((r.length : Int) + 1 == 0) = false := by simp; omega
      have hmp : m < ps.length := by omega
      have hr1 : (1 : Int) ≤ (r.length : Int) + 1 := by omega
      have hr2 : (r.map Fnd.av).take r.length = r.map Fnd.av := List.take_of_length_le (by simp)
      have hblb : b ≠ lb := fun e => (List.nodup_cons.1 h6).1 (by simp [e])
      have hptr : ∀ x, ptr x = .p x 0 := fun _ => rfl
      have hLm : (f :: r) ∈ L := by rw [← hL]; exact List.getElem_mem hm
      have hmM : m < Ms.length := by omega
      have hlbF : lb ∉ F' := (List.nodup_cons.1 (List.nodup_cons.1 h6).2).1
      have hbF : b ∉ F' := fun h => (List.nodup_cons.1 h6).1 (by simp [h])
      have hF' : ∀ x ∈ F', x < s.n := fun x hx => hlt x (by simp [hx])
      have hnF : F'.Nodup := (List.nodup_cons.1 (List.nodup_cons.1 h6).2).2
      repeat (first | simp -dsimp -implicitDefEqProofs (disch := first | omega | (simp <;> omega) | fail) [hi, hm, hm2, h1, h2, fd, ft, fr, hr0, hr1, hr2, hA, hmp, hptr] | ((with_reducible first | apply m_1 | apply m_0); (focus ((conv => lhs; simp -dsimp -implicitDefEqProofs (disch := first | omega | (simp <;> omega) | fail) [hi, hm, hm2, h1, h2, fd, ft, fr, hr0, hr1, hr2, hA, hmp, hptr]); done))) | ((with_reducible first | apply i_T | apply g_T); (focus (simp -dsimp -implicitDefEqProofs (disch := first | omega | (simp <;> omega) | fail) [hi, hm, hm2, h1, h2, fd, ft, fr, hr0, hr1, hr2, hA, hmp, hptr]; done))) | ((with_reducible first | apply i_F | apply g_F); (focus (simp -dsimp -implicitDefEqProofs (disch := first | omega | (simp <;> omega) | fail) [hi, hm, hm2, h1, h2, fd, ft, fr, hr0, hr1, hr2, hA, hmp, hptr]; done))))
      have h5' : LedsAt ((s.set lb (.cells (A ++ .sl (r.map Fnd.av) .no :: B))).alloc (.cells f.cells)) ps Ms F' := h5.keep fun x hx => by
        rw [get_alloc_ne (by have := hF' x hx; simp; omega), AState.get_set_ne _ _ (by rintro rfl; exact hlbF hx)]
      have hcl : (A ++ .sl (r.map Fnd.av) .no :: B).length = L.length := by rw [← h3, hcs]; simp
      obtain ⟨Fi, k1, k2, k3⟩ := h5'.focus hnF (i := m) hmp hmM
      refine run (rn_ledger_Ledger_Do (l := f.ps) (at_ := ⟨f.sg, f.at_⟩) k1 (hM _ (List.getElem_mem hmM)).gok (by have := hf.p _ hLm f (by simp); omega) (fun p hp => by have := hf.e _ hLm f (by simp) p hp; omega)) (by simp [Plc.av, Plc.cells]) ?_
      rintro _ s2 ⟨Fi', q1, q2⟩
      obtain ⟨F2, j1, j2, j3⟩ := k3 s2 _ Fi' q1 q2
      repeat (first | simp -dsimp -implicitDefEqProofs (disch := first | omega | (simp <;> omega) | fail) | ((with_reducible first | apply m_1 | apply m_0); (focus ((conv => lhs; simp -dsimp -implicitDefEqProofs (disch := first | omega | (simp <;> omega) | fail)); done))) | ((with_reducible first | apply i_T | apply g_T); (focus (simp -dsimp -implicitDefEqProofs (disch := first | omega | (simp <;> omega) | fail); done))) | ((with_reducible first | apply i_F | apply g_F); (focus (simp -dsimp -implicitDefEqProofs (disch := first | omega | (simp <;> omega) | fail); done))))
      have hn2 := j2.n
      simp at hn2
      have ap : ∀ x ∈ [b, lb], x ∉ F2 := j2.apart (by simp [hbF, hlbF]) (by simp; omega)
      have g1 : s2.get b = s.get b := by rw [j2.keep b (by simp; omega) hbF, get_alloc_ne (by simp; omega), AState.get_set_ne _ _ hblb]
      have g2 : s2.get lb = .cells (A ++ .sl (r.map Fnd.av) .no :: B) := by rw [j2.keep lb (by simp; omega) hlbF]; simp (disch := first | omega | (simp <;> omega) | fail)
      have e1 : stepL L m = L.set m r := by unfold stepL; rw [hnx]; rfl
      have e2 : stepM L Ms m = Ms.set m (doL Ms[m] f.ps ⟨f.sg, f.at_⟩) := by
        unfold stepM; rw [hnx]; show Ms.set m (doL (Ms.getD m []) _ _) = _
        rw [List.getD_eq_getElem?_getD, List.getElem?_eq_getElem hmM]; rfl
      rw [hnx, e1, e2]
      refine ret_ok rfl ⟨b :: lb :: F2, rfl, ⟨lb, _, ps, tk, F2, rfl, by rw [g1, h1]; simp, g2, by simp only [List.length_set]; exact hcl, fun i h h' => ?_, j1, ?_, by simp [h7]⟩, ?_⟩
      · by_cases hi2 : i = m
        · subst hi2
          exact ⟨.no, by simp [hA]⟩
        · have hi3 : i < L.length := by simpa using h'
          obtain ⟨t', e'⟩ := h4 i (by omega) hi3
          refine ⟨t', ?_⟩
          rw [List.getElem_set_ne (fun e => hi2 e.symm), ← e']
          have : ∀ (x y : AV) (h1 : i < (A ++ x :: B).length) (h2 : i < (A ++ y :: B).length), (A ++ x :: B)[i] = (A ++ y :: B)[i] := fun x y g1 g2 => by
            by_cases h : i < A.length
            · rw [List.getElem_append_left h, List.getElem_append_left h]
            · rw [List.getElem_append_right (by omega), List.getElem_append_right (by omega)]
              obtain ⟨d, hd⟩ : ∃ d, i - A.length = d + 1 := ⟨i - A.length - 1, by omega⟩
              simp only [hd, List.getElem_cons_succ]
          simp only [hcs]
          exact this _ _ _ _
      · simp only [List.nodup_cons, List.mem_cons, not_or]
        exact ⟨⟨hblb, ap b (by simp)⟩, ap lb (by simp), j3⟩
      · refine ⟨by omega, fun x hx hnx => ?_, fun x hx => ?_⟩
        · simp only [List.mem_cons, not_or] at hnx
          rw [j2.keep x (by simp; omega) hnx.2.2, get_alloc_ne (by simp; omega), AState.get_set_ne _ _ hnx.2.1]
        · simp only [List.mem_cons] at hx ⊢
          rcases hx with h | h | h
          · exact .inl (.inl h)
          · exact .inl (.inr (.inl h))
          · rcases j2.own x h with h8 | h8
            · exact .inl (.inr (.inr h8))
            · exact .inr (by simp at h8; omega)
  · have hn : nextF L m = none := by
      unfold nextF
      rw [if_neg hi, show (m : Int).toNat = m from rfl, List.getElem?_eq_none (by omega)]
    have hm2 : L.length ≤ m := by omega
    refine st3 hi hm2 h1 ?_
    exact ret_ok rfl (stay hn)
end Go.Proofs.Ytmpoeamfcienoaa
end
section
namespace Go.Ab
set_option linter.unusedVariables false
set_option linter.unusedSimpArgs false
structure LftI (s : AState) (n : Nat) (lb k : Nat) (s' : AState) : Prop where
  b0 : s'.get s.n = .cells [.v (.int .i64 n)]
  b1 : s'.get (s.n + 1) = .cells [.ms lb 0 k]
  n : s.n + 4 ≤ s'.n
  old : ∀ x, x < s.n → s'.get x = s.get x
theorem LftI.keep {s : AState} {n lb k : Nat} {s' s2 : AState} (h : LftI s n lb k s') (hn : s'.n ≤ s2.n) (hk : ∀ x, x < s'.n → x ≠ s.n + 3 → s2.get x = s'.get x) : LftI s n lb k s2 := by
  obtain ⟨b0, b1, n, old⟩ := h
  exact ⟨(hk _ (by omega) (by omega)).trans b0, (hk _ (by omega) (by omega)).trans b1, by omega, fun x hx => (hk _ (by omega) (by omega)).trans (old x hx)⟩
theorem cntL_snoc {L : List (List Fnd)} {k : Nat} (h : k < L.length) : cntL (L.take (k + 1)) = cntL (L.take k) + L[k].length := by
  have e : L.take (k + 1) = L.take k ++ [L[k]] := (List.take_append_getElem h).symm
  rw [e]; simp only [cntL, List.map_append, List.sum_append, List.map_cons, List.map_nil, List.sum_cons, List.sum_nil, Nat.add_zero]
theorem cntL_le (L : List (List Fnd)) (n : Nat) (h : ∀ l ∈ L, l.length ≤ n) : cntL L ≤ L.length * n := by
  induction L with
  | nil => simp [cntL]
  | cons l L ih =>
    have h1 := ih fun x hx => h x (by simp [hx])
    have h2 := h l (by simp)
    simp only [cntL, List.map_cons, List.sum_cons, List.length_cons, Nat.succ_mul] at h1 ⊢
    omega
end Go.Ab
namespace Go.Proofs.Ytmpoeamfcienoaa
open Go.Ab
set_option linter.unusedVariables false
set_option linter.unusedSimpArgs false
set_option maxRecDepth 100000
set_option maxHeartbeats 1000000
theorem rn_slices_Clone_Ledger {ps : List Nat} {tk0 : Tok} {s : AState} (hlen : ps.length * 8 ≤ 140737488355328) : Runs (compCode prog) prog F_slices_Clone_Ledger [.sl (ps.map fun n => .p n 0) tk0] s (fun x s' => ∃ tk, x = .sl (ps.map fun n => .p n 0) tk ∧ Grows s s') := by
  refine runs_e h_slices_Clone_Ledger (Nat.le_of_ble_eq_true rfl) ?_
  repeat (first | simp -dsimp -implicitDefEqProofs (disch := first | omega | (simp <;> omega) | fail) | ((with_reducible first | apply m_1 | apply m_0); (focus ((conv => lhs; simp -dsimp -implicitDefEqProofs (disch := first | omega | (simp <;> omega) | fail)); done))) | ((with_reducible first | apply i_T | apply g_T); (focus (simp -dsimp -implicitDefEqProofs (disch := first | omega | (simp <;> omega) | fail); done))) | ((with_reducible first | apply i_F | apply g_F); (focus (simp -dsimp -implicitDefEqProofs (disch := first | omega | (simp <;> omega) | fail); done))))
  refine i_N (fun hne => ?_) (fun hne b => ?_)
  · repeat (first | simp -dsimp -implicitDefEqProofs (disch := first | omega | (simp <;> omega) | fail) | ((with_reducible first | apply m_1 | apply m_0); (focus ((conv => lhs; simp -dsimp -implicitDefEqProofs (disch := first | omega | (simp <;> omega) | fail)); done))) | ((with_reducible first | apply i_T | apply g_T); (focus (simp -dsimp -implicitDefEqProofs (disch := first | omega | (simp <;> omega) | fail); done))) | ((with_reducible first | apply i_F | apply g_F); (focus (simp -dsimp -implicitDefEqProofs (disch := first | omega | (simp <;> omega) | fail); done))))
    refine m_app (xs := []) (tk := .zero) (ys := ps.map fun n => .p n 0) (t2 := tk0) (B := s) (N := s.n) (by simp) (by simp) (Grows.refl s) (Nat.le_refl _) (Nat.le_refl _) trivial (by simp) (List.all_eq_true.2 fun x hx => by obtain ⟨n, _, rfl⟩ := List.mem_map.1 hx; rfl) (by simp; omega) (by simp; omega) ?_
    intro s' tk2 hg hm _ _
    repeat (first | simp -dsimp -implicitDefEqProofs (disch := first | omega | (simp <;> omega) | fail) | ((with_reducible first | apply m_1 | apply m_0); (focus ((conv => lhs; simp -dsimp -implicitDefEqProofs (disch := first | omega | (simp <;> omega) | fail)); done))) | ((with_reducible first | apply i_T | apply g_T); (focus (simp -dsimp -implicitDefEqProofs (disch := first | omega | (simp <;> omega) | fail); done))) | ((with_reducible first | apply i_F | apply g_F); (focus (simp -dsimp -implicitDefEqProofs (disch := first | omega | (simp <;> omega) | fail); done))))
    exact ret_ok rfl ⟨tk2, by simp [retVal], hg⟩
  · have : ps = [] := by simpa using hne
    subst this
    cases b
    · refine st0 ?_
      exact ret_ok rfl ⟨_, rfl, Grows.refl _⟩
    · refine st0 ?_
      exact ret_ok rfl ⟨_, rfl, Grows.refl _⟩
theorem ct_slices_Values_lFound_ms {lb k : Nat} {s : AState} : Gives prog F_slices_Values_lFound [.ms lb 0 k] s (.f (.func F_slices_Values_lFound_1) [] [.p s.n 0]) (s.alloc (.cells [.ms lb 0 k])) := by
  refine runs_e h_slices_Values_lFound (Nat.le_of_ble_eq_true rfl) ?_
  refine st0 ?_
  exact ret_ok rfl ⟨rfl, rfl⟩
theorem it_slices_Values_lFound_ms (lb k : Nat) (cs : List AV) (hk : cs.length = k) (h1 : ∀ c ∈ cs, c.cells = [c] ∧ c.one = true) (b : Nat) (hlen : k < 9223372036854775808) :
    Iter prog F_slices_Values_lFound_1 [] [.p b 0] (cs.map fun e => [e]) (fun s => s.get b = .cells [.ms lb 0 k] ∧ s.get lb = .cells cs) := by
  intro l s I J hp ha hj hy h0
  refine runs_e h_slices_Values_lFound_1 (Nat.le_of_ble_eq_true rfl) ?_
  refine st1 ((hp 0 s h0).1) ?_
  refine loop_ok [0, 5, 6, 7] (fun m a s1 => ∃ j : Nat, j + m = k ∧ I j s1 ∧ a = { t := den 16 [(0, .y l), (5, .ms lb 0 k), (6, .v (.int .i64 k)), (7, .v (.int .i64 j))], d := [] }) k ?_ ?_
  · exact ⟨0, by simp, h0, by simp⟩
  · rintro m a s1 ⟨j, hjm, hI, rfl⟩
    by_cases hlt : j < k
    · have hw : IntKind.wrap .i64 ((j : Int) + 1) = ((j + 1 : Nat) : Int) := by rw [wrap_i64 (by omega) (by omega)]; omega
      have hj : j < cs.length := by omega
      obtain ⟨hc, ho⟩ := h1 _ (List.getElem_mem hj)
      have e1 := (hp j s1 hI).2
      obtain ⟨A, c, B, hcs, hA⟩ : ∃ A c B, cs = A ++ c :: B ∧ A.length = j := ⟨cs.take j, cs[j], cs.drop (j + 1), by rw [List.getElem_cons_drop]; simp, by simp; omega⟩
      have hcj : cs[j] = c := by simp [hcs, ← hA]
      rw [hcj] at hc ho
      rw [hcs] at e1
      have fd : (A ++ c :: B).drop j = c :: B := drop_mid hA
      have hy' := hy j (by simpa using hj) _ hI
      simp only [List.getElem_map, hcj] at hy'
      refine st5 hlt hc ho e1 fd ?_
      refine yr0 (hy') ?_
      rintro _ s2 (⟨rfl, hI2⟩ | ⟨rfl, hJ⟩)
      · refine st1 hw ?_
        exact ⟨m - 1, by omega, j + 1, by omega, hI2, by simp⟩
      · refine st0 ?_
        exact ret_ok rfl (.inr hJ)
    · refine st1 hlt ?_
      have : j = k := by omega
      subst this
      exact end_ok rfl (.inl (by simpa [hk] using hI))
theorem rn_replay_Replay_Ledgers {b : Nat} {L : List (List Fnd)} {Ms : List (List (Int × LogV))} {F : List Nat} {s : AState} (hR : RpAt s b L Ms F) (hk : L.length ≤ 64) :
    ∃ ps F', LedsAt s ps Ms F' ∧ (∀ x ∈ F', x ∈ F) ∧ Runs (compCode prog) prog F_replay_Replay_Ledgers [.p b 0] s (fun x s' => ∃ tk, x = .sl (ps.map fun n => .p n 0) tk ∧ Grows s s') := by
  obtain ⟨lb, cs, ps, tk, F', rfl, h1, h2, h3, h4, h5, h6, h7⟩ := hR
  have hpl := h5.len
  refine ⟨ps, F', h5, fun x hx => by simp [hx], runs_e h_replay_Replay_Ledgers (Nat.le_of_ble_eq_true rfl) ?_⟩
  have e : ps.map ptr = ps.map fun n => .p n 0 := rfl
  rw [e] at h1
  refine st1 h1 ?_
  refine rn0 (rn_slices_Clone_Ledger (ps := ps) (by omega)) ?_
  rintro _ s1 ⟨tk2, rfl, hg⟩
  refine st0 ?_
  exact ret_ok rfl ⟨tk2, rfl, hg⟩
theorem ct_replay_Replay_Left {b : Nat} {L : List (List Fnd)} {Ms : List (List (Int × LogV))} {F : List Nat} {s : AState} (hR : RpAt s b L Ms F) (hf : FewL L) : Gives prog F_replay_Replay_Left [.p b 0] s (.v (.int .i64 (cntL L))) s := by
  have hlt := hR.lt
  obtain ⟨lb, cs, ps, tk, F', rfl, h1, h2, h3, h4, h5, h6, h7⟩ := hR
  have hb := hlt b (by simp)
  have hlb := hlt lb (by simp)
  have hk := hf.k
  have hones : ∀ c ∈ cs, c.cells = [c] ∧ c.one = true := fun c hc => by
    obtain ⟨i, hi, rfl⟩ := List.getElem_of_mem hc
    obtain ⟨t, e⟩ := h4 i hi (by omega)
    rw [e]; exact ⟨rfl, rfl⟩
  refine Runs.gives (runs_e h_replay_Replay_Left (Nat.le_of_ble_eq_true rfl) ?_) (.v _)
  refine st1 h1 ?_
  refine gv (ct_slices_Values_lFound_ms (lb := lb) (k := L.length)) ?_
  refine st0 ?_
  have hit := it_slices_Values_lFound_ms lb L.length cs h3 hones (s.n + 1) (by omega)
  have hsn : ((s.alloc (.cells [.v (.int .i64 0)])).alloc (.cells [.ms lb 0 L.length])).n = s.n + 2 := by simp
  refine w_rangeS (m := L.length) (by simp) hit (by intro x hx; obtain ⟨p, _, rfl⟩ := List.mem_map.1 hx; rfl) (by simp [h3]) (fun k s' => LftI s (cntL (L.take k)) lb L.length s') (fun _ _ => False) ?_ ?_ ?_ ?_ ?_ ?_ ?_
  · intro LR
    exact ⟨by simp (disch := first | omega | (simp <;> omega) | fail) [cntL], dz0, by simp, fun x hx => dz0⟩
  · intro k s' h; exact ⟨h.b1, (h.old lb hlb).trans h2⟩
  · intro k s' o hn h; exact h.keep (by simp) fun x hx _ => get_alloc_ne (by omega)
  · intro j s' o hn h; exact h
  · intro LR LB LJ hLB hLR k hkk s' hdd hLL hln hI
    have hk' : k < cs.length := by simpa using hkk
    have hkL : k < L.length := by omega
    obtain ⟨t, e⟩ := h4 k hk' hkL
    rw [cntL_snoc hkL]
    have hc1 := cntL_le (L.take k) 30 (fun l hl => hf.n l (List.mem_of_mem_take hl))
    have hc2 := hf.n _ (List.getElem_mem hkL)
    simp only [List.length_take] at hc1
    generalize cntL (L.take k) = c0 at hI hc1 ⊢
    simp only [hsn, List.getElem_map, List.zip_cons_cons, List.zip_nil_right, List.reverse_cons, List.reverse_nil, List.nil_append, List.cons_append, e] at hdd hLL hln ⊢
    have hb0 := hI.b0
    have w4 : IntKind.wrap .i64 ((c0 : Int) + L[k].length) = ((c0 + L[k].length : Nat) : Int) := by rw [wrap_i64 (by omega) (by omega)]; omega
    have hne : s.n ≠ s.n + 2 + 1 := by omega
    refine st3 hLL hb0 w4 ?_
    refine fins_n (fun d hd => by cases hd; simp (disch := first | omega | (simp <;> omega) | fail) [hdd]) (dz0) ?_
    obtain ⟨b0, b1, n, old⟩ := hI
    exact ⟨dz0, dz1 b1, by simpa using n, fun x hx => dz1 (old x hx)⟩
  · rintro s' hdd hln ⟨b0, b1, n, old⟩
    rw [List.take_length] at b0
    simp only [hsn] at hdd hln ⊢
    refine st1 b0 ?_
    refine ret_okD ?_ ?_ rfl ⟨⟨?_, fun x hx => .inl ?_⟩, .refl _⟩
    · simp (disch := first | omega | (simp <;> omega) | fail) [hdd]
    · simp
    · simp [killAll]; omega
    · simp (disch := first | omega | (simp <;> omega) | fail) [killAll, old x hx]
  · intro j s' _ _ h; exact h.elim
end Go.Proofs.Ytmpoeamfcienoaa
end
section
namespace Go.Ab
set_option linter.unusedVariables false
set_option linter.unusedSimpArgs false
def fpl (l : List Fnd) : List (List Prt × Plc) := l.map fun f => (f.ps, ⟨f.sg, f.at_⟩)
def outs (L : List (List Fnd)) (Ms : List (List (Int × LogV))) : List (List (Int × LogV)) := (L.zip Ms).map fun x => runL x.2 (fpl x.1)
theorem outs_step {L : List (List Fnd)} {Ms : List (List (Int × LogV))} (h : L.length = Ms.length) (i : Int) : outs (stepL L i) (stepM L Ms i) = outs L Ms := by
  unfold stepL stepM
  cases hn : nextF L i with
  | none => rfl
  | some x =>
    obtain ⟨f, r⟩ := x
    unfold nextF at hn
    split at hn
    · cases hn
    split at hn
    case h_2 => cases hn
    case h_1 f' r' e =>
    cases hn
    obtain ⟨hm, e1⟩ := List.getElem?_eq_some_iff.1 e
    have hm2 : i.toNat < Ms.length := by omega
    refine List.ext_getElem (by simp [outs, h]) fun j h1 h2 => ?_
    simp only [outs, List.getElem_map, List.getElem_zip]
    by_cases hj : j = i.toNat
    · subst hj
      simp only [List.getElem_set_self, e1]
      rw [List.getD_eq_getElem?_getD, List.getElem?_eq_getElem hm2]
      rfl
    · rw [List.getElem_set_ne (fun e => hj e.symm), List.getElem_set_ne (fun e => hj e.symm)]
theorem outs_done {L : List (List Fnd)} {Ms : List (List (Int × LogV))} (h : L.length = Ms.length) (hL : ∀ l ∈ L, l = []) : outs L Ms = Ms := by
  refine List.ext_getElem (by simp [outs, h]) fun j h1 h2 => ?_
  simp only [outs, List.getElem_map, List.getElem_zip]
  rw [hL _ (List.getElem_mem (by omega))]; rfl
theorem next_cnt {L : List (List Fnd)} {i : Int} (h : (nextF L i).isSome = true) : cntL (stepL L i) + 1 = cntL L := by
  unfold stepL
  cases hn : nextF L i with
  | none => rw [hn] at h; cases h
  | some x =>
    obtain ⟨f, r⟩ := x
    unfold nextF at hn
    split at hn
    · cases hn
    split at hn
    case h_2 => cases hn
    case h_1 f' r' e =>
    cases hn
    obtain ⟨hm, e1⟩ := List.getElem?_eq_some_iff.1 e
    have key : ∀ (L : List (List Fnd)) (m : Nat) (hm : m < L.length), L[m] = f :: r → cntL (L.set m r) + 1 = cntL L := by
      intro L
      induction L with
      | nil => intro m hm; exact absurd hm (Nat.not_lt_zero _)
      | cons l L ih =>
        intro m hm e
        cases m with
        | zero =>
          simp only [List.getElem_cons_zero] at e
          subst e
          simp only [cntL, List.set_cons_zero, List.map_cons, List.sum_cons, List.length_cons]; omega
        | succ m =>
          have := ih m (by simpa using hm) (by simpa using e)
          simp only [cntL, List.set_cons_succ, List.map_cons, List.sum_cons] at this ⊢; omega
    exact key L _ hm e1
theorem next_none {L : List (List Fnd)} {i : Nat} (h : i < L.length) (hn : nextF L i = none) : L[i] = [] := by
  unfold nextF at hn
  rw [if_neg (by omega), show (i : Int).toNat = i from rfl, List.getElem?_eq_getElem h] at hn
  cases e : L[i] with
  | nil => rfl
  | cons f r => rw [e] at hn; cases hn
theorem step_none {L : List (List Fnd)} {i : Int} (h : nextF L i = none) : stepL L i = L := by unfold stepL; rw [h]
theorem stepM_none {L : List (List Fnd)} {Ms : List (List (Int × LogV))} {i : Int} (h : nextF L i = none) : stepM L Ms i = Ms := by unfold stepM; rw [h]
theorem step_other {L : List (List Fnd)} {i j : Nat} (h : j ≠ i) : (stepL L i)[j]? = L[j]? := by
  unfold stepL
  cases nextF L (i : Int) with
  | none => rfl
  | some x => exact List.getElem?_set_ne (by simpa using Ne.symm h)
structure RnI (s : AState) (b : Nat) (z : AV) (O : List (List (Int × LogV))) (k : Nat) (F : List Nat) (s' : AState) (L : List (List Fnd)) (Ms : List (List (Int × LogV))) (F' : List Nat) : Prop where
  b0 : s'.get s.n = .cells [.p b 0]
  b1 : s'.get (s.n + 1) = .cells [z]
  rp : RpAt s' b L Ms F'
  eq : outs L Ms = O
  ok : GsOk Ms
  few : FewL L
  len : L.length = k
  mt : Mut F F' s s'
  sep : ∀ x ∈ F', x < s.n ∨ s.n + 4 ≤ x
  n : s.n + 4 ≤ s'.n
theorem RpAt.len {s : AState} {b : Nat} {L : List (List Fnd)} {Ms : List (List (Int × LogV))} {F : List Nat} (h : RpAt s b L Ms F) : L.length = Ms.length := by
  obtain ⟨lb, cs, ps, tk, F', rfl, h1, h2, h3, h4, h5, h6, h7⟩ := h; exact h7.symm
theorem RnI.keep {s : AState} {b : Nat} {z : AV} {O : List (List (Int × LogV))} {k : Nat} {F : List Nat} {s' s2 : AState} {L : List (List Fnd)} {Ms : List (List (Int × LogV))} {F' : List Nat} (h : RnI s b z O k F s' L Ms F') (hn : s'.n ≤ s2.n)
    (hk : ∀ x, x < s'.n → x ≠ s.n + 3 → s2.get x = s'.get x) : RnI s b z O k F s2 L Ms F' := by
  obtain ⟨b0, b1, rp, eq, ok, few, len, mt, sep, n⟩ := h
  have hF := rp.lt
  refine ⟨(hk _ (by omega) (by omega)).trans b0, (hk _ (by omega) (by omega)).trans b1, rp.keep fun x hx => hk x (hF x hx) (by have := sep x hx; omega), eq, ok, few, len, ⟨by have := mt.n; omega, fun x hx hn => (hk x (by have := mt.n; omega) (by omega)).trans (mt.keep x hx hn), mt.own⟩, sep, by omega⟩
theorem RnI.step {s : AState} {b : Nat} {z : AV} {O : List (List (Int × LogV))} {k : Nat} {F : List Nat} {s' s2 : AState} {L : List (List Fnd)} {Ms : List (List (Int × LogV))} {F' F2 : List Nat} (h : RnI s b z O k F s' L Ms F') (i : Int)
    (g1 : RpAt s2 b (stepL L i) (stepM L Ms i) F2) (g2 : Mut F' F2 s' s2) : RnI s b z O k F s2 (stepL L i) (stepM L Ms i) F2 := by
  obtain ⟨b0, b1, rp, eq, ok, few, len, mt, sep, n⟩ := h
  have hn := g2.n
  have n0 : ∀ x, s.n ≤ x → x < s.n + 4 → x ∉ F' := fun x h1 h2 hm => by have := sep x hm; omega
  refine ⟨(g2.keep _ (by omega) (n0 _ (by omega) (by omega))).trans b0, (g2.keep _ (by omega) (n0 _ (by omega) (by omega))).trans b1, g1, by rw [outs_step rp.len, eq], ok.step i, few.step i, by rw [stepL_len, len], mt.trans g2, fun x hx => ?_, by omega⟩
  rcases g2.own x hx with h1 | h1
  · exact sep x h1
  · exact .inr (by omega)
end Go.Ab
namespace Go.Proofs.Ytmpoeamfcienoaa
open Go.Ab
set_option linter.unusedVariables false
set_option linter.unusedSimpArgs false
set_option maxRecDepth 100000
set_option maxHeartbeats 1000000
theorem rn_replay_Replay_Run {b : Nat} {L : List (List Fnd)} {Ms : List (List (Int × LogV))} {F : List Nat} {sc : List Int} {s : AState} (hR : RpAt s b L Ms F) (hM : GsOk Ms) (hf : FewL L) (h0 : 0 < L.length) (hsc : sc.length ≤ 1000000) :
    Runs (compCode prog) prog F_replay_Replay_Run [.p b 0, .sl (sc.map fun n => .v (.int .u8 n)) .no] s (fun _ s' => ∃ F', RpAt s' b (L.map fun _ => []) (outs L Ms) F' ∧ Mut F F' s s') := by
  have hlt := hR.lt
  have hk := hf.k
  refine runs_e h_replay_Replay_Run (Nat.le_of_ble_eq_true rfl) ?_
  refine st0 ?_
  refine m_scope ?_
  refine st0 ?_
  refine gv (ct_slices_Values_uint8 (xs := sc.map fun n => .v (.int .u8 n))) ?_
  refine st0 ?_
  have hit := it_slices_Values_uint8 (sc.map fun n => .v (.int .u8 n)) (.ints _) (s.n + 1) (by simp; omega)
  have hsn : ((s.alloc (.cells [.p b 0])).alloc (.cells [.sl (sc.map fun n => .v (.int .u8 n)) .no])).n = s.n + 2 := by simp
  refine w_rangeS (m := sc.length) (by simp) hit (by intro x hx; obtain ⟨p, _, rfl⟩ := List.mem_map.1 hx; rfl) (by simp) (fun k s' => ∃ L' Ms' F', RnI s b (.sl (sc.map fun n => .v (.int .u8 n)) .no) (outs L Ms) L.length F s' L' Ms' F') (fun _ _ => False) ?_ ?_ ?_ ?_ ?_ ?_ ?_
  · intro LR
    exact ⟨L, Ms, F, dz0, dz0, hR.keep fun x hx => by have := hlt x hx; simp (disch := first | omega | (simp <;> omega) | fail), rfl, hM, hf, rfl, .grows (((((Grows.refl s).alloc _).alloc _).alloc _).alloc _), fun x hx => .inl (hlt x hx), by simp⟩
  · rintro k s' ⟨L', Ms', F', h⟩; exact h.b1
  · rintro k s' o hn ⟨L', Ms', F', h⟩; exact ⟨L', Ms', F', h.keep (by simp) fun x hx _ => get_alloc_ne (by omega)⟩
  · intro j s' o hn h; exact h
  · rintro LR LB LJ hLB hLR k hkk s' hdd hLL hln ⟨L', Ms', F', hI⟩
    have hk' : k < sc.length := by simpa using hkk
    simp only [hsn, List.getElem_map, List.zip_cons_cons, List.zip_nil_right, List.reverse_cons, List.reverse_nil, List.nil_append, List.cons_append] at hdd hLL hln ⊢
    have hI2 : RnI s b (.sl (sc.map fun n => .v (.int .u8 n)) .no) (outs L Ms) L.length F (s'.set (s.n + 2 + 1) LB) L' Ms' F' := hI.keep (by simp) fun x hx hn => dz1 hn
    have hb0 := hI.b0
    obtain ⟨lb, cs, ps, tk, F'', hFe, hc1, -⟩ := hI.rp
    have hb3 : b ≠ s.n + 2 + 1 := by have := hI.sep b (by simp [hFe]); omega
    have k2 : (s'.set (s.n + 2 + 1) LB).get (s.n + 2 + 1) = LB := dz0
    have k4 : (s'.set (s.n + 2 + 1) LB).get (s.n + 2) = .defd := dz1 hdd
    have hl0 : ¬ L' = [] := fun e => by have := hI.len; rw [e] at this; simp at this; omega
    refine st4 hLL hb0 hc1 hl0 ?_
    clear hI hLL hdd hln hb0 hc1
    generalize s'.set (s.n + 2 + 1) LB = s4 at k2 k4 hI2 ⊢
    refine rn0 (rn_replay_Replay_Step hI2.rp hI2.ok hI2.few) ?_
    rintro _ s5 ⟨F5, rfl, g1, g2⟩
    have hI3 := hI2.step _ g1 g2
    have hn5 := g2.n
    have n0 : ∀ x, s.n ≤ x → x < s.n + 4 → x ∉ F' := fun x h1 h2 hm => by have := hI2.sep x hm; omega
    have hn4 := hI2.n
    refine st1 ((g2.keep _ (by omega) (n0 (s.n + 2 + 1) (by omega) (by omega))).trans k2) ?_
    refine fins_n (fun d hd => by cases hd; rw [AState.get_set_ne _ _ (by omega)]; exact (g2.keep _ (by omega) (n0 _ (by omega) (by omega))).trans k4) (dz0) ⟨_, _, _, hI3.keep (by simp) fun x hx hn => dz1 hn⟩
  · rintro s' hdd hln ⟨L', Ms', F', hI⟩
    simp only [hsn] at hdd hln ⊢
    have hI2 : RnI s b (.sl (sc.map fun n => .v (.int .u8 n)) .no) (outs L Ms) L.length F (s'.set (s.n + 2 + 1) .dead) L' Ms' F' := hI.keep (by simp) fun x hx hn => dz1 hn
    have k4 : (s'.set (s.n + 2 + 1) .dead).get (s.n + 2) = .defd := dz1 hdd
    clear hI hdd hln
    generalize s'.set (s.n + 2 + 1) .dead = s4 at k4 hI2 ⊢
    refine st0 ?_
    refine loop_ok [2, 5] (fun r a s1 => ∃ (i : Nat) (L' : List (List Fnd)) (Ms' : List (List (Int × LogV))) (F' : List Nat), (L.length - i) + cntL L' = r ∧ i ≤ L.length ∧ RnI s b (.sl (sc.map fun n => .v (.int .u8 n)) .no) (outs L Ms) L.length F s1 L' Ms' F' ∧ s1.get (s.n + 2) = .defd ∧
      (∀ j, j < i → L'[j]? = some []) ∧ a = { t := den 31 [(2, .p s.n 0), (5, .v (.int .i64 i))], d := [s.n + 2] }) (L.length + cntL L') ?_ ?_
    · exact ⟨0, L', Ms', F', by omega, by omega, hI2, k4, fun j h => absurd h (Nat.not_lt_zero _), by simp⟩
    clear hI2 k4
    rintro r a s1 ⟨i, L', Ms', F', hr, hi, hI, hd, hz, rfl⟩
    have hb0 := hI.b0
    have hll := hI.len
    have n0 : ∀ x, s.n ≤ x → x < s.n + 4 → x ∉ F' := fun x h1 h2 hm => by have := hI.sep x hm; omega
    have hn4 := hI.n
    obtain ⟨lb, cs, ps, tk, F'', hFe, hc1, -⟩ := hI.rp
    by_cases hlt2 : i < L'.length
    · have w3 : IntKind.wrap .i64 ((i : Int) + 1) = (i : Int) + 1 := wrap_i64 (by omega) (by omega)
      refine st3 hb0 hc1 hlt2 ?_
      refine rn0 (rn_replay_Replay_Step (i := i) hI.rp hI.ok hI.few) ?_
      rintro _ s5 ⟨F5, rfl, g1, g2⟩
      have hI3 := hI.step _ g1 g2
      have hd5 := (g2.keep _ (by omega) (n0 (s.n + 2) (by omega) (by omega))).trans hd
      cases hn : nextF L' i with
      | some x =>
        have hc := next_cnt (L := L') (i := i) (by rw [hn]; rfl)
        refine st0 ?_
        exact ⟨r - 1, by omega, i, _, _, F5, by omega, hi, hI3, hd5, fun j hj => by rw [step_other (by omega)]; exact hz j hj, by simp⟩
      | none =>
        have hs := step_none hn
        have hz' := next_none hlt2 hn
        refine st0 ?_
        refine ⟨r - 1, by omega, i + 1, _, _, F5, ?_, by omega, hI3, hd5, fun j hj => ?_, by simp [w3]⟩
        · rw [hs]; omega
        · rw [hs]
          by_cases e : j = i
          · subst e; rw [List.getElem?_eq_getElem hlt2, hz']
          · exact hz j (by omega)
    · have hie : i = L.length := by omega
      have hem : ∀ l ∈ L', l = [] := fun l hl => by
        obtain ⟨j, hj, rfl⟩ := List.getElem_of_mem hl
        have := hz j (by omega)
        rw [List.getElem?_eq_getElem hj] at this
        exact Option.some.inj this
      have hL' : L' = L.map fun _ => [] := List.ext_getElem (by simp [hll]) fun j h1 h2 => by rw [hem _ (List.getElem_mem h1)]; simp
      have hMs := outs_done hI.rp.len hem
      rw [hI.eq] at hMs
      refine st3 hb0 hc1 hlt2 ?_
      have hF := hI.rp.lt
      refine end_okD (by simpa using hd) (by simp) rfl ⟨F', ?_, ?_⟩
      · rw [← hL', hMs]
        exact hI.rp.keep fun x hx => by
          have := hI.sep x hx
          simp only [killAll, List.foldl]
          rw [AState.get_set_ne _ _ (by omega)]
      · refine ⟨by simp [killAll]; omega, fun x hx hn => ?_, hI.mt.own⟩
        simp only [killAll, List.foldl]
        rw [AState.get_set_ne _ _ (by omega)]
        exact hI.mt.keep x hx hn
  · intro j s' _ _ h; exact h.elim
end Go.Proofs.Ytmpoeamfcienoaa
end
section
namespace Go.Proofs.Ytmpoeamfcienoaa
open Go.Ab
set_option linter.unusedVariables false
set_option linter.unusedSimpArgs false
set_option maxRecDepth 100000
set_option maxHeartbeats 1000000
theorem fewFound_len {l : List Fnd} (h : fewFound l = true) : l.length ≤ 30 ∧ (∀ f ∈ l, f.ps.length ≤ 6) ∧ (∀ f ∈ l, ∀ p ∈ f.ps, p.es.length ≤ 8) := by
  simp only [fewFound, Bool.and_eq_true, decide_eq_true_eq, List.all_eq_true, List.mem_range] at h
  have key : ∀ x ∈ l, fewParts x.ps = true := fun x hx => by
    obtain ⟨j, hj, rfl⟩ := List.getElem_of_mem hx
    have := h.1 j hj
    rwa [List.getD_eq_getElem?_getD, List.getElem?_eq_getElem hj] at this
  exact ⟨by omega, fun x hx => (fewParts_len (key x hx)).1, fun x hx => (fewParts_len (key x hx)).2⟩
theorem splitI_mem {l : List Fnd} {i n : Int} {f : Fnd} (h : f ∈ splitI l i n) : ∃ f' ∈ l, f = pickF i n f' := by
  obtain ⟨h1, h2⟩ := List.mem_filter.1 h
  obtain ⟨f', h3, rfl⟩ := List.mem_map.1 h1
  exact ⟨f', h3, rfl⟩
theorem few_split {l : List Fnd} (n : Int) (h : fewFound l = true) : FewL (split l n) := by
  obtain ⟨h1, h2, h3⟩ := fewFound_len h
  have hh := held_pos n
  have key : ∀ m ∈ split l n, ∃ i : Int, m = splitI l i n := fun m hm => by obtain ⟨i, _, rfl⟩ := List.mem_map.1 hm; exact ⟨i, rfl⟩
  refine ⟨by simp only [split, List.length_map, List.length_range]; omega, fun m hm => ?_, fun m hm f hf => ?_, fun m hm f hf p hp => ?_⟩ <;> obtain ⟨i, rfl⟩ := key m hm
  · have := splitI_len l i n; omega
  · obtain ⟨f', h4, rfl⟩ := splitI_mem hf
    exact Nat.le_trans (List.length_filter_le _ _) (h2 f' h4)
  · obtain ⟨f', h4, rfl⟩ := splitI_mem hf
    exact h3 f' h4 p (List.mem_filter.1 hp).1
theorem split_length (l : List Fnd) (n : Int) : (split l n).length = (held n).toNat := by simp [split]
theorem gs_new (k : Nat) : GsOk (List.replicate k []) := fun M hM => by obtain rfl := List.eq_of_mem_replicate hM; exact .nil'
theorem gs_outs {L : List (List Fnd)} {Ms : List (List (Int × LogV))} (h : GsOk Ms) : GsOk (outs L Ms) := fun M hM => by
  obtain ⟨x, hx, rfl⟩ := List.mem_map.1 hM
  exact (h x.2 (List.of_mem_zip hx).2).runL _
theorem few_none {L : List (List Fnd)} (h : L.length ≤ 64) : FewL (L.map fun _ => []) := by
  have key : ∀ l ∈ (L.map fun _ => ([] : List Fnd)), l = [] := fun l hl => by obtain ⟨_, _, rfl⟩ := List.mem_map.1 hl; rfl
  exact ⟨by simpa using h, fun l hl => by simp [key l hl], fun l hl f hf => by simp [key l hl] at hf, fun l hl f hf p hp => by simp [key l hl] at hf⟩
def rl0 : List Fnd := [⟨4, [⟨1, 2, [], 0, 0, 0, 0, 0, false, false⟩, ⟨2, 2, [], 0, 0, 0, 0, 0, false, false⟩], 3, 16⟩]
def rL0 : List (List Fnd) := split rl0 2
def rM0 : List (List (Int × LogV)) := List.replicate (held 2).toNat []
def rL1 : List (List Fnd) := stepL rL0 1
def rM1 : List (List (Int × LogV)) := stepM rL0 rM0 1
def rL2 : List (List Fnd) := stepL rL1 1
def rM2 : List (List (Int × LogV)) := stepM rL1 rM1 1
def rL3 : List (List Fnd) := stepL rL2 2
def rM3 : List (List (Int × LogV)) := stepM rL2 rM2 2
def rM4 : List (List (Int × LogV)) := outs rL3 rM3
theorem rn1 : (nextF rL0 1).isSome = true := by kernel_rfl
theorem rn2 : (nextF rL1 1).isSome = false := by kernel_rfl
theorem rn3 : (nextF rL2 2).isSome = false := by kernel_rfl
theorem rc0 : cntL rL0 = 2 := by kernel_rfl
theorem rc3 : cntL rL3 = 1 := by kernel_rfl
theorem rc4 : cntL (rL3.map fun _ => []) = 0 := by kernel_rfl
theorem rlen : rL3.length = 2 := by kernel_rfl
theorem rlen4 : rM4.length = 2 := by kernel_rfl
theorem rg : (grpsL (rM4.getD 0 [])).length = 1 := by kernel_rfl
theorem rs : (spotsM (rM4.getD 1 [])).length = 1 := by kernel_rfl
theorem ct_ladelaw19_known {s : AState} : Gives prog F_ladelaw19_known [] s (.v (.bool true)) s := by
  refine Runs.gives (runs_e h_ladelaw19_known (Nat.le_of_ble_eq_true rfl) ?_) (.v _)
  have f0 : FewL rL0 := few_split 2 (by kernel_rfl)
  have g0 : GsOk rM0 := gs_new _
  have f1 : FewL rL1 := f0.step 1
  have g1 : GsOk rM1 := g0.step 1
  have f2 : FewL rL2 := f1.step 1
  have g2 : GsOk rM2 := g1.step 1
  have f3 : FewL rL3 := f2.step 2
  have g3 : GsOk rM3 := g2.step 2
  have g4 : GsOk rM4 := gs_outs g3
  have hf4 := few_none f3.k
  refine st0 ?_
  refine runS (rn_replay_New (l := rl0) (n := 2) (by decide) (by decide)) ?_
  rintro _ s1 ⟨b, F, rfl, h1, m1⟩
  refine st0 ?_
  refine gv (ct_replay_Replay_Left (L := rL0) h1 f0) ?_
  rw [rc0]
  refine st0 ?_
  refine rn0 (rn_replay_Replay_Step (L := rL0) (Ms := rM0) (i := 1) h1 g0 f0) ?_
  rintro _ s2 ⟨F2, rfl, h2, m2⟩
  rw [rn1]
  refine st0 ?_
  refine rn0 (rn_replay_Replay_Step (L := rL1) (Ms := rM1) (i := 1) h2 g1 f1) ?_
  rintro _ s3 ⟨F3, rfl, h3, m3⟩
  rw [rn2]
  refine st0 ?_
  refine rn0 (rn_replay_Replay_Step (L := rL2) (Ms := rM2) (i := 2) h3 g2 f2) ?_
  rintro _ s4 ⟨F4, rfl, h4, m4⟩
  rw [rn3]
  refine st0 ?_
  refine gv (ct_replay_Replay_Left (L := rL3) h4 f3) ?_
  rw [rc3]
  refine st0 ?_
  refine runS (rn_replay_Replay_Run (L := rL3) (Ms := rM3) (sc := []) h4 g3 f3 (by rw [rlen]; omega) (by simp)) ?_
  rintro _ s5 ⟨F5, h5, m5⟩
  refine st0 ?_
  have e4 : outs rL3 rM3 = rM4 := rfl
  rw [e4] at h5
  have rg1 := rg
  have rs1 := rs
  obtain ⟨M1, M2, hM⟩ : ∃ M1 M2, rM4 = [M1, M2] := by
    match rM4, rlen4 with
    | [M1, M2], _ => exact ⟨M1, M2, rfl⟩
  rw [hM] at h5 rg1 rs1 g4
  simp only [List.getD_cons_zero, List.getD_cons_succ] at rg1 rs1
  obtain ⟨ps, F6, h6, h7, hR⟩ := rn_replay_Replay_Ledgers h5 (by simp [rlen])
  refine run hR (by simp) ?_
  rintro _ s6 ⟨tk, rfl, hg⟩
  obtain ⟨p1, p2, rfl⟩ : ∃ p1 p2, ps = [p1, p2] := by
    match ps, h6.len with
    | [p1, p2], _ => exact ⟨p1, p2, rfl⟩
  have h6' := h6.all.keep hg.n fun x hx => hg.get hx
  obtain ⟨Fa, ha, -⟩ := h6'.2 0 (by simp) (by simp)
  obtain ⟨Fb, hb, -⟩ := h6'.2 1 (by simp) (by simp)
  simp only [List.getElem_cons_zero, List.getElem_cons_succ] at ha hb
  have o1 := g4 M1 (by simp)
  have o2 := g4 M2 (by simp)
  have sp1 : (spotsM M1).length ≤ 1000 := by
    have : (spotsM (rM4.getD 0 [])).length ≤ 1000 := by decide +kernel
    rwa [hM] at this
  refine st0 ?_
  refine gv (ct_replay_Replay_Left (h5.keep fun x hx => hg.get (h5.lt x hx)) hf4) ?_
  rw [rc4]
  refine st0 ?_
  refine gv (ct_ledger_Ledger_Groups ha o1 (o1.small (by omega))) ?_
  refine st1 rg1 ?_
  refine gv (ct_ledger_Ledger_Spots hb o2 (o2.small (by omega))) ?_
  refine st1 rs1 ?_
  have m6 : Mut [] F5 s s6 := (((((m1.trans m2).trans m3).trans m4).trans m5)).trans (.grows hg)
  exact ret_ok rfl ⟨⟨m6.n, fun x hx => .inl (m6.keep x hx (by simp)).symm⟩, .refl _⟩
end Go.Proofs.Ytmpoeamfcienoaa
end
section
namespace Go.Proofs.Ytmpoeamfcienoaa
open Go.Ab
set_option linter.unusedVariables false
set_option linter.unusedSimpArgs false
set_option maxRecDepth 100000
set_option maxHeartbeats 1000000
theorem rem_u8 {n m : Int} (hn : 0 ≤ n) (hm : 0 < m) : 0 ≤ n.tmod m ∧ n.tmod m < m := ⟨Int.tmod_nonneg _ hn, Int.tmod_lt_of_pos _ hm⟩
theorem held_id {k : Int} (h : 1 ≤ k ∧ k ≤ 64) : held k = k := by unfold held; rw [if_neg (by omega), if_neg (by omega)]
end Go.Proofs.Ytmpoeamfcienoaa
end
section
namespace Go.Ab
theorem next_ge {L : List (List Fnd)} {i : Nat} (h : L.length ≤ i) : nextF L i = none := by
  unfold nextF
  rw [if_neg (by omega), show (i : Int).toNat = i from rfl, List.getElem?_eq_none h]
theorem next_empty (L : List (List Fnd)) (i : Int) : nextF (L.map fun _ => ([] : List Fnd)) i = none := by
  unfold nextF
  split
  · rfl
  · split
    · next f r e =>
      obtain ⟨x, _, h⟩ := List.mem_map.1 (List.mem_of_getElem? e)
      cases h
    · rfl
end Go.Ab
namespace Go.Proofs.Ytmpoeamfcienoaa
open Go.Ab
set_option linter.unusedVariables false
set_option linter.unusedSimpArgs false
set_option maxRecDepth 100000
set_option maxHeartbeats 1000000
theorem cnt0 (L : List (List Fnd)) : cntL (L.map fun _ => []) = 0 := by
  induction L with
  | nil => rfl
  | cons x L ih => simpa [cntL] using ih
theorem ct_ladelaw19_ReplayLeft {l : List Fnd} {n : Int} {x : List Int} {s : AState} (hl : (l.length : Int) < 9223372036854775808) (hps : ∀ f ∈ l, (f.ps.length : Int) < 9223372036854775808) (hes : ∀ f ∈ l, ∀ p ∈ f.ps, (p.es.length : Int) < 9223372036854775808)
    (hn : 0 ≤ n ∧ n < 256) (hx : (x.length : Int) < 9223372036854775808) (hxw : ∀ i ∈ x, 0 ≤ i ∧ i < 256) :
    Gives prog F_ladelaw19_ReplayLeft [.sl (l.map Fnd.av) .no, .v (.int .u8 n), .sl (x.map fun n => .v (.int .u8 n)) .no] s (.v (.bool true)) s := by
  refine Runs.gives (runs_e h_ladelaw19_ReplayLeft (Nat.le_of_ble_eq_true rfl) ?_) (.v _)
  refine st0 ?_
  refine gv (ct_ladelaw19_known) ?_
  refine st0 ?_
  refine gv (ct_ladelaw19_fewFound hl hps hes) ?_
  cases hf : fewFound l with
  | false =>
    refine st0 ?_
    exact ret_ok rfl ⟨⟨Nat.le_refl _, fun x hx => .inl rfl⟩, .refl _⟩
  | true =>
  by_cases hx1 : (100 : Int) < x.length
  · refine st1 hx1 ?_
    exact ret_ok rfl ⟨⟨Nat.le_refl _, fun x hx => .inl rfl⟩, .refl _⟩
  refine st1 hx1 ?_
  have hr := rem_u8 hn.1 (show (0 : Int) < 8 by omega)
  obtain ⟨k, hk⟩ : ∃ k : Nat, (k : Int) = n.tmod 8 + 1 := ⟨(n.tmod 8 + 1).toNat, by omega⟩
  have hw : IntKind.wrap .i64 (IntKind.wrap .i64 (n.tmod 8) + 1) = k := by rw [wrap_i64 (n := n.tmod 8) (by omega) (by omega), wrap_i64 (by omega) (by omega), hk]
  rw [hw]
  obtain ⟨hl1, hps1, -⟩ := fewFound_len hf
  have few := few_split (k : Int) hf
  have hhk : (held k).toNat = k := by rw [held_id (by omega)]; rfl
  have hsl := split_length l k
  rw [hhk] at hsl
  have hsz : (l.length : Int) * 48 ≤ 140737488355328 := by omega
  have hpz : ∀ f ∈ l, (f.ps.length : Int) * 88 ≤ 140737488355328 := fun f hf => by have := hps1 f hf; omega
  have gs := gs_new k
  refine run (rn_replay_New (l := l) (n := k) hsz hpz) (by simp) ?_
  rintro _ s1 ⟨b, F, rfl, h1, m1⟩
  rw [hhk] at h1
  refine st0 ?_
  refine gv (ct_replay_Replay_Left h1 few) ?_
  refine st1 hw ?_
  refine loop_ok [2, 7, 8, 9, 10] (fun r a s3 => ∃ (j : Nat) (L : List (List Fnd)) (Ms : List (List (Int × LogV))) (F : List Nat), j + r = x.length ∧ RpAt s3 b L Ms F ∧ GsOk Ms ∧ FewL L ∧ L.length = k ∧ Mut [] F s s3 ∧
    a = { t := den 77 [(2, .sl (x.map fun n => .v (.int .u8 n)) .no), (7, .v (.int .i64 k)), (8, .p b 0), (9, .v (.int .i64 (cntL L))), (10, .v (.int .i64 j))], d := [] }) x.length ?_ ?_
  · exact ⟨0, _, _, F, by simp, h1, gs, few, hsl, m1, by simp⟩
  clear h1 m1 gs few
  rintro r a s3 ⟨j, L, Ms, F, hjr, h1, gs, few, hLk, m1, rfl⟩
  by_cases hlt : j < x.length
  · have w3 : IntKind.wrap .i64 ((j : Int) + 1) = (j : Int) + 1 := wrap_i64 (by omega) (by omega)
    have hxj := hxw _ (List.getElem_mem hlt)
    have hr2 := rem_u8 hxj.1 (show (0 : Int) < 10 by omega)
    obtain ⟨q, hq⟩ : ∃ q : Nat, (q : Int) = x[j].tmod 10 := ⟨(x[j].tmod 10).toNat, by omega⟩
    have hw2 : IntKind.wrap .i64 (x[j].tmod 10) = q := by rw [wrap_i64 (by omega) (by omega), hq]
    have hc30 := cntL_le L 30 few.n
    repeat (first | simp -dsimp -implicitDefEqProofs (disch := first | omega | (simp <;> omega) | fail) [hlt, hw2] | ((with_reducible first | apply m_1 | apply m_0); (focus ((conv => lhs; simp -dsimp -implicitDefEqProofs (disch := first | omega | (simp <;> omega) | fail) [hlt, hw2]); done))) | ((with_reducible first | apply i_T | apply g_T); (focus (simp -dsimp -implicitDefEqProofs (disch := first | omega | (simp <;> omega) | fail) [hlt, hw2]; done))) | ((with_reducible first | apply i_F | apply g_F); (focus (simp -dsimp -implicitDefEqProofs (disch := first | omega | (simp <;> omega) | fail) [hlt, hw2]; done))))
    refine run (rn_replay_Replay_Step (i := q) h1 gs few) (by simp) ?_
    rintro _ s4 ⟨F4, rfl, h2, m2⟩
    have gs2 := gs.step (L := L) q
    have few2 := few.step q
    have hl2 : (stepL L q).length = k := by rw [stepL_len, hLk]
    cases hnx : nextF L q with
    | some y =>
      have hc := next_cnt (L := L) (i := q) (by rw [hnx]; rfl)
      have hqk : q < k := by
        by_cases h : q < k
        · exact h
        · rw [next_ge (by omega)] at hnx; cases hnx
      have w5 : IntKind.wrap .i64 ((cntL L : Int) - 1) = cntL (stepL L q) := by rw [wrap_i64 (by omega) (by omega)]; omega
      repeat (first | simp -dsimp -implicitDefEqProofs (disch := first | omega | (simp <;> omega) | fail) [hlt, hw2, hqk, w5] | ((with_reducible first | apply m_1 | apply m_0); (focus ((conv => lhs; simp -dsimp -implicitDefEqProofs (disch := first | omega | (simp <;> omega) | fail) [hlt, hw2, hqk, w5]); done))) | ((with_reducible first | apply i_T | apply g_T); (focus (simp -dsimp -implicitDefEqProofs (disch := first | omega | (simp <;> omega) | fail) [hlt, hw2, hqk, w5]; done))) | ((with_reducible first | apply i_F | apply g_F); (focus (simp -dsimp -implicitDefEqProofs (disch := first | omega | (simp <;> omega) | fail) [hlt, hw2, hqk, w5]; done))))
      refine gv (ct_replay_Replay_Left h2 few2) ?_
      refine st0 ?_
      exact ⟨r - 1, by omega, j + 1, _, _, F4, by omega, h2, gs2, few2, hl2, m1.trans m2, by simp [w3]⟩
    | none =>
      have hs := step_none hnx
      rw [hs] at h2
      refine st0 ?_
      refine gv (ct_replay_Replay_Left h2 few) ?_
      refine st0 ?_
      exact ⟨r - 1, by omega, j + 1, _, _, F4, by omega, h2, gs2, few, hLk, m1.trans m2, by simp [w3]⟩
  · refine st1 hlt ?_
    refine run (rn_replay_Replay_Run (sc := x) h1 gs few (by omega) (by omega)) (by simp) ?_
    rintro _ s4 ⟨F4, h2, m2⟩
    refine st0 ?_
    have fn : FewL (L.map fun _ => []) := few_none few.k
    have m3 := m1.trans m2
    have gs4 : GsOk (outs L Ms) := gs_outs gs
    refine loop_ok [7, 8, 11] (fun r a s5 => ∃ (i : Nat) (F : List Nat), i + r = k + 2 ∧ RpAt s5 b (L.map fun _ => []) (outs L Ms) F ∧ Mut [] F s s5 ∧
      a = { t := den 77 [(7, .v (.int .i64 k)), (8, .p b 0), (11, .v (.int .i64 ((i : Int) - 1)))], d := [] }) (k + 2) ?_ ?_
    · exact ⟨0, F4, by simp, h2, m3, by simp⟩
    clear h2 m3 m2
    rintro r a s5 ⟨i, F5, hir, h2, m3, rfl⟩
    by_cases hlt2 : (i : Int) - 1 ≤ k
    · have w3 : IntKind.wrap .i64 ((i : Int) - 1 + 1) = (i : Int) := by rw [wrap_i64 (by omega) (by omega)]; omega
      refine st1 hlt2 ?_
      refine run (rn_replay_Replay_Step (i := (i : Int) - 1) h2 gs4 fn) (by simp) ?_
      rintro _ s6 ⟨F6, rfl, h5, m5⟩
      rw [step_none (next_empty _ _), stepM_none (next_empty _ _)] at h5
      rw [next_empty]
      refine st0 ?_
      exact ⟨r - 1, by omega, i + 1, F6, by omega, h5, m3.trans m5, by simp [w3]⟩
    · refine st1 hlt2 ?_
      refine gv (ct_replay_Replay_Left h2 fn) ?_
      rw [cnt0]
      refine st0 ?_
      exact ret_ok rfl ⟨⟨m3.n, fun x hx => .inl (m3.keep x hx (by simp)).symm⟩, .refl _⟩
end Go.Proofs.Ytmpoeamfcienoaa
end
