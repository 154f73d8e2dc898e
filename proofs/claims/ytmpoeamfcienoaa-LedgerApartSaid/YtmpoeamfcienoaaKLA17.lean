/- Going on. -/
import Derived.Shelf.SlGeneric
import Derived.Ground.GgzProg
import Derived.Ground.SlgmProg
import Derived.Ground.SlmcProg
import Derived.Shelf.SlIterI.Nil
import Derived.Shelf.SlMaps.Clone
import Derived.Shelf.SortM.Plain
import Derived.Shelf.SortM.SortNone
import Derived.Test.YtmpoeamfcienoaaKLA16
section
namespace Go.Proofs
open Go.Shelf
def Try.sh_maps_Clone_Place_ren : Go.Shelf.Ren := ⟨fun | 5 => 45 | 7 => 81 | n => n, fun | 23 => 92 | 25 => 3 | 3 => 41 | 4 => 4 | 20 => 20 | n => n, fun | n => n⟩
theorem Try.sh_maps_Clone_Place : Go.Proofs.SlLaysW.n5 Try.prog Try.sh_maps_Clone_Place_ren := {
  mixed := by kernel_rfl
  f5 := ⟨Try.f45.name, by decide, Try.func45.trans (congrArg some (by kernel_rfl))⟩
  f7 := Try.func81.trans (congrArg some (by kernel_rfl))
  t4 := Try.underlying4
  a4 := Try.isAgg4
  z4 := Try.sizeOf4
  v4 := Try.zeroValue4
  t20 := Try.underlying20
  a20 := Try.isAgg20
  z20 := Try.sizeOf20
  v20 := Try.zeroValue20
  t23 := Try.underlying92
  a23 := Try.isAgg92
  z23 := Try.sizeOf92
  v23 := Try.zeroValue92 }
def Try.sh_slices_Sorted_int_ren : Go.Shelf.Ren := ⟨fun | 6 => 60 | 8 => 106 | 9 => 107 | 11 => 131 | 13 => 133 | 12 => 132 | 23 => 150 | 24 => 151 | 14 => 141 | 15 => 142 | 16 => 143 | 17 => 144 | 18 => 145 | 19 => 146 | 20 => 147 | 21 => 148 | 22 => 149 | 25 => 153 | 26 => 154 | 27 => 155 | 28 => 156 | 29 => 157 | 30 => 158 | 31 => 159 | n => n, fun | 26 => 3 | 28 => 112 | 24 => 114 | 0 => 0 | 3 => 3 | 37 => 60 | 48 => 195 | 50 => 197 | 4 => 4 | 40 => 187 | 39 => 186 | 45 => 192 | 5 => 5 | 9 => 9 | 51 => 199 | 55 => 203 | 57 => 205 | 58 => 206 | 33 => 86 | n => n, fun | n => n⟩
theorem Try.sh_slices_Sorted_int : Go.Proofs.SlLaysZI.n6 Try.prog Try.sh_slices_Sorted_int_ren := {
  mixed := by kernel_rfl
  f6 := ⟨Try.f60.name, by decide, Try.func60.trans (congrArg some (by kernel_rfl))⟩
  f8 := ⟨Try.f106.name, by decide, Try.func106.trans (congrArg some (by kernel_rfl))⟩
  f11 := ⟨Try.f131.name, by decide, Try.func131.trans (congrArg some (by kernel_rfl))⟩
  t0 := Try.underlying0
  a0 := Try.isAgg0
  z0 := Try.sizeOf0
  v0 := Try.zeroValue0
  t24 := Try.underlying114
  a24 := Try.isAgg114
  z24 := Try.sizeOf114
  v24 := Try.zeroValue114
  t26 := Try.underlying3
  a26 := Try.isAgg3
  z26 := Try.sizeOf3
  v26 := Try.zeroValue3
  t28 := Try.underlying112
  a28 := Try.isAgg112
  z28 := Try.sizeOf112
  v28 := Try.zeroValue112
  i26 := by kernel_rfl }
def Try.sh_maps_Keys_Place_ren : Go.Shelf.Ren := ⟨fun | 7 => 61 | 10 => 108 | n => n, fun | 23 => 92 | 26 => 3 | 3 => 41 | 28 => 112 | 0 => 0 | 27 => 111 | 33 => 86 | 4 => 4 | n => n, fun | n => n⟩
theorem Try.sh_maps_Keys_Place : Go.Proofs.SlLaysZI.n7 Try.prog Try.sh_maps_Keys_Place_ren := {
  mixed := by kernel_rfl
  f7 := ⟨Try.f61.name, by decide, Try.func61.trans (congrArg some (by kernel_rfl))⟩
  f10 := ⟨Try.f108.name, by decide, Try.func108.trans (congrArg some (by kernel_rfl))⟩
  t0 := Try.underlying0
  a0 := Try.isAgg0
  z0 := Try.sizeOf0
  v0 := Try.zeroValue0
  t4 := Try.underlying4
  a4 := Try.isAgg4
  z4 := Try.sizeOf4
  v4 := Try.zeroValue4
  t23 := Try.underlying92
  a23 := Try.isAgg92
  z23 := Try.sizeOf92
  v23 := Try.zeroValue92
  t26 := Try.underlying3
  a26 := Try.isAgg3
  z26 := Try.sizeOf3
  v26 := Try.zeroValue3
  t27 := Try.underlying111
  a27 := Try.isAgg111
  z27 := Try.sizeOf111
  v27 := Try.zeroValue111
  t28 := Try.underlying112
  a28 := Try.isAgg112
  z28 := Try.sizeOf112
  v28 := Try.zeroValue112
  t33 := Try.underlying86
  a33 := Try.isAgg86
  z33 := Try.sizeOf86
  v33 := Try.zeroValue86 }
def Try.sh_slices_Sort_int_ren : Go.Shelf.Ren := ⟨fun | 5 => 107 | 8 => 133 | 7 => 132 | 19 => 150 | 20 => 151 | 10 => 141 | 11 => 142 | 12 => 143 | 13 => 144 | 14 => 145 | 15 => 146 | 16 => 147 | 17 => 148 | 18 => 149 | 30 => 153 | 31 => 154 | 32 => 155 | 33 => 156 | 34 => 157 | 35 => 158 | 40 => 159 | n => n, fun | 23 => 114 | 25 => 3 | 3 => 3 | 32 => 60 | 22 => 114 | 0 => 0 | 44 => 195 | 46 => 197 | 4 => 4 | 36 => 187 | 35 => 186 | 41 => 192 | 5 => 5 | 9 => 9 | 53 => 199 | 57 => 203 | 63 => 205 | 64 => 206 | n => n, fun | n => n⟩
theorem Try.sh_slices_Sort_int : Go.Proofs.SlLaysM.n5 Try.prog Try.sh_slices_Sort_int_ren := {
  mixed := by kernel_rfl
  f5 := ⟨Try.f107.name, by decide, Try.func107.trans (congrArg some (by kernel_rfl))⟩
  f7 := ⟨Try.f132.name, by decide, Try.func132.trans (congrArg some (by kernel_rfl))⟩
  f8 := Try.func133.trans (congrArg some (by kernel_rfl))
  f10 := ⟨Try.f141.name, by decide, Try.func141.trans (congrArg some (by kernel_rfl))⟩
  f11 := ⟨Try.f142.name, by decide, Try.func142.trans (congrArg some (by kernel_rfl))⟩
  f12 := ⟨Try.f143.name, by decide, Try.func143.trans (congrArg some (by kernel_rfl))⟩
  f13 := ⟨Try.f144.name, by decide, Try.func144.trans (congrArg some (by kernel_rfl))⟩
  f14 := ⟨Try.f145.name, by decide, Try.func145.trans (congrArg some (by kernel_rfl))⟩
  f15 := ⟨Try.f146.name, by decide, Try.func146.trans (congrArg some (by kernel_rfl))⟩
  f16 := ⟨Try.f147.name, by decide, Try.func147.trans (congrArg some (by kernel_rfl))⟩
  f17 := ⟨Try.f148.name, by decide, Try.func148.trans (congrArg some (by kernel_rfl))⟩
  f18 := ⟨Try.f149.name, by decide, Try.func149.trans (congrArg some (by kernel_rfl))⟩
  f19 := Try.func150.trans (congrArg some (by kernel_rfl))
  f20 := Try.func151.trans (congrArg some (by kernel_rfl))
  f30 := ⟨Try.f153.name, by decide, Try.func153.trans (congrArg some (by kernel_rfl))⟩
  f31 := Try.func154.trans (congrArg some (by kernel_rfl))
  f32 := Try.func155.trans (congrArg some (by kernel_rfl))
  f33 := ⟨Try.f156.name, by decide, Try.func156.trans (congrArg some (by kernel_rfl))⟩
  f34 := ⟨Try.f157.name, by decide, Try.func157.trans (congrArg some (by kernel_rfl))⟩
  f35 := ⟨Try.f158.name, by decide, Try.func158.trans (congrArg some (by kernel_rfl))⟩
  f40 := ⟨Try.f159.name, by decide, Try.func159.trans (congrArg some (by kernel_rfl))⟩
  t0 := Try.underlying0
  a0 := Try.isAgg0
  z0 := Try.sizeOf0
  v0 := Try.zeroValue0
  t3 := Try.underlying3
  a3 := Try.isAgg3
  z3 := Try.sizeOf3
  v3 := Try.zeroValue3
  t4 := Try.underlying4
  a4 := Try.isAgg4
  z4 := Try.sizeOf4
  v4 := Try.zeroValue4
  t5 := Try.underlying5
  a5 := Try.isAgg5
  z5 := Try.sizeOf5
  v5 := Try.zeroValue5
  t9 := Try.underlying9
  a9 := Try.isAgg9
  z9 := Try.sizeOf9
  v9 := Try.zeroValue9
  t22 := Try.underlying114
  a22 := Try.isAgg114
  z22 := Try.sizeOf114
  v22 := Try.zeroValue114
  t23 := Try.underlying114
  a23 := Try.isAgg114
  z23 := Try.sizeOf114
  v23 := Try.zeroValue114
  t25 := Try.underlying3
  a25 := Try.isAgg3
  z25 := Try.sizeOf3
  v25 := Try.zeroValue3
  t32 := Try.underlying60
  a32 := Try.isAgg60
  z32 := Try.sizeOf60
  v32 := Try.zeroValue60
  t35 := Try.underlying186
  a35 := Try.isAgg186
  z35 := Try.sizeOf186
  v35 := Try.zeroValue186
  t36 := Try.underlying187
  a36 := Try.isAgg187
  z36 := Try.sizeOf187
  v36 := Try.zeroValue187
  t41 := Try.underlying192
  a41 := Try.isAgg192
  z41 := Try.sizeOf192
  v41 := Try.zeroValue192
  t44 := Try.underlying195
  a44 := Try.isAgg195
  z44 := Try.sizeOf195
  v44 := Try.zeroValue195
  t46 := Try.underlying197
  a46 := Try.isAgg197
  z46 := Try.sizeOf197
  v46 := Try.zeroValue197
  t53 := Try.underlying199
  a53 := Try.isAgg199
  z53 := Try.sizeOf199
  v53 := Try.zeroValue199
  t57 := Try.underlying203
  a57 := Try.isAgg203
  z57 := Try.sizeOf203
  v57 := Try.zeroValue203
  t63 := Try.underlying205
  a63 := Try.isAgg205
  z63 := Try.sizeOf205
  v63 := Try.zeroValue205
  t64 := Try.underlying206
  a64 := Try.isAgg206
  z64 := Try.sizeOf206
  v64 := Try.zeroValue206 }
def Try.sh_maps_Keys_Log_ren : Go.Shelf.Ren := ⟨fun | 7 => 113 | 10 => 134 | n => n, fun | 23 => 117 | 26 => 3 | 3 => 24 | 28 => 112 | 0 => 0 | 27 => 111 | 33 => 86 | 4 => 4 | n => n, fun | n => n⟩
theorem Try.sh_maps_Keys_Log : Go.Proofs.SlLaysZI.n7 Try.prog Try.sh_maps_Keys_Log_ren := {
  mixed := by kernel_rfl
  f7 := ⟨Try.f113.name, by decide, Try.func113.trans (congrArg some (by kernel_rfl))⟩
  f10 := ⟨Try.f134.name, by decide, Try.func134.trans (congrArg some (by kernel_rfl))⟩
  t0 := Try.underlying0
  a0 := Try.isAgg0
  z0 := Try.sizeOf0
  v0 := Try.zeroValue0
  t4 := Try.underlying4
  a4 := Try.isAgg4
  z4 := Try.sizeOf4
  v4 := Try.zeroValue4
  t23 := Try.underlying117
  a23 := Try.isAgg117
  z23 := Try.sizeOf117
  v23 := Try.zeroValue117
  t26 := Try.underlying3
  a26 := Try.isAgg3
  z26 := Try.sizeOf3
  v26 := Try.zeroValue3
  t27 := Try.underlying111
  a27 := Try.isAgg111
  z27 := Try.sizeOf111
  v27 := Try.zeroValue111
  t28 := Try.underlying112
  a28 := Try.isAgg112
  z28 := Try.sizeOf112
  v28 := Try.zeroValue112
  t33 := Try.underlying86
  a33 := Try.isAgg86
  z33 := Try.sizeOf86
  v33 := Try.zeroValue86 }
end Go.Proofs
end
section
namespace Go.Proofs.Ytmpoeamfcienoaa
open Go.Ab Go.Maps
set_option linter.unusedVariables false
set_option linter.unusedSimpArgs false
set_option maxRecDepth 100000
set_option maxHeartbeats 4000000
theorem sortsI (m : Nat) : AnyZI.SortsIn Try.prog Try.sh_slices_Sorted_int_ren Fence.wide m :=
  ⟨fun blk off cap ss W hH hblk hsz => callsIn_wide.2 (AnyM.slices_Sort_int Try.sh_slices_Sort_int blk off cap ss W hH hblk hsz),
   fun p cap W => callsIn_wide.2 (AnyM.slices_Sort_int_none Try.sh_slices_Sort_int p cap W)⟩
theorem ct_sorted_Place {β : Type} {s : AState} {cb b : Nat} {enc : β → AV} {A B : List (Int × β)} (hcb : s.get cb = .cells [.m b]) (hb : s.get b = .map (encM enc A)) (hAB : Rep A B)
    (hw : ∀ x ∈ B, -9223372036854775808 ≤ x.1 ∧ x.1 < 9223372036854775808) (hlen : B.length * 8 ≤ 140737488355328) :
    Gives prog F_slices_Sorted_int [.f (.func F_maps_Keys_Place_1) [] [.p cb 0]] s (.sl ((B.map (·.1)).map fun n => .v (.int .i64 n)) .no) s := by
  refine Runs.sorted (kt := Try.sh_maps_Keys_Place_ren.t 26) (T := Try.sh_slices_Sorted_int_ren.t 26) (enters_of Try.func60 (by kernel_rfl) rfl) hcb hb hAB hw Try.sh_maps_Keys_Place.t26 hlen ?_
  intro w Bm r D0 hc hlt hown hsz
  have hseq := AnyZI.keys_gives (ρ := Try.sh_maps_Keys_Place_ren) { Try.sh_maps_Keys_Place with } Fence.wide 2 trivial rfl (by omega) Bm r _ D0 w hlt hc hown
  have := AnyZI.sorted_in Try.sh_slices_Sorted_int Fence.wide 5 trivial trivial trivial trivial rfl (by omega) (sortsI _) (enters_of Try.func107 (by kernel_rfl) rfl) F_maps_Keys_Place_1 #[.pointer (some ⟨Bm, 0, none⟩)] trivial (enters_of Try.func108 (by kernel_rfl) rfl) _ (Maps.size D0)
    (by have e : maxLen = 9223372036854775807 := rfl; omega) (by omega) w hseq
  exact (callsIn_wide (n := 5)).1 this
theorem ct_maps_Keys_Place {b : Nat} {s : AState} : Gives prog F_maps_Keys_Place [.m b] s (.f (.func F_maps_Keys_Place_1) [] [.p s.n 0]) (s.alloc (.cells [.m b])) := by
  refine runs_e h_maps_Keys_Place (Nat.le_of_ble_eq_true rfl) ?_
  refine st0 ?_
  exact ret_ok rfl ⟨rfl, rfl⟩
theorem ct_sorted_Log {β : Type} {s : AState} {cb b : Nat} {enc : β → AV} {A B : List (Int × β)} (hcb : s.get cb = .cells [.m b]) (hb : s.get b = .map (encM enc A)) (hAB : Rep A B)
    (hw : ∀ x ∈ B, -9223372036854775808 ≤ x.1 ∧ x.1 < 9223372036854775808) (hlen : B.length * 8 ≤ 140737488355328) :
    Gives prog F_slices_Sorted_int [.f (.func F_maps_Keys_Log_1) [] [.p cb 0]] s (.sl ((B.map (·.1)).map fun n => .v (.int .i64 n)) .no) s := by
  refine Runs.sorted (kt := Try.sh_maps_Keys_Log_ren.t 26) (T := Try.sh_slices_Sorted_int_ren.t 26) (enters_of Try.func60 (by kernel_rfl) rfl) hcb hb hAB hw Try.sh_maps_Keys_Log.t26 hlen ?_
  intro w Bm r D0 hc hlt hown hsz
  have hseq := AnyZI.keys_gives (ρ := Try.sh_maps_Keys_Log_ren) { Try.sh_maps_Keys_Log with } Fence.wide 2 trivial rfl (by omega) Bm r _ D0 w hlt hc hown
  have := AnyZI.sorted_in Try.sh_slices_Sorted_int Fence.wide 5 trivial trivial trivial trivial rfl (by omega) (sortsI _) (enters_of Try.func107 (by kernel_rfl) rfl) F_maps_Keys_Log_1 #[.pointer (some ⟨Bm, 0, none⟩)] trivial (enters_of Try.func134 (by kernel_rfl) rfl) _ (Maps.size D0)
    (by have e : maxLen = 9223372036854775807 := rfl; omega) (by omega) w hseq
  exact (callsIn_wide (n := 5)).1 this
theorem ct_maps_Keys_Log {b : Nat} {s : AState} : Gives prog F_maps_Keys_Log [.m b] s (.f (.func F_maps_Keys_Log_1) [] [.p s.n 0]) (s.alloc (.cells [.m b])) := by
  refine runs_e h_maps_Keys_Log (Nat.le_of_ble_eq_true rfl) ?_
  refine st0 ?_
  exact ret_ok rfl ⟨rfl, rfl⟩
theorem ct_maps_Clone_Place {κ β : Type} [DecidableEq κ] [KE κ] {s : AState} {b : Nat} {enc : β → AV} {A : List (κ × β)} (hb : s.get b = .map (encM enc A)) : Gives prog F_maps_Clone_Place [.m b] s (.m s.n) (s.alloc (.map (encM enc A))) :=
  Runs.clone (enters_of Try.func45 (by kernel_rfl) rfl) hb fun w r es clock h => AnyW.maps_Clone Try.sh_maps_Clone_Place r es clock w h
theorem ct_slices_Clone_Entry {es : List Ent} {s : AState} (hlen : es.length * 32 ≤ 140737488355328) : Gives prog F_slices_Clone_Entry [.sl (es.map Ent.av) .no] s (.sl (es.map Ent.av) .no) s := by
  refine Runs.gives' (runs_e h_slices_Clone_Entry (Nat.le_of_ble_eq_true rfl) ?_) (flat_sl Ent.row _)
  refine st0 ?_
  refine i_N (fun hne => ?_) (fun hne b => ?_)
  · refine st0 ?_
    refine m_app (xs := []) (tk := .zero) (B := s) (N := s.n) (by simp) (by simp; exact ⟨rfl, rfl⟩) (Grows.refl s) (Nat.le_refl _) (Nat.le_refl _) trivial (by simp) (by simp) (by simp; omega) (by simp; omega) ?_
    intro s' tk2 hg hm _ _
    refine st0 ?_
    exact ret_ok rfl ⟨hg, by simpa using AV.le_no _ _⟩
  · have : es = [] := by simpa using hne
    subst this
    cases b
    · refine st0 ?_
      exact ret_ok rfl ⟨Grows.refl _, AV.le_no _ _⟩
    · refine st0 ?_
      exact ret_ok rfl ⟨Grows.refl _, AV.le_no _ _⟩
end Go.Proofs.Ytmpoeamfcienoaa
end
section
namespace Go.Proofs.Ytmpoeamfcienoaa
open Go.Ab
set_option linter.unusedVariables false
set_option linter.unusedSimpArgs false
set_option maxRecDepth 100000
set_option maxHeartbeats 4000000
def Ones (xs : List AV) : Prop := ∀ x ∈ xs, x.cells = [x] ∧ x.one = true ∧ x.strip = x
theorem Ones.ints {k : IntKind} (l : List Int) : Ones (l.map fun n => .v (.int k n)) := by intro x hx; obtain ⟨n, _, rfl⟩ := List.mem_map.1 hx; exact ⟨rfl, rfl, rfl⟩
theorem ct_slices_Values_int {xs : List AV} {s : AState} : Gives prog F_slices_Values_int [.sl xs .no] s (.f (.func F_slices_Values_int_1) [] [.p s.n 0]) (s.alloc (.cells [.sl xs .no])) := by
  refine runs_e h_slices_Values_int (Nat.le_of_ble_eq_true rfl) ?_
  refine st0 ?_
  exact ret_ok rfl ⟨rfl, rfl⟩
theorem it_slices_Values_int (xs : List AV) (hx : Ones xs) (b : Nat) (hlen : xs.length < 9223372036854775808) : Iter prog F_slices_Values_int_1 [] [.p b 0] (xs.map fun e => [e]) (fun s => s.get b = .cells [.sl xs .no]) := by
  intro l s I J hp ha hj hy h0
  refine runs_e h_slices_Values_int_1 (Nat.le_of_ble_eq_true rfl) ?_
  refine st1 (hp 0 s h0) ?_
  refine loop_ok [0, 5, 6, 7] (fun m a s1 => ∃ j : Nat, j + m = xs.length ∧ I j s1 ∧ a = { t := den 16 [(0, .y l), (5, .sl xs .no), (6, .v (.int .i64 xs.length)), (7, .v (.int .i64 j))], d := [] }) xs.length ?_ ?_
  · exact ⟨0, by simp, h0, by simp⟩
  · rintro m a s1 ⟨j, hjm, hI, rfl⟩
    by_cases hlt : j < xs.length
    · have hw : IntKind.wrap .i64 ((j : Int) + 1) = ((j + 1 : Nat) : Int) := by rw [wrap_i64 (by omega) (by omega)]; omega
      obtain ⟨hc, ho, _⟩ := hx _ (List.getElem_mem hlt)
      refine st3 hlt hc ho ?_
      have hy' := hy j (by simpa using hlt) _ hI
      simp only [List.getElem_map] at hy'
      refine yr0 (hy') ?_
      rintro _ s2 (⟨rfl, hI2⟩ | ⟨rfl, hJ⟩)
      · refine st1 hw ?_
        exact ⟨m - 1, by omega, j + 1, by omega, hI2, by simp⟩
      · refine st0 ?_
        exact ret_ok rfl (.inr hJ)
    · refine st1 hlt ?_
      have : j = xs.length := by omega
      subst this
      exact end_ok rfl (.inl (by simpa using hI))
end Go.Proofs.Ytmpoeamfcienoaa
end
section
namespace Go.Ab
def spotsL (v : LogV) : List Spt := v.sp.map fun x => ⟨v.g.id, x.1, x.2.sg, x.2.at_⟩
end Go.Ab
namespace Go.Proofs.Ytmpoeamfcienoaa
open Go.Ab
set_option linter.unusedVariables false
set_option linter.unusedSimpArgs false
set_option maxRecDepth 100000
set_option maxHeartbeats 8000000
theorem ct_place_Log_Group {lb : Nat} {v : LogV} {F : List Nat} {s : AState} (hL : LogAt s lb v F) (hl : v.g.es.length * 32 ≤ 140737488355328) : Gives prog F_place_Log_Group [.p lb 0] s v.g.av s := by
  have hlt := hL.lt
  obtain ⟨tk, mb, A, rfl, h1, h2, h3⟩ := hL
  have hlb : lb < s.n := hlt lb (by simp)
  unfold logC at h1
  refine Runs.gives' (runs_e h_place_Log_Group (Nat.le_of_ble_eq_true rfl) ?_) (Grp.row _).flat
  refine st1 h1 ?_
  refine gv (ct_slices_Clone_Entry (es := v.g.es) hl) ?_
  refine st0 ?_
  exact ret_ok (by simp; rfl) ⟨((Grows.refl _).alloc _).alloc _, (AV.le_strip _).trans (by simp [Grp.av, Grp.cells, retVal]; exact .refl _)⟩
theorem rn_place_Log_Copy {lb : Nat} {v : LogV} {F : List Nat} {s : AState} (hL : LogAt s lb v F) :
    Runs (compCode prog) prog F_place_Log_Copy [.p lb 0] s (fun x s' => ∃ lb' F', x = .p lb' 0 ∧ LogAt s' lb' v F' ∧ Grows s s' ∧ ∀ x ∈ F', s.n ≤ x) := by
  have hlt := hL.lt
  obtain ⟨tk, mb, A, rfl, h1, h2, h3⟩ := hL
  have hlb : lb < s.n := hlt lb (by simp)
  unfold logC at h1
  refine runs_e h_place_Log_Copy (Nat.le_of_ble_eq_true rfl) ?_
  refine sd1 h1 ?_
  refine gv (ct_maps_Clone_Place h2) ?_
  refine ⟨m_ext (AState.ext_alloc _ _), ?_⟩
  refine sd1 h1 ?_
  refine ret_ok rfl ⟨s.n + 1, [s.n + 1, s.n], rfl, ⟨tk, s.n, A, rfl, ?_, ?_, h3⟩, ((Grows.refl s).alloc _).alloc _, by simp⟩
  · simp [logC]
  · simp (disch := first | omega | (simp <;> omega) | fail)
theorem ct_place_Log_Spots {lb : Nat} {v : LogV} {F : List Nat} {s : AState} (hL : LogAt s lb v F) (hk : ∀ x ∈ v.sp, -9223372036854775808 ≤ x.1 ∧ x.1 < 9223372036854775808) (hlen : v.sp.length * 32 ≤ 140737488355328) :
    Gives prog F_place_Log_Spots [.p lb 0] s (.sl ((spotsL v).map Spt.av) .no) s := by
  have hlt := hL.lt
  obtain ⟨tk, mb, A, rfl, h1, h2, h3⟩ := hL
  have hlb : lb < s.n := hlt lb (by simp)
  have hmb : mb < s.n := hlt mb (by simp)
  unfold logC at h1
  refine Runs.gives' (runs_e h_place_Log_Spots (Nat.le_of_ble_eq_true rfl) ?_) (flat_sl Spt.row _)
  refine st1 h1 ?_
  refine gv (ct_maps_Keys_Place) ?_
  refine st0 ?_
  refine giv (ct_sorted_Place (cb := s.n + 1 + 1) (b := mb) (enc := Plc.av) (A := A) (B := v.sp) (dz0) (dz1 h2) h3 hk (by omega)) (by simp) ?_
  refine st0 ?_
  refine gv (ct_slices_Values_int (xs := (v.sp.map (·.1)).map fun n => .v (.int .i64 n))) ?_
  refine st0 ?_
  have hit := it_slices_Values_int ((v.sp.map (·.1)).map fun n => .v (.int .i64 n)) (.ints _) (s.n + 1 + 1 + 1) (by simp; omega)
  refine w_rangeG (α := Tok) (β := Unit) (m := v.sp.length) (by simp) hit (by intro x hx; obtain ⟨p, _, rfl⟩ := List.mem_map.1 hx; rfl) (by simp) (fun k tk => (((s.alloc (.cells [.p lb 0])).alloc (.cells [.sl (((spotsL v).map Spt.av).take k) tk])).alloc (.cells [.m mb])).alloc (.cells [.sl ((v.sp.map (·.1)).map fun n => .v (.int .i64 n)) .no]))
    (fun k tk s' => May (s.n + 6) s' (((spotsL v).map Spt.av).take k) tk) (fun _ _ => s) (fun _ _ _ => False) .zero (by simp) (fun s' h => trivial) ?_ (fun k a s' o h => h.alloc o) (fun _ _ _ _ h => h) ?_ ?_ (fun _ _ _ _ _ h => h.elim)
  · intro k a s' _ h1 hg
    refine (hg.get (by simp)).trans ?_
    exact get_alloc_eq (by simp)
  · rintro LR LB LJ _ k hkk tk1 g' h1' hm
    have hk' : k < v.sp.length := by simpa using hkk
    have hTk : ((spotsL v).map Spt.av).take (k + 1) = ((spotsL v).map Spt.av).take k ++ [Spt.av ⟨v.g.id, v.sp[k].1, v.sp[k].2.sg, v.sp[k].2.at_⟩] := by
      have hk2 : k < (spotsL v).length := by simpa [spotsL] using hk'
      rw [take_snoc hk2]; simp [spotsL]
    refine st1 h1 ?_
    refine m_look (κ := Int) (A := A) (k := v.sp[k].1) (b := mb) (enc := Plc.av) (by simp) (dz1 h2) (by simp; rfl) ?_
    have hlk : lk A v.sp[k].1 = some v.sp[k].2 := by rw [h3.lk]; exact h3.srt.lk_mem (List.getElem_mem hk')
    have hlv : lkV Plc.av A v.sp[k].1 (.agg [.v (.int .i64 0), .v (.int .i64 0)]) false = v.sp[k].2.av := by unfold lkV; rw [hlk]; rfl
    rw [hlv]
    have hlS : (spotsL v).length = v.sp.length := by simp [spotsL]
    repeat (first | simp -dsimp -implicitDefEqProofs (disch := first | omega | (simp <;> omega) | fail) [Plc.cells] | ((with_reducible first | apply m_1 | apply m_0); (focus ((conv => lhs; simp -dsimp -implicitDefEqProofs (disch := first | omega | (simp <;> omega) | fail) [Plc.cells]); done))) | ((with_reducible first | apply i_T | apply g_T); (focus (simp -dsimp -implicitDefEqProofs (disch := first | omega | (simp <;> omega) | fail) [Plc.cells]; done))) | ((with_reducible first | apply i_F | apply g_F); (focus (simp -dsimp -implicitDefEqProofs (disch := first | omega | (simp <;> omega) | fail) [Plc.cells]; done))))
    refine m_app (xs := ((spotsL v).map Spt.av).take k) (tk := tk1) (ys := [Spt.av ⟨v.g.id, v.sp[k].1, v.sp[k].2.sg, v.sp[k].2.at_⟩]) (t2 := .zero) (B := _) (N := s.n + 6)
      (by simp) (by simp; rfl) ⟨g', rfl⟩ (by simp) (by simp) (hm.swap (by simp) (by simp)) (by rw [← List.map_take]; exact head_map Spt.row _) (by simp) (by simp; omega) (by simp; omega) ?_
    rintro s' tk2 hg2 hm2 _ _
    obtain ⟨g2, rfl⟩ := hg2
    refine st0 ?_
    refine ⟨tk2, by simp, ?_, ?_⟩
    · rw [hTk]; simp; exact ⟨_, rfl⟩
    · rw [hTk]; exact (by simpa using hm2 : May _ _ _ _).swap (by simp) (by simp)
  · rintro LR tk1 g2 h1' hm
    rw [List.take_of_length_le (by simp [spotsL])] at *
    refine st0 ?_
    refine ret_okD (by simp) (by simp) (by simp; rfl) ⟨?_, by simp [retVal]; exact AV.le_no _ _⟩
    simp only [killAll, List.foldl]
    simp
    exact (((((Grows.refl s).alloc _).alloc _).alloc _).alloc _).alloc _ |>.alloc _ |>.allocs _
end Go.Proofs.Ytmpoeamfcienoaa
end
section
namespace Go.Proofs.Ytmpoeamfcienoaa
open Go.Ab
set_option linter.unusedVariables false
set_option linter.unusedSimpArgs false
set_option maxRecDepth 100000
set_option maxHeartbeats 8000000
theorem rn_ledger_New {s : AState} : Runs (compCode prog) prog F_ledger_New [] s (fun x s' => ∃ b F, x = .p b 0 ∧ LedAt s' b [] F ∧ Grows s s' ∧ ∀ x ∈ F, s.n ≤ x) := by
  refine runs_e h_ledger_New (Nat.le_of_ble_eq_true rfl) ?_
  refine st0 ?_
  refine ret_ok rfl ⟨s.n + 1, [s.n + 1, s.n], rfl, ⟨s.n, [], [], [], rfl, by simp, ?_, .nil, rfl, by simp⟩, ((Grows.refl s).alloc _).alloc _, by simp⟩
  simp (disch := first | omega | (simp <;> omega) | fail)
theorem ct_ledger_Ledger_logs {b : Nat} {s : AState} : Gives prog F_ledger_Ledger_logs [.p b 0] s (.f (.func F_ledger_Ledger_logs_1) [] [.p s.n 0]) (s.alloc (.cells [.p b 0])) := by
  refine runs_e h_ledger_Ledger_logs (Nat.le_of_ble_eq_true rfl) ?_
  refine st0 ?_
  exact ret_ok rfl ⟨rfl, rfl⟩
def pairA (B : List (Int × Nat)) : List (List AV) := B.map fun x => [.v (.int .i64 x.1), .p x.2 0]
def LogsPre (cb b mb : Nat) (A : List (Int × Nat)) (s : AState) : Prop := s.get cb = .cells [.p b 0] ∧ s.get b = .cells [.m mb] ∧ s.get mb = .map (encM ptr A)
theorem it_ledger_Ledger_logs {cb b mb : Nat} {A B : List (Int × Nat)} (hAB : Rep A B) (hw : ∀ x ∈ B, -9223372036854775808 ≤ x.1 ∧ x.1 < 9223372036854775808) (hlen : B.length * 8 ≤ 140737488355328) :
    Iter prog F_ledger_Ledger_logs_1 [] [.p cb 0] (pairA B) (LogsPre cb b mb A) := by
  intro l s I J hp ha hj hy h0
  refine runs_e h_ledger_Ledger_logs_1 (Nat.le_of_ble_eq_true rfl) ?_
  obtain ⟨p1, p2, p3⟩ := hp 0 s h0
  have l1 := AState.lt_of_get p1 (by simp)
  have l2 := AState.lt_of_get p2 (by simp)
  have l3 := AState.lt_of_get p3 (by simp)
  refine st2 p1 p2 ?_
  refine gv (ct_maps_Keys_Log) ?_
  refine st0 ?_
  refine giv (ct_sorted_Log (cb := s.n) (b := mb) (enc := ptr) (A := A) (B := B) (by simp) (dz1 p3) hAB hw hlen) (by simp) ?_
  have h1 := ha _ _ (.cells [.m mb]) h0
  generalize s.alloc (.cells [.m mb]) = s at h1 ⊢
  refine st0 ?_
  refine loop_ok [0, 1, 10, 11, 12] (fun m a s1 => ∃ j : Nat, j + m = B.length ∧ I j s1 ∧ a = { t := den 27 [(0, .y l), (1, .p cb 0), (10, .sl ((B.map (·.1)).map fun n => .v (.int .i64 n)) .no), (11, .v (.int .i64 B.length)), (12, .v (.int .i64 j))], d := [] }) B.length ?_ ?_
  · exact ⟨0, by simp, h1, by simp⟩
  · rintro m a s1 ⟨j, hjm, hI, rfl⟩
    obtain ⟨p1, p2, p3⟩ := hp j s1 hI
    by_cases hlt : j < B.length
    · have hw : IntKind.wrap .i64 ((j : Int) + 1) = ((j + 1 : Nat) : Int) := by rw [wrap_i64 (by omega) (by omega)]; omega
      repeat (first | simp -dsimp -implicitDefEqProofs (disch := first | omega | (simp <;> omega) | fail) [hlt, p1, p2] | ((with_reducible first | apply m_1 | apply m_0); (focus ((conv => lhs; simp -dsimp -implicitDefEqProofs (disch := first | omega | (simp <;> omega) | fail) [hlt, p1, p2]); done))) | ((with_reducible first | apply i_T | apply g_T); (focus (simp -dsimp -implicitDefEqProofs (disch := first | omega | (simp <;> omega) | fail) [hlt, p1, p2]; done))) | ((with_reducible first | apply i_F | apply g_F); (focus (simp -dsimp -implicitDefEqProofs (disch := first | omega | (simp <;> omega) | fail) [hlt, p1, p2]; done))))
      refine m_look (κ := Int) (A := A) (k := B[j].1) (b := mb) (enc := ptr) (by simp) p3 (by simp; rfl) ?_
      have hlk : lk A B[j].1 = some B[j].2 := by rw [hAB.lk]; exact hAB.srt.lk_mem (List.getElem_mem hlt)
      have hlv : lkV ptr A B[j].1 (.v (.pointer none)) false = .p B[j].2 0 := by unfold lkV; rw [hlk]; rfl
      rw [hlv]
      refine st0 ?_
      have hy' := hy j (by simpa [pairA] using hlt) _ hI
      simp only [pairA, List.getElem_map] at hy'
      refine yr0 (hy') ?_
      rintro _ s2 (⟨rfl, hI2⟩ | ⟨rfl, hJ⟩)
      · refine st1 hw ?_
        exact ⟨m - 1, by omega, j + 1, by omega, hI2, by simp⟩
      · refine st0 ?_
        exact ret_ok rfl (.inr hJ)
    · refine st1 hlt ?_
      have : j = B.length := by omega
      subst this
      exact end_ok rfl (.inl (by simpa [pairA] using hI))
end Go.Proofs.Ytmpoeamfcienoaa
end
section
namespace Go.Ab
def GOk (M : List (Int × LogV)) : Prop := ∀ x ∈ M, Spar x.2.g
theorem GOk.doP {M : List (Int × LogV)} (h : GOk M) (at_ : Plc) (p : Prt) : GOk (doP at_ M p) := by
  unfold Ab.doP
  split
  · next hp =>
    split
    · intro x hx; exact h x (List.mem_filter.1 hx).1
    · intro x hx
      rcases put_mem hx with rfl | hx
      · refine logDo_spar ?_ p at_
        cases hl : lk M p.gr with
        | none =>
          refine newG_spar ?_
          simp only [isPart, Bool.and_eq_true] at hp
          have := hp.1.1
          simpa [btw] using this
        | some v => exact h _ (lk_mem hl)
      · exact h x hx
  · exact h
theorem GOk.doL {M : List (Int × LogV)} (h : GOk M) (l : List Prt) (at_ : Plc) : GOk (doL M l at_) := by
  unfold Ab.doL
  induction l generalizing M with
  | nil => exact h
  | cons p l ih => exact ih (h.doP at_ p)
theorem doL_snoc {M : List (Int × LogV)} {l : List Prt} {at_ : Plc} {k : Nat} (h : k < l.length) : doL M (l.take (k + 1)) at_ = doP at_ (doL M (l.take k) at_) l[k] := by
  unfold doL; rw [List.take_succ_eq_append_getElem h, List.foldl_append]; rfl
structure DoI (s : AState) (b : Nat) (M : List (Int × LogV)) (F : List Nat) (l : List Prt) (at_ : Plc) (s' : AState) : Prop where
  b1 : s'.get s.n = .cells [.p b 0]
  b2 : s'.get (s.n + 1) = .cells at_.cells
  b3 : s'.get (s.n + 2) = .cells [.sl (l.map Prt.av) .no]
  n : s.n + 5 ≤ s'.n
  led : ∃ F', LedAt s' b M F' ∧ Mut F F' s s' ∧ ∀ x ∈ F', x < s.n ∨ s.n + 5 ≤ x
theorem DoI.keep {s : AState} {b : Nat} {M : List (Int × LogV)} {F : List Nat} {l : List Prt} {at_ : Plc} {s' s2 : AState} (h : DoI s b M F l at_ s') (hn : s'.n ≤ s2.n) (hk : ∀ x, x < s'.n → x ≠ s.n + 4 → s2.get x = s'.get x) : DoI s b M F l at_ s2 := by
  obtain ⟨h1, h2, h3, h4, F', h5, h6, h7⟩ := h
  have hF := h5.lt
  refine ⟨by rw [hk _ (by omega) (by omega)]; exact h1, by rw [hk _ (by omega) (by omega)]; exact h2, by rw [hk _ (by omega) (by omega)]; exact h3, by omega, F', h5.keep fun x hx => hk x (hF x hx) (by have := h7 x hx; omega), ⟨by have := h6.n; omega, fun x hx hn => (hk x (by have := h6.n; omega) (by omega)).trans (h6.keep x hx hn), h6.own⟩, h7⟩
end Go.Ab
namespace Go.Proofs.Ytmpoeamfcienoaa
open Go.Ab
set_option linter.unusedVariables false
set_option linter.unusedSimpArgs false
set_option maxRecDepth 100000
set_option maxHeartbeats 8000000
theorem rn_ledger_Ledger_Do {b : Nat} {M : List (Int × LogV)} {F : List Nat} {l : List Prt} {at_ : Plc} {s : AState} (hL : LedAt s b M F) (hM : GOk M) (hl : (l.length : Int) < 9223372036854775808) (he : ∀ p ∈ l, (p.es.length : Int) < 9223372036854775808) :
    Runs (compCode prog) prog F_ledger_Ledger_Do [.p b 0, .sl (l.map Prt.av) .no, at_.av] s (fun _ s' => ∃ F', LedAt s' b (doL M l at_) F' ∧ Mut F F' s s') := by
  have hlt := hL.lt
  have hb : b < s.n := hlt b hL.mem
  refine runs_e h_ledger_Ledger_Do (Nat.le_of_ble_eq_true rfl) ?_
  refine st0 ?_
  refine gv (ct_slices_Values_Part (xs := l.map Prt.av)) ?_
  refine st0 ?_
  have hit := it_slices_Values_Part l (s.n + 1 + 1) (by omega)
  refine w_rangeS (m := l.length) (by simp) hit (by intro x hx; obtain ⟨p, _, rfl⟩ := List.mem_map.1 hx; rfl) (by simp) (fun k s' => DoI s b (doL M (l.take k) at_) F l at_ s') (fun _ _ => False) ?_ ?_ ?_ ?_ ?_ ?_ ?_
  · intro LR
    refine ⟨dz0, dz0, dz0, by simp, F, hL.keep fun x hx => by have := hlt x hx; simp (disch := first | omega | (simp <;> omega) | fail), .grows ?_, fun x hx => .inl (hlt x hx)⟩
    exact (((((Grows.refl s).alloc _).alloc _).alloc _).alloc _).alloc _
  · intro k s' h; exact h.b3
  · intro k s' o hn h
    exact h.keep (by simp) fun x hx _ => get_alloc_ne (by omega)
  · intro j s' o hn h; exact h
  · intro LR LB LJ hLB hLR k hk s' hd hLL hln hI
    have hk' : k < l.length := by simpa using hk
    have hsn : (((s.alloc (.cells [.p b 0])).alloc (.cells at_.cells)).alloc (.cells [.sl (l.map Prt.av) .no])).n = s.n + 3 := by simp
    have hGk := hM.doL (l.take k) at_
    rw [doL_snoc hk']
    generalize doL M (l.take k) at_ = M1 at hI hGk ⊢
    have hpe := he _ (List.getElem_mem hk')
    simp only [List.getElem_map] at *
    generalize l[k] = p at hpe ⊢
    have hI2 := hI
    obtain ⟨h1, h2, h3, h4, F', h5, h6, h7⟩ := hI
    simp only [hsn] at *
    refine st3 h1 h2 hLL ?_
    have k1 : DoI s b M1 F l at_ ((s'.set (s.n + 4) LB).alloc (.cells p.cells)) := hI2.keep (by simp) fun x hx hn => dz1 hn
    have k2 : ((s'.set (s.n + 4) LB).alloc (.cells p.cells)).get (s.n + 4) = LB := dz0
    have k3 : ((s'.set (s.n + 4) LB).alloc (.cells p.cells)).get s'.n = .cells p.cells := by simp
    have k4 : ((s'.set (s.n + 4) LB).alloc (.cells p.cells)).get (s.n + 3) = .defd := by simp (disch := first | omega | (simp <;> omega) | fail) [hd]
    have k5 : ((s'.set (s.n + 4) LB).alloc (.cells p.cells)).n = s'.n + 1 := by simp
    have hsl : s.n + 5 ≤ s'.n := h4
    generalize s'.n = n6 at k3 k5 hsl ⊢
    generalize (s'.set (s.n + 4) LB).alloc (.cells p.cells) = s1 at k1 k2 k3 k4 k5 ⊢
    clear hI2 h1 h2 h3 h4 h5 h6 h7 hd hLL hln
    have close : ∀ s2, s2.get (s.n + 3) = .defd → DoI s b (doP at_ M1 p) F l at_ s2 → Lfi (FinS (some (s.n + 3)) (s.n + 3 + 1) LR LJ (DoI s b (doP at_ M1 p) F l at_) fun _ _ => False) none (s2.set (s.n + 3 + 1) LR) .a := fun s2 g1 g2 => by
      have := g2.n
      exact fins_n (fun d hd => by cases hd; simp (disch := first | omega | (simp <;> omega) | fail) [g1]) (dz0) (g2.keep (by simp) fun x hx hn => dz1 hn)
    obtain ⟨h1, h2, h3, h4, F1, h5, h6, h7⟩ := k1
    have hF1 := h5.lt
    refine gv (ct_part_Is (p := p) hpe) ?_
    cases hp : isPart p with
    | false =>
      refine st2 hp k2 ?_
      refine close s1 k4 ?_
      have : doP at_ M1 p = M1 := by unfold doP; rw [hp]; rfl
      rw [this]
      exact ⟨h1, h2, h3, h4, F1, h5, h6, h7⟩
    | true =>
      have h5' := h5
      obtain ⟨mb, A, B, G, rfl, e1, e2, e3, e4, e5⟩ := h5
      have hb1 : b < s1.n := hF1 b (by simp)
      have hmb1 : mb < s1.n := hF1 mb (by simp)
      have hmb2 : mb < s.n ∨ s.n + 5 ≤ mb := h7 mb (by simp)
      by_cases hk5 : p.kd = 5
      · have hdo : doP at_ M1 p = delL M1 p.gr := by unfold doP; rw [hp, if_pos hk5]; rfl
        refine st5 hp k3 hk5 h1 e1 ?_
        refine m_mdel0 (κ := Int) (A := A) (k := p.gr) (b := mb) (enc := ptr) (by simp) e2 (by simp; rfl) ?_
        have hne : mb ≠ s.n + 4 := by omega
        refine st2 k2 hne ?_
        obtain ⟨G', q1, q2⟩ := e4.drop p.gr (List.nodup_cons.1 (List.nodup_cons.1 e5).2).2
        refine close _ (dz1 k4) ?_
        rw [hdo]
        have hmbG : mb ∉ G := (List.nodup_cons.1 (List.nodup_cons.1 e5).2).1
        have hbmb : b ≠ mb := fun e => (List.nodup_cons.1 e5).1 (by simp [e])
        have hin : ∀ x ∈ b :: mb :: G', x ∈ b :: mb :: G := fun x hx => by
          rcases List.mem_cons.1 hx with rfl | hx
          · simp
          rcases List.mem_cons.1 hx with rfl | hx
          · simp
          · simp [q2.subset hx]
        refine ⟨dz1 h1, dz1 h2, dz1 h3, by simpa using h4, b :: mb :: G', ⟨mb, _, _, G', rfl, dz2 e1 hbmb, dz0, e3.del p.gr, q1.keep fun x hx => ?_, ?_⟩, ⟨by simpa using h6.n, fun x hx hn => ?_, fun x hx => h6.own x (hin x hx)⟩, fun x hx => h7 x (hin x hx)⟩
        · exact AState.get_set_ne _ _ (fun e => hmbG (by rw [← e]; exact q2.subset hx))
        · exact List.Nodup.sublist ((q2.cons_cons mb).cons_cons b) e5
        · rw [AState.get_set_ne _ _ (fun e => ?_)]
          · exact h6.keep x hx hn
          · subst e
            rcases h6.own x (by simp) with h | h
            · exact hn h
            · omega
      · have hdo : doP at_ M1 p = putL M1 p.gr (logDo ((lk M1 p.gr).getD ⟨newG p.gr, []⟩) p at_) := by unfold doP; rw [hp, if_neg hk5]; rfl
        have hmbG : mb ∉ G := (List.nodup_cons.1 (List.nodup_cons.1 e5).2).1
        have hbG : b ∉ G := fun h => (List.nodup_cons.1 e5).1 (by simp [h])
        have hbmb : b ≠ mb := fun e => (List.nodup_cons.1 e5).1 (by simp [e])
        have hGn : G.Nodup := (List.nodup_cons.1 (List.nodup_cons.1 e5).2).2
        have hSM : Srt M1 := h5'.srt
        refine st5 hp k3 hk5 h1 e1 ?_
        refine m_look (κ := Int) (A := A) (k := p.gr) (b := mb) (enc := ptr) (by simp) e2 (by simp; rfl) ?_
        cases hl : lk A p.gr with
        | some lb =>
          have hlv : lkV ptr A p.gr (.v (.pointer none)) false = .p lb 0 := by unfold lkV; rw [hl]; rfl
          rw [hlv]
          refine st3 k3 h1 e1 ?_
          refine m_look (κ := Int) (A := A) (k := p.gr) (b := mb) (enc := ptr) (by simp) e2 (by simp; rfl) ?_
          rw [hlv]
          refine st2 k3 h2 ?_
          obtain ⟨v, Fi, f1, f2, f3, f4⟩ := e4.focus hSM hGn (by rw [← e3.lk]; exact hl)
          refine run (rn_place_Log_Do (p := p) (at_ := at_) f2 (hGk _ (lk_mem f1)) hpe) (by simp) ?_
          rintro _ s2 ⟨Fi', g1, g2⟩
          obtain ⟨G', q1, q2, q3⟩ := f4 s2 _ _ g1 g2
          have hno : ∀ x, x < s1.n → s.n ≤ x → x < s.n + 5 → x ∉ Fi := fun x _ h8 h9 hx => by have := h7 x (by simp [f3 x hx]); omega
          have j2 : s2.get (s.n + 3 + 1) = LB := (g2.keep _ (by omega) (hno _ (by omega) (by omega) (by omega))).trans k2
          refine st1 j2 ?_
          refine close s2 ((g2.keep _ (by omega) (hno _ (by omega) (by omega) (by omega))).trans k4) ?_
          rw [hdo, f1]
          have q2' := q2.moreL [b, mb]
          have hb2 : s2.get b = s1.get b := q2.keep b hb1 hbG
          have hmb3 : s2.get mb = s1.get mb := q2.keep mb hmb1 hmbG
          have hG' := q2.apart (G := [b, mb]) (by simp [hbG, hmbG]) (by simp [hb1, hmb1])
          have kk : ∀ x, s.n ≤ x → x < s.n + 3 → s2.get x = s1.get x := fun x h8 h9 => g2.keep x (by omega) (hno x (by omega) (by omega) (by omega))
          refine ⟨(kk _ (by omega) (by omega)).trans h1, (kk _ (by omega) (by omega)).trans h2, (kk _ (by omega) (by omega)).trans h3, by have := g2.n; omega, b :: mb :: G', ⟨mb, A, B, G', rfl, hb2.trans e1, hmb3.trans e2, e3, q1, ?_⟩, h6.trans q2', fun x hx => ?_⟩
          · rw [List.nodup_cons, List.nodup_cons]
            exact ⟨by simp [hbmb, hG' b (by simp)], hG' mb (by simp), q3⟩
          · rcases q2'.own x hx with h8 | h8
            · exact h7 x h8
            · exact .inr (by omega)
        | none =>
          have hlv : lkV ptr A p.gr (.v (.pointer none)) false = .v (.pointer none) := by unfold lkV; rw [hl]; rfl
          rw [hlv]
          refine sd3 k3 h1 e1 ?_
          refine run (rn_place_New (id := p.gr)) (by simp) ?_
          rintro _ s2 ⟨lb, rfl, g1, g2, g3⟩
          refine ⟨m_ext g3.ext, ?_⟩
          refine sd0 ?_
          have gn := g3.n
          have gk := fun x (h : x < s1.n) => g3.get h
          refine q_mset (κ := Int) (A := A) (k := p.gr) (v := lb) (b := mb) (enc := ptr) (by simp) ((gk mb hmb1).trans e2) (by simp; rfl) (by simp [ptr]) ?_
          have hlb : lb < s2.n := g1.lt lb (by simp)
          obtain ⟨G2, r1, r2, r3⟩ := e4.add (i := p.gr) g1 (.new g3 (by simp; omega)) hGn (by rw [← e3.lk]; exact hl)
          have hg2 : ∀ x ∈ G2, x ∉ [b, mb] := fun x hx hm => r2.apart (G := [b, mb]) (by simp [hbG, hmbG]) (by simp [hb1, hmb1]) x hm hx
          have hmn6 : mb ≠ n6 := by rintro rfl; rw [k3] at e2; cases e2
          have m1 : (s2.set mb (.map (encM ptr (setM A p.gr lb)))).get (s.n + 3 + 1) = LB := dz2 gk k2
          have m2 : (s2.set mb (.map (encM ptr (setM A p.gr lb)))).get n6 = .cells p.cells := dz2 gk k3
          have m3 : (s2.set mb (.map (encM ptr (setM A p.gr lb)))).get s.n = .cells [.p b 0] := dz2 gk h1
          have m4 : (s2.set mb (.map (encM ptr (setM A p.gr lb)))).get (s.n + 1) = .cells at_.cells := dz2 gk h2
          have m5 : (s2.set mb (.map (encM ptr (setM A p.gr lb)))).get b = .cells [.m mb] := dz3 gk e1 hbmb
          have m6 : (s2.set mb (.map (encM ptr (setM A p.gr lb)))).get mb = .map (encM ptr (setM A p.gr lb)) := dz0
          have m7 : (s2.set mb (.map (encM ptr (setM A p.gr lb)))).get (s.n + 2) = .cells [.sl (l.map Prt.av) .no] := dz2 gk h3
          have m8 : (s2.set mb (.map (encM ptr (setM A p.gr lb)))).get (s.n + 3) = .defd := dz2 gk k4
          have m9 : ∀ x, x < s1.n → x ≠ mb → (s2.set mb (.map (encM ptr (setM A p.gr lb)))).get x = s1.get x := fun x hx hn => by rw [AState.get_set_ne _ _ hn]; exact gk x hx
          have m10 : (s2.set mb (.map (encM ptr (setM A p.gr lb)))).n = s2.n := rfl
          have r4 : LogsAt (s2.set mb (.map (encM ptr (setM A p.gr lb)))) (putL B p.gr lb) (putL M1 p.gr ⟨newG p.gr, []⟩) G2 := r1.keep fun x hx => AState.get_set_ne _ _ (fun e => hg2 x hx (by simp [e]))
          generalize s2.set mb (.map (encM ptr (setM A p.gr lb))) = s3 at m1 m2 m3 m4 m5 m6 m7 m8 m9 m10 r4 ⊢
          refine sd0 ?_
          refine st3 m3 m5 m2 ?_
          refine m_look (κ := Int) (A := setM A p.gr lb) (k := p.gr) (b := mb) (enc := ptr) (by simp) m6 (by simp; rfl) ?_
          have hlv : lkV ptr (setM A p.gr lb) p.gr (.v (.pointer none)) false = .p lb 0 := by unfold lkV; rw [lk_setM, if_pos rfl]; rfl
          rw [hlv]
          refine st2 m2 m4 ?_
          have e3' := e3.set p.gr lb
          have hlb2 : lk (putL B p.gr lb) p.gr = some lb := by rw [lk_put, if_pos rfl]
          obtain ⟨v, Fi, f1, f2, f3, f4⟩ := r4.focus (hSM.put _ _) r3 hlb2
          rw [lk_put, if_pos rfl] at f1
          obtain rfl : (⟨newG p.gr, []⟩ : LogV) = v := by simpa using f1
          have hsp : Spar (newG p.gr) := newG_spar (by simp only [isPart, Bool.and_eq_true] at hp; simpa [btw] using hp.1.1)
          refine run (rn_place_Log_Do (p := p) (at_ := at_) f2 hsp hpe) (by simp) ?_
          rintro _ s4 ⟨Fi', t1, t2⟩
          obtain ⟨G', q1, q2, q3⟩ := f4 s4 _ _ t1 t2
          have hFo : ∀ x ∈ G2, x < s.n ∨ s.n + 5 ≤ x := fun x hx => by
            rcases r2.own x hx with h8 | h8
            · exact h7 x (by simp [h8])
            · exact .inr (by omega)
          have hno : ∀ x, x < s3.n → s.n ≤ x → x < s.n + 5 → x ∉ Fi := fun x _ h8 h9 hx => by have := hFo x (f3 x hx); omega
          have j2 : s4.get (s.n + 3 + 1) = LB := (t2.keep _ (by omega) (hno _ (by omega) (by omega) (by omega))).trans m1
          refine st1 j2 ?_
          refine close s4 ((t2.keep _ (by omega) (hno _ (by omega) (by omega) (by omega))).trans m8) ?_
          have hdo2 : doP at_ M1 p = putL (putL M1 p.gr ⟨newG p.gr, []⟩) p.gr (logDo ⟨newG p.gr, []⟩ p at_) := by
            have hlM : lk M1 p.gr = none := (e4.no p.gr).1 (by rw [← e3.lk]; exact hl)
            rw [hdo, hlM]
            refine Srt.ext (hSM.put _ _) ((hSM.put _ _).put _ _) fun k => ?_
            rw [lk_put, lk_put, lk_put]
            split <;> rfl
          rw [hdo2]
          have hbG2 : b ∉ G2 := fun h => hg2 b h (by simp)
          have hmbG2 : mb ∉ G2 := fun h => hg2 mb h (by simp)
          have hb2 : s4.get b = s3.get b := q2.keep b (by omega) hbG2
          have hmb3 : s4.get mb = s3.get mb := q2.keep mb (by omega) hmbG2
          have hG' := q2.apart (G := [b, mb]) (by simp [hbG2, hmbG2]) (by simp; omega)
          have kk : ∀ x, s.n ≤ x → x < s.n + 3 → s4.get x = s3.get x := fun x h8 h9 => t2.keep x (by omega) (hno x (by omega) (by omega) (by omega))
          have q5 : Mut (b :: mb :: G) (b :: mb :: G') s1 s4 := by
            refine ⟨by have := t2.n; omega, fun x hx hn => ?_, fun x hx => ?_⟩
            · have hn' : x ≠ b ∧ x ≠ mb ∧ x ∉ G := by simpa using hn
              refine (q2.keep x (by omega) (fun hm => ?_)).trans (m9 x hx hn'.2.1)
              rcases r2.own x hm with h8 | h8
              · exact hn'.2.2 h8
              · omega
            · rcases List.mem_cons.1 hx with rfl | hx
              · exact .inl (by simp)
              rcases List.mem_cons.1 hx with rfl | hx
              · exact .inl (by simp)
              rcases q2.own x hx with h8 | h8
              · rcases r2.own x h8 with h9 | h9
                · exact .inl (by simp [h9])
                · exact .inr h9
              · exact .inr (by omega)
          refine ⟨(kk _ (by omega) (by omega)).trans m3, (kk _ (by omega) (by omega)).trans m4, (kk _ (by omega) (by omega)).trans m7, by have := t2.n; omega, b :: mb :: G', ⟨mb, _, _, G', rfl, hb2.trans m5, hmb3.trans m6, e3', q1, ?_⟩, h6.trans q5, fun x hx => ?_⟩
          · rw [List.nodup_cons, List.nodup_cons]
            exact ⟨by simp [hbmb, hG' b (by simp)], hG' mb (by simp), q3⟩
          · rcases q5.own x hx with h8 | h8
            · exact h7 x h8
            · exact .inr (by omega)
  · intro s' hd hln hI
    rw [List.take_length] at hI
    have hsn : (((s.alloc (.cells [.p b 0])).alloc (.cells at_.cells)).alloc (.cells [.sl (l.map Prt.av) .no])).n = s.n + 3 := by simp
    simp only [hsn] at *
    refine st0 ?_
    refine end_okD ?_ ?_ rfl ?_
    · simp (disch := first | omega | (simp <;> omega) | fail) [hd]
    · simp
    obtain ⟨h1, h2, h3, h4, F', h5, h6, h7⟩ := hI
    have hF := h5.lt
    have hk : ∀ x, x < s'.n → (x < s.n ∨ s.n + 5 ≤ x) → (killAll [s.n + 3] (s'.set (s.n + 3 + 1) .dead)).get x = s'.get x := fun x hx h8 => by
      simp only [killAll, List.foldl]
      rw [AState.get_set_ne _ _ (by omega), AState.get_set_ne _ _ (by omega)]
    exact ⟨F', h5.keep fun x hx => hk x (hF x hx) (h7 x hx), ⟨by simpa [killAll] using h6.n, fun x hx hn => (hk x (by have := h6.n; omega) (.inl hx)).trans (h6.keep x hx hn), h6.own⟩⟩
  · intro j s' _ _ h; exact h.elim
end Go.Proofs.Ytmpoeamfcienoaa
end
section
namespace Go.Proofs.Ytmpoeamfcienoaa
open Go.Ab
set_option linter.unusedVariables false
set_option linter.unusedSimpArgs false
set_option maxRecDepth 100000
set_option maxHeartbeats 8000000
structure IsI (s : AState) (g : Grp) (k : Nat) (s' : AState) : Prop where
  b0 : s'.get s.n = .cells g.cells
  b1 : s'.get (s.n + 1) = .cells [.v (.bool false)]
  b2 : s'.get (s.n + 1 + 1) = .cells [.v (.int .i64 (g.fi + k))]
  b3 : s'.get (s.n + 1 + 1 + 1) = .cells [.sl (g.es.map Ent.av) .no]
  n : s.n + 6 ≤ s'.n
  old : ∀ x, x < s.n → s'.get x = s.get x
  dn : ∀ x (hx : x < k) (hx' : x < g.es.length), g.es[x].ix = g.fi + (x : Int)
theorem ct_group_Is {g : Grp} {s : AState} (h : Spar g) : Gives prog F_group_Is [g.av] s (.v (.bool (dense g))) s := by
  have hlen := h.len
  have hMI := MI_eq
  have h0 := okHead_iff.1 h.hd
  have hhd := h.hd
  refine Runs.gives (runs_e h_group_Is (Nat.le_of_ble_eq_true rfl) ?_) (.v _)
  refine st0 ?_
  refine gv (ct_slices_Values_Entry (xs := g.es.map Ent.av)) ?_
  refine st0 ?_
  have hit := it_slices_Values_Entry g.es (s.n + 1 + 1 + 1) (by omega)
  have hsn : ((((s.alloc (.cells g.cells)).alloc (.cells [.v (.bool false)])).alloc (.cells [.v (.int .i64 g.fi)])).alloc (.cells [.sl (g.es.map Ent.av) .no])).n = s.n + 4 := by simp
  refine w_rangeS (m := g.es.length) (by simp) hit (by intro x hx; obtain ⟨p, _, rfl⟩ := List.mem_map.1 hx; rfl) (by simp) (fun k s' => IsI s g k s')
    (fun j s' => j = .ret ∧ s'.get (s.n + 1) = .cells [.v (.bool false)] ∧ s.n + 6 ≤ s'.n ∧ (∀ x, x < s.n → s'.get x = s.get x) ∧ dense g = false) ?_ ?_ ?_ ?_ ?_ ?_ ?_
  · intro LR
    exact ⟨dz0, dz0, dz0, dz0, by simp, fun x hx => dz0, fun x hx => by omega⟩
  · intro k s' hI; exact hI.b3
  · rintro k s' o hn ⟨b0, b1, b2, b3, n, old, dn⟩
    exact ⟨dz1 b0, dz1 b1, dz1 b2, dz1 b3, by simp; omega, fun x hx => dz1 (old x hx), dn⟩
  · rintro j s' o hn ⟨rfl, b1, n, old, dn⟩
    exact ⟨rfl, dz1 b1, by simp; omega, fun x hx => dz1 (old x hx), dn⟩
  · intro LR LB LJ hLB hLR k hk s' hd hLL hln hI
    have hk' : k < g.es.length := by simpa using hk
    obtain ⟨b0, b1, b2, b3, n, old, dn⟩ := hI
    have hok := h.ok _ (List.getElem_mem hk')
    have hw : IntKind.wrap .i64 (g.fi + (k : Int) + 1) = g.fi + ((k + 1 : Nat) : Int) := by rw [wrap_i64 (by omega) (by omega)]; omega
    simp only [hsn, List.getElem_map] at *
    by_cases he : g.es[k].ix = g.fi + (k : Int)
    · refine st6c1 @ct_part_IsEntry hk' b2 hLL hok he hw ?_
      refine fins_n (fun d hd' => by cases hd'; simp (disch := first | omega | (simp <;> omega) | fail) [hd]) (dz0) ⟨dz1 b0, dz1 b1, dz0, dz1 b3, by simp; omega, fun x hx => dz1 (old x hx), fun x hx hx' => ?_⟩
      by_cases e : x = k
      · subst e; exact he
      · exact dn x (by omega) hx'
    · refine st6c1 @ct_part_IsEntry hk' b1 b2 hLL hok he ?_
      refine fins_j (fun d hd' => by cases hd'; simp (disch := first | omega | (simp <;> omega) | fail) [hd]) (dz0) ⟨rfl, dz0, by simp; omega, fun x hx => dz1 (old x hx), ?_⟩
      unfold dense
      rw [List.all_eq_false]
      exact ⟨k, by simpa using hk', by simp [hk', he]⟩
  · rintro s' hd hln ⟨b0, b1, b2, b3, n, old, dn⟩
    simp only [hsn] at *
    refine st3c1 @ct_group_Head hhd b0 b1 ?_
    refine ret_okD ?_ ?_ (by simp (disch := first | omega | (simp <;> omega) | fail) [killAll]; rfl) ⟨⟨?_, fun x hx => .inl ?_⟩, ?_⟩
    · simp (disch := first | omega | (simp <;> omega) | fail) [hd]
    · simp
    · simp [killAll]; omega
    · simp (disch := first | omega | (simp <;> omega) | fail) [killAll, old x hx]
    · have : dense g = true := by
        unfold dense
        rw [List.all_eq_true]
        intro x hx
        have hx := List.mem_range.1 hx
        have := dn x hx hx
        simpa [hx] using this
      rw [this]; exact .refl _
  · rintro j s' hd hln ⟨rfl, b1, n, old, dn⟩
    simp only [hsn] at *
    repeat (first | simp -dsimp -implicitDefEqProofs (disch := first | omega | (simp <;> omega) | fail) [AJump.exitOf] | ((with_reducible first | apply m_1 | apply m_0); (focus ((conv => lhs; simp -dsimp -implicitDefEqProofs (disch := first | omega | (simp <;> omega) | fail) [AJump.exitOf]); done))) | ((with_reducible first | apply i_T | apply g_T); (focus (simp -dsimp -implicitDefEqProofs (disch := first | omega | (simp <;> omega) | fail) [AJump.exitOf]; done))) | ((with_reducible first | apply i_F | apply g_F); (focus (simp -dsimp -implicitDefEqProofs (disch := first | omega | (simp <;> omega) | fail) [AJump.exitOf]; done))))
    refine ret_okD ?_ ?_ (by simp (disch := first | omega | (simp <;> omega) | fail) [killAll, b1]; rfl) ⟨⟨?_, fun x hx => .inl ?_⟩, ?_⟩
    · simp (disch := first | omega | (simp <;> omega) | fail) [hd]
    · simp
    · simp [killAll]; omega
    · simp (disch := first | omega | (simp <;> omega) | fail) [killAll, old x hx]
    · rw [dn]; exact .refl _
theorem ct_sparse_Dense {g : Grp} {s : AState} (h : Spar g) : Gives prog F_sparse_Dense [g.av] s (.v (.bool (dense g))) s := by
  refine Runs.gives' (runs_e h_sparse_Dense (Nat.le_of_ble_eq_true rfl) ?_) (.v _)
  repeat (first | simp -dsimp -implicitDefEqProofs (disch := first | omega | (simp <;> omega) | fail) | ((with_reducible first | apply m_1 | apply m_0); (focus ((conv => lhs; simp -dsimp -implicitDefEqProofs (disch := first | omega | (simp <;> omega) | fail)); done))) | ((with_reducible apply giv); (case hAR => ((conv => lhs; simp -dsimp -implicitDefEqProofs (disch := first | omega | (simp <;> omega) | fail)); done)); (case hCT => (first | (apply ct_group_Is <;> first | assumption | omega | decide)))) | ((with_reducible first | apply i_T | apply g_T); (focus (simp -dsimp -implicitDefEqProofs (disch := first | omega | (simp <;> omega) | fail); done))) | ((with_reducible first | apply i_F | apply g_F); (focus (simp -dsimp -implicitDefEqProofs (disch := first | omega | (simp <;> omega) | fail); done))))
  exact ret_ok rfl ⟨(Grows.refl _).alloc _, .refl _⟩
theorem ct_slices_Equal_Spot {l m : List Spt} {s : AState} (hl : (l.length : Int) < 9223372036854775808) : Gives prog F_slices_Equal_Spot [.sl (l.map Spt.av) .no, .sl (m.map Spt.av) .no] s (.v (.bool (decide (l = m)))) s := by
  refine runs_e h_slices_Equal_Spot (Nat.le_of_ble_eq_true rfl) ?_
  by_cases hlen : l.length = m.length
  · rw [← all_eq hlen]
    have hI : (m.length : Int) = l.length := by omega
    refine st1 hI ?_
    refine loop_ok [0, 1, 12, 13] (fun k a s1 => s = s1 ∧ ∃ i : Nat, i + k = l.length ∧ ((List.range i).all fun i => decide (l.getD i default = m.getD i default)) = true ∧ a = { t := den 26 [(0, .sl (l.map Spt.av) .no), (1, .sl (m.map Spt.av) .no), (12, .v (.int .i64 l.length)), (13, .v (.int .i64 i))], d := [] }) l.length ?_ ?_
    · exact ⟨rfl, 0, by simp, rfl, by simp⟩
    · rintro k a _ ⟨rfl, i, hik, hall, rfl⟩
      by_cases hlt : i < l.length
      · have hlt2 : i < m.length := by omega
        have hw : IntKind.wrap .i64 ((i : Int) + 1) = (i : Int) + 1 := wrap_i64 (by omega) (by omega)
        have e1 : l.getD i default = l[i] := by simp [hlt]
        have e2 : m.getD i default = m[i] := by simp [hlt2]
        by_cases he : l[i] = m[i]
        · repeat (first | simp -dsimp -implicitDefEqProofs (disch := first | omega | (simp <;> omega) | fail) [hlt, hlt2, he] | ((with_reducible first | apply m_1 | apply m_0); (focus ((conv => lhs; simp -dsimp -implicitDefEqProofs (disch := first | omega | (simp <;> omega) | fail) [hlt, hlt2, he]); done))) | ((with_reducible first | apply i_T | apply g_T); (focus (simp -dsimp -implicitDefEqProofs (disch := first | omega | (simp <;> omega) | fail) [hlt, hlt2, he]; done))) | ((with_reducible first | apply i_F | apply g_F); (focus (simp -dsimp -implicitDefEqProofs (disch := first | omega | (simp <;> omega) | fail) [hlt, hlt2, he]; done))))
          exact ⟨k - 1, by omega, rfl, i + 1, by omega, all_step hall (by simp only [e1, e2]; simp [he]), by simp [hw]⟩
        · repeat (first | simp -dsimp -implicitDefEqProofs (disch := first | omega | (simp <;> omega) | fail) [hlt, hlt2, he] | ((with_reducible first | apply m_1 | apply m_0); (focus ((conv => lhs; simp -dsimp -implicitDefEqProofs (disch := first | omega | (simp <;> omega) | fail) [hlt, hlt2, he]); done))) | ((with_reducible first | apply i_T | apply g_T); (focus (simp -dsimp -implicitDefEqProofs (disch := first | omega | (simp <;> omega) | fail) [hlt, hlt2, he]; done))) | ((with_reducible first | apply i_F | apply g_F); (focus (simp -dsimp -implicitDefEqProofs (disch := first | omega | (simp <;> omega) | fail) [hlt, hlt2, he]; done))))
          refine ret_ok rfl ⟨?_, rfl⟩
          rw [all_stop hlt (by simp only [e1, e2]; simp [he])]; rfl
      · refine st1 hlt ?_
        have : i = l.length := by omega
        subst this
        exact ret_ok rfl ⟨by rw [hall]; rfl, rfl⟩
  · have hI : ¬ (l.length : Int) = m.length := by omega
    refine st1 hI ?_
    refine ret_ok rfl ⟨?_, rfl⟩
    have : ¬ l = m := fun e => hlen (by rw [e])
    simp [this]
theorem ct_slices_EqualFunc_Group {l m : List Grp} {s : AState} (hl : (l.length : Int) < 9223372036854775808) (hes : ∀ g ∈ l, (g.es.length : Int) < 9223372036854775808) :
    Gives prog F_slices_EqualFunc_Group [.sl (l.map Grp.av) .no, .sl (m.map Grp.av) .no, .f (.func F_group_Same) [] []] s (.v (.bool (decide (l = m)))) s := by
  refine Runs.gives' (runs_e h_slices_EqualFunc_Group (Nat.le_of_ble_eq_true rfl) ?_) (.v _)
  by_cases hlen : l.length = m.length
  · rw [← all_eq hlen]
    have hI : (m.length : Int) = l.length := by omega
    refine st1 hI ?_
    refine loop_ok [0, 1, 2, 15, 16, 17] (fun k a s1 => Grows s s1 ∧ ∃ i : Nat, i + k = l.length ∧ ((List.range i).all fun i => decide (l.getD i default = m.getD i default)) = true ∧ a = { t := den 32 [(0, .sl (l.map Grp.av) .no), (1, .sl (m.map Grp.av) .no), (2, .f (.func F_group_Same) [] []), (15, .sl (l.map Grp.av) .no), (16, .v (.int .i64 l.length)), (17, .v (.int .i64 i))], d := [] }) l.length ?_ ?_
    · exact ⟨.refl s, 0, by simp, rfl, by simp⟩
    · rintro k a s1 ⟨hg, i, hik, hall, rfl⟩
      by_cases hlt : i < l.length
      · have hlt2 : i < m.length := by omega
        have hw : IntKind.wrap .i64 ((i : Int) + 1) = (i : Int) + 1 := wrap_i64 (by omega) (by omega)
        have e1 : l.getD i default = l[i] := by simp [hlt]
        have e2 : m.getD i default = m[i] := by simp [hlt2]
        have hG := hes _ (List.getElem_mem hlt)
        by_cases he : l[i] = m[i]
        · repeat (first | simp -dsimp -implicitDefEqProofs (disch := first | omega | (simp <;> omega) | fail) [hlt, hlt2] | ((with_reducible first | apply m_1 | apply m_0); (focus ((conv => lhs; simp -dsimp -implicitDefEqProofs (disch := first | omega | (simp <;> omega) | fail) [hlt, hlt2]); done))) | ((with_reducible first | apply i_T | apply g_T); (focus (simp -dsimp -implicitDefEqProofs (disch := first | omega | (simp <;> omega) | fail) [hlt, hlt2]; done))) | ((with_reducible first | apply i_F | apply g_F); (focus (simp -dsimp -implicitDefEqProofs (disch := first | omega | (simp <;> omega) | fail) [hlt, hlt2]; done))))
          refine gv (ct_group_Same (a := l[i]) (b := m[i]) hG) ?_
          refine st1 he ?_
          exact ⟨k - 1, by omega, (hg.alloc _).alloc _, i + 1, by omega, all_step hall (by simp only [e1, e2]; simp [he]), by simp [hw]⟩
        · repeat (first | simp -dsimp -implicitDefEqProofs (disch := first | omega | (simp <;> omega) | fail) [hlt, hlt2] | ((with_reducible first | apply m_1 | apply m_0); (focus ((conv => lhs; simp -dsimp -implicitDefEqProofs (disch := first | omega | (simp <;> omega) | fail) [hlt, hlt2]); done))) | ((with_reducible first | apply i_T | apply g_T); (focus (simp -dsimp -implicitDefEqProofs (disch := first | omega | (simp <;> omega) | fail) [hlt, hlt2]; done))) | ((with_reducible first | apply i_F | apply g_F); (focus (simp -dsimp -implicitDefEqProofs (disch := first | omega | (simp <;> omega) | fail) [hlt, hlt2]; done))))
          refine gv (ct_group_Same (a := l[i]) (b := m[i]) hG) ?_
          refine st1 he ?_
          refine ret_ok rfl ⟨(hg.alloc _).alloc _, ?_⟩
          rw [all_stop hlt (by simp only [e1, e2]; simp [he])]; exact .refl _
      · refine st1 hlt ?_
        have : i = l.length := by omega
        subst this
        exact ret_ok rfl ⟨hg, by rw [hall]; exact .refl _⟩
  · have hI : ¬ (l.length : Int) = m.length := by omega
    refine st1 hI ?_
    refine ret_ok rfl ⟨.refl s, ?_⟩
    have : ¬ l = m := fun e => hlen (by rw [e])
    simp [this, AV.le.refl]
end Go.Proofs.Ytmpoeamfcienoaa
end
section
namespace Go.Ab
set_option linter.unusedVariables false
structure TellI (s : AState) (b : Nat) (l : List AV) (s' : AState) : Prop where
  b0 : ∃ tk, s'.get s.n = .cells [.sl l tk] ∧ May (s.n + 4) s' l tk
  b1 : s'.get (s.n + 1) = .cells [.p b 0]
  n : s.n + 4 ≤ s'.n
  old : ∀ x, x < s.n → s'.get x = s.get x
theorem TellI.alloc {s : AState} {b : Nat} {l : List AV} {s' : AState} (h : TellI s b l s') (o : AObj) : TellI s b l (s'.alloc o) := by
  obtain ⟨⟨tk, g1, g2⟩, b1, n, old⟩ := h
  exact ⟨⟨tk, dz1 g1, g2.alloc o⟩, dz1 b1, by simp; omega, fun x hx => dz1 (old x hx)⟩
structure Small (M : List (Int × LogV)) : Prop where
  len : M.length ≤ 1000000
  es : ∀ x ∈ M, x.2.g.es.length * 32 ≤ 140737488355328
  sp : (spotsM M).length * 32 ≤ 140737488355328
theorem LogsAt.pre {s : AState} {B : List (Int × Nat)} {M : List (Int × LogV)} {F : List Nat} (h : LogsAt s B M F) (hM : MOk M) : ∀ x ∈ B, -9223372036854775808 ≤ x.1 ∧ x.1 < 9223372036854775808 := fun x hx => by
  have : x.1 ∈ M.map (·.1) := by rw [← h.keys]; exact List.mem_map_of_mem hx
  obtain ⟨y, hy, e⟩ := List.mem_map.1 this
  have := (hM.2 y hy).rng
  omega
theorem MOk.gok {M : List (Int × LogV)} (hM : MOk M) : GOk M := fun x hx => (hM.2 x hx).g
theorem spots_le {M : List (Int × LogV)} {x : Int × LogV} (hx : x ∈ M) : x.2.sp.length ≤ (spotsM M).length := by
  induction M with
  | nil => cases hx
  | cons y M ih =>
    simp only [spotsM, List.flatMap_cons, List.length_append, List.length_map] at ih ⊢
    rcases List.mem_cons.1 hx with rfl | hx
    · omega
    · have := ih hx; omega
theorem VOk.keys {i : Int} {v : LogV} (h : VOk i v) : ∀ x ∈ v.sp, -1 ≤ x.1 ∧ x.1 ≤ MI := fun x hx => by
  have hMI := MI_eq
  rcases h.key x hx with h1 | h1 | ⟨e, he, h1⟩
  · omega
  · omega
  · have := (okEnt_iff.1 (h.g.ok e he)).1; omega
theorem grps_le (M : List (Int × LogV)) (k : Nat) : (grpsL (M.take k)).length ≤ (grpsL M).length := by simp [grpsL]; omega
theorem spots_take (M : List (Int × LogV)) (k : Nat) : (spotsM (M.take k)).length ≤ (spotsM M).length := by
  have h := congrArg (fun l => (spotsM l).length) (List.take_append_drop k M)
  simp only [spotsM, List.flatMap_append, List.length_append] at h ⊢
  omega
theorem grps_snoc {M : List (Int × LogV)} {k : Nat} (h : k < M.length) : grpsL (M.take (k + 1)) = grpsL (M.take k) ++ [M[k].2.g] := by
  have e : M.take (k + 1) = M.take k ++ [M[k]] := (List.take_append_getElem h).symm
  rw [e]; simp only [grpsL, List.map_append, List.map_cons, List.map_nil]
theorem spots_snoc {M : List (Int × LogV)} {k : Nat} (h : k < M.length) : spotsM (M.take (k + 1)) = spotsM (M.take k) ++ spotsL M[k].2 := by
  have e : M.take (k + 1) = M.take k ++ [M[k]] := (List.take_append_getElem h).symm
  rw [e]; simp only [spotsM, spotsL, List.flatMap_append, List.flatMap_cons, List.flatMap_nil, List.append_nil]
end Go.Ab
namespace Go.Proofs.Ytmpoeamfcienoaa
open Go.Ab
set_option linter.unusedVariables false
set_option linter.unusedSimpArgs false
set_option maxRecDepth 100000
set_option maxHeartbeats 8000000
theorem ct_ledger_Ledger_Groups {b : Nat} {M : List (Int × LogV)} {F : List Nat} {s : AState} (hL : LedAt s b M F) (hM : MOk M) (hS : Small M) : Gives prog F_ledger_Ledger_Groups [.p b 0] s (.sl ((grpsL M).map Grp.av) .no) s := by
  have hlt := hL.lt
  have hb : b < s.n := hlt b hL.mem
  obtain ⟨hS1, hS2, hS3⟩ := hS
  obtain ⟨mb, A, B, F', rfl, e1, e2, e3, e4, e5⟩ := hL
  have hmb : mb < s.n := hlt mb (by simp)
  have hlB := e4.len
  have hMI := MI_eq
  have hsn : ((s.alloc (.cells [.sl [] .zero])).alloc (.cells [.p b 0])).n = s.n + 2 := by simp
  refine Runs.gives (runs_e h_ledger_Ledger_Groups (Nat.le_of_ble_eq_true rfl) ?_) (flat_sl Grp.row _)
  refine st0 ?_
  refine gv (ct_ledger_Ledger_logs (b := b)) ?_
  refine st0 ?_
  have hit := it_ledger_Ledger_logs (cb := s.n + 1) (b := b) (mb := mb) e3 (e4.pre hM) (by omega)
  have hTl := grps_le M
  have hbig : (grpsL M).length * 72 ≤ 140737488355328 := by simp only [grpsL, List.length_map]; omega
  refine w_rangeS (m := M.length) (by simp) hit (by intro x hx; obtain ⟨p, _, rfl⟩ := List.mem_map.1 hx; rfl) (by simp [pairA, hlB]) (fun k s' => TellI s b ((grpsL (M.take k)).map Grp.av) s') (fun _ _ => False) ?_ ?_ ?_ ?_ ?_ ?_ ?_
  · intro LR
    exact ⟨⟨.zero, by simp (disch := first | omega | (simp <;> omega) | fail) [grpsL, spotsM], trivial⟩, dz0, by simp, fun x hx => dz0⟩
  · intro k s' h; exact ⟨h.b1, (h.old b hb).trans e1, (h.old mb hmb).trans e2⟩
  · intro k s' o hn h; exact h.alloc o
  · intro j s' o hn h; exact h
  · intro LR LB LJ hLB hLR k hk s' hd hLL hln hI
    have hkB : k < B.length := by simpa [pairA] using hk
    have hk' : k < M.length := by omega
    obtain ⟨⟨tk, g1, g2⟩, b1, n, old⟩ := hI
    obtain ⟨-, Fi, f1, f2⟩ := e4.nth hkB hk'
    have f3 : LogAt (s'.set (s.n + 2 + 1) LB) B[k].2 M[k].2 Fi := f1.keep fun x hx => by
      have := hlt x (by simp [f2 x hx])
      simp (disch := first | omega | (simp <;> omega) | fail) [old x this]
    have hok := hM.2 _ (List.getElem_mem hk')
    have hTs := hTl (k + 1)
    have hTk : grpsL (M.take (k + 1)) = grpsL (M.take k) ++ [M[k].2.g] := grps_snoc hk'
    simp only [hsn, pairA, List.getElem_map, List.zip_cons_cons, List.zip_nil_right, List.reverse_cons, List.reverse_nil, List.nil_append, List.cons_append] at hd hLL hln ⊢
    refine sd2 hLL g1 ?_
    refine gv (ct_place_Log_Group f3 (hS2 _ (List.getElem_mem hk'))) ?_
    refine sd2 hLL g1 ?_
    refine q_appS (xs := (grpsL (M.take k)).map Grp.av) (tk := tk) (ys := ([M[k].2.g]).map Grp.av) (t2 := .zero) (N := s.n + 4) (by simp) (by simp) (by simp; omega) (g2.set _ (by omega)) (head_map Grp.row _) (by simp) (by have := congrArg List.length hTk; simp only [List.length_append, List.length_map] at this ⊢; omega) (by have := congrArg List.length hTk; simp only [List.length_append, List.length_map] at this ⊢; omega) ?_
    intro s2 tk2 hm2 hlow hext
    have k0 : s2.get s.n = .cells [.sl ((grpsL (M.take k)).map Grp.av) tk] := by rw [hlow _ (by omega)]; simp (disch := first | omega | (simp <;> omega) | fail) [g1]
    have k1 : s2.get (s.n + 1) = .cells [.p b 0] := by rw [hlow _ (by omega)]; simp (disch := first | omega | (simp <;> omega) | fail) [b1]
    have k2 : s2.get (s.n + 2) = .defd := by rw [hlow _ (by omega)]; simp (disch := first | omega | (simp <;> omega) | fail) [hd]
    have k3 : s2.get (s.n + 2 + 1) = LB := by rw [hlow _ (by omega)]; simp (disch := first | omega | (simp <;> omega) | fail)
    have k4 : ∀ x, x < s.n → s2.get x = s.get x := fun x hx => by rw [hlow _ (by omega)]; simp (disch := first | omega | (simp <;> omega) | fail) [old x hx]
    have hn2 : s.n + 4 ≤ s2.n := by have := hext.1; simp at this; omega
    clear hext hlow
    refine sd1 k0 ?_
    refine st2 k0 k3 ?_
    refine fins_n (fun d hd => by cases hd; simp (disch := first | omega | (simp <;> omega) | fail) [k2]) (dz0) ⟨⟨tk2, dz1 hTk, ?_⟩, dz1 k1, by simpa using hn2, fun x hx => dz1 (k4 x hx)⟩
    rw [hTk]
    simpa using (hm2.set _ (by omega)).set _ (by omega)
  · rintro s' hd hln ⟨⟨tk, g1, g2⟩, b1, n, old⟩
    rw [List.take_length] at g1 g2
    simp only [hsn] at hd hln ⊢
    refine st1 g1 ?_
    refine ret_okD ?_ ?_ rfl ⟨⟨?_, fun x hx => .inl ?_⟩, AV.le_no _ _⟩
    · simp (disch := first | omega | (simp <;> omega) | fail) [hd]
    · simp
    · simp [killAll]; omega
    · simp (disch := first | omega | (simp <;> omega) | fail) [killAll, old x hx]
  · intro j s' _ _ h; exact h.elim
theorem ct_ledger_Ledger_Spots {b : Nat} {M : List (Int × LogV)} {F : List Nat} {s : AState} (hL : LedAt s b M F) (hM : MOk M) (hS : Small M) : Gives prog F_ledger_Ledger_Spots [.p b 0] s (.sl ((spotsM M).map Spt.av) .no) s := by
  have hlt := hL.lt
  have hb : b < s.n := hlt b hL.mem
  obtain ⟨hS1, hS2, hS3⟩ := hS
  obtain ⟨mb, A, B, F', rfl, e1, e2, e3, e4, e5⟩ := hL
  have hmb : mb < s.n := hlt mb (by simp)
  have hlB := e4.len
  have hMI := MI_eq
  have hsn : ((s.alloc (.cells [.sl [] .zero])).alloc (.cells [.p b 0])).n = s.n + 2 := by simp
  refine Runs.gives (runs_e h_ledger_Ledger_Spots (Nat.le_of_ble_eq_true rfl) ?_) (flat_sl Spt.row _)
  refine st0 ?_
  refine gv (ct_ledger_Ledger_logs (b := b)) ?_
  refine st0 ?_
  have hit := it_ledger_Ledger_logs (cb := s.n + 1) (b := b) (mb := mb) e3 (e4.pre hM) (by omega)
  have hTl := spots_take M
  have hbig : (spotsM M).length * 32 ≤ 140737488355328 := hS3
  refine w_rangeS (m := M.length) (by simp) hit (by intro x hx; obtain ⟨p, _, rfl⟩ := List.mem_map.1 hx; rfl) (by simp [pairA, hlB]) (fun k s' => TellI s b ((spotsM (M.take k)).map Spt.av) s') (fun _ _ => False) ?_ ?_ ?_ ?_ ?_ ?_ ?_
  · intro LR
    exact ⟨⟨.zero, by simp (disch := first | omega | (simp <;> omega) | fail) [grpsL, spotsM], trivial⟩, dz0, by simp, fun x hx => dz0⟩
  · intro k s' h; exact ⟨h.b1, (h.old b hb).trans e1, (h.old mb hmb).trans e2⟩
  · intro k s' o hn h; exact h.alloc o
  · intro j s' o hn h; exact h
  · intro LR LB LJ hLB hLR k hk s' hd hLL hln hI
    have hkB : k < B.length := by simpa [pairA] using hk
    have hk' : k < M.length := by omega
    obtain ⟨⟨tk, g1, g2⟩, b1, n, old⟩ := hI
    obtain ⟨-, Fi, f1, f2⟩ := e4.nth hkB hk'
    have f3 : LogAt (s'.set (s.n + 2 + 1) LB) B[k].2 M[k].2 Fi := f1.keep fun x hx => by
      have := hlt x (by simp [f2 x hx])
      simp (disch := first | omega | (simp <;> omega) | fail) [old x this]
    have hok := hM.2 _ (List.getElem_mem hk')
    have hTs := hTl (k + 1)
    have hTk : spotsM (M.take (k + 1)) = spotsM (M.take k) ++ spotsL M[k].2 := spots_snoc hk'
    simp only [hsn, pairA, List.getElem_map, List.zip_cons_cons, List.zip_nil_right, List.reverse_cons, List.reverse_nil, List.nil_append, List.cons_append] at hd hLL hln ⊢
    refine sd2 hLL g1 ?_
    refine gv (ct_place_Log_Spots f3 (fun x hx => by have := hok.keys x hx; omega) (by have := spots_le (List.getElem_mem hk'); omega)) ?_
    refine sd2 hLL g1 ?_
    refine q_appS (xs := (spotsM (M.take k)).map Spt.av) (tk := tk) (ys := (spotsL M[k].2).map Spt.av) (t2 := .no) (N := s.n + 4) (by simp) (by simp) (by simp; omega) (g2.set _ (by omega)) (head_map Spt.row _) (by simp) (by have := congrArg List.length hTk; simp only [List.length_append, List.length_map] at this ⊢; omega) (by have := congrArg List.length hTk; simp only [List.length_append, List.length_map] at this ⊢; omega) ?_
    intro s2 tk2 hm2 hlow hext
    have k0 : s2.get s.n = .cells [.sl ((spotsM (M.take k)).map Spt.av) tk] := by rw [hlow _ (by omega)]; simp (disch := first | omega | (simp <;> omega) | fail) [g1]
    have k1 : s2.get (s.n + 1) = .cells [.p b 0] := by rw [hlow _ (by omega)]; simp (disch := first | omega | (simp <;> omega) | fail) [b1]
    have k2 : s2.get (s.n + 2) = .defd := by rw [hlow _ (by omega)]; simp (disch := first | omega | (simp <;> omega) | fail) [hd]
    have k3 : s2.get (s.n + 2 + 1) = LB := by rw [hlow _ (by omega)]; simp (disch := first | omega | (simp <;> omega) | fail)
    have k4 : ∀ x, x < s.n → s2.get x = s.get x := fun x hx => by rw [hlow _ (by omega)]; simp (disch := first | omega | (simp <;> omega) | fail) [old x hx]
    have hn2 : s.n + 4 ≤ s2.n := by have := hext.1; simp at this; omega
    clear hext hlow
    refine sd1 k0 ?_
    refine st2 k0 k3 ?_
    refine fins_n (fun d hd => by cases hd; simp (disch := first | omega | (simp <;> omega) | fail) [k2]) (dz0) ⟨⟨tk2, dz1 hTk, ?_⟩, dz1 k1, by simpa using hn2, fun x hx => dz1 (k4 x hx)⟩
    rw [hTk]
    simpa using (hm2.set _ (by omega)).set _ (by omega)
  · rintro s' hd hln ⟨⟨tk, g1, g2⟩, b1, n, old⟩
    rw [List.take_length] at g1 g2
    simp only [hsn] at hd hln ⊢
    refine st1 g1 ?_
    refine ret_okD ?_ ?_ rfl ⟨⟨?_, fun x hx => .inl ?_⟩, AV.le_no _ _⟩
    · simp (disch := first | omega | (simp <;> omega) | fail) [hd]
    · simp
    · simp [killAll]; omega
    · simp (disch := first | omega | (simp <;> omega) | fail) [killAll, old x hx]
  · intro j s' _ _ h; exact h.elim
end Go.Proofs.Ytmpoeamfcienoaa
end
section
namespace Go.Ab
structure TakI (s : AState) (b b2 : Nat) (M : List (Int × LogV)) (F : List Nat) (s' : AState) : Prop where
  b0 : s'.get s.n = .cells [.p b 0]
  b1 : s'.get (s.n + 1) = .cells [.p b2 0]
  n : s.n + 4 ≤ s'.n
  led : ∃ F', LedAt s' b M F' ∧ Mut F F' s s' ∧ ∀ x ∈ F', x < s.n ∨ s.n + 4 ≤ x
theorem TakI.keep {s : AState} {b b2 : Nat} {M : List (Int × LogV)} {F : List Nat} {s' s2 : AState} (h : TakI s b b2 M F s') (hn : s'.n ≤ s2.n) (hk : ∀ x, x < s'.n → x ≠ s.n + 3 → s2.get x = s'.get x) : TakI s b b2 M F s2 := by
  obtain ⟨h1, h2, h4, F', h5, h6, h7⟩ := h
  have hF := h5.lt
  refine ⟨(hk _ (by omega) (by omega)).trans h1, (hk _ (by omega) (by omega)).trans h2, by omega, F', h5.keep fun x hx => hk x (hF x hx) ?_, ⟨by have := h6.n; omega, fun x hx hn => (hk x (by have := h6.n; omega) (by omega)).trans (h6.keep x hx hn), h6.own⟩, h7⟩
  have := h7 x hx; omega
theorem AV.le_tup2 {x y x' y' : AV} (h : x.le x') (k : y.le y') : (AV.tup [x, y]).le (.tup [x', y']) := fun c v r => by
  cases r with
  | tup _ vs h0 hh =>
    refine .tup _ vs h0 fun j hj => ?_
    have := hh j hj
    match j, hj with
    | 0, _ => exact h _ _ this
    | 1, _ => exact k _ _ this
theorem takeL_snoc {M O : List (Int × LogV)} {k : Nat} (h : k < O.length) : takeL M (O.take (k + 1)) = if (lk (takeL M (O.take k)) O[k].1).isSome then takeL M (O.take k) else putL (takeL M (O.take k)) O[k].1 O[k].2 := by
  have e : O.take (k + 1) = O.take k ++ [O[k]] := (List.take_append_getElem h).symm
  rw [e]; simp only [takeL, List.foldl_append]; rfl
end Go.Ab
namespace Go.Proofs.Ytmpoeamfcienoaa
open Go.Ab
set_option linter.unusedVariables false
set_option linter.unusedSimpArgs false
set_option maxRecDepth 100000
set_option maxHeartbeats 1000000
theorem ct_ledger_Ledger_Get {b : Nat} {M : List (Int × LogV)} {F : List Nat} {i : Int} {s : AState} (hL : LedAt s b M F) (hS : Small M) :
    Gives prog F_ledger_Ledger_Get [.p b 0, .v (.int .i64 i)] s (.tup [(((lk M i).map (·.g)).getD zeroG).av, .v (.bool (lk M i).isSome)]) s := by
  have hlt := hL.lt
  have hb : b < s.n := hlt b hL.mem
  obtain ⟨mb, A, B, F', rfl, e1, e2, e3, e4, e5⟩ := hL
  have hmb : mb < s.n := hlt mb (by simp)
  refine Runs.gives' (runs_e h_ledger_Ledger_Get (Nat.le_of_ble_eq_true rfl) ?_) (Flat.tup (by simp; exact ⟨(Grp.row _).flat, .v _⟩))
  refine st1 e1 ?_
  refine m_look (κ := Int) (A := A) (k := i) (b := mb) (enc := ptr) (by simp) (dz1 e2) (by simp; rfl) ?_
  cases hl : lk A i with
  | none =>
    have hlv : lkV ptr A i (.v (.pointer none)) true = .tup [.v (.pointer none), .v (.bool false)] := by unfold lkV; rw [hl]; rfl
    rw [hlv]
    have hlM : lk M i = none := (e4.no i).1 (by rw [← e3.lk]; exact hl)
    rw [hlM]
    refine st0 ?_
    refine ret_ok (by simp; rfl) ⟨?_, ?_⟩
    · exact (Grows.refl s).alloc _
    · exact AV.le_tup2 ((AV.le_strip _).trans (by simp [Grp.av, Grp.cells, zeroG]; exact .refl _)) (.refl _)
  | some lb =>
    have hlv : lkV ptr A i (.v (.pointer none)) true = .tup [.p lb 0, .v (.bool true)] := by unfold lkV; rw [hl]; rfl
    rw [hlv]
    obtain ⟨v, Fi, f1, f2, f3⟩ := e4.at (by rw [← e3.lk]; exact hl)
    rw [f1]
    refine st0 ?_
    have f4 := f2.keep (s' := s.alloc (.cells [.v (.int .i64 0), .v (.int .i64 0), .v (.int .i64 0), .v (.int .i64 0), .v (.int .i64 0), .v (.int .i64 0), .sl [] .zero])) fun x hx => get_alloc_ne (by have := hlt x (by simp [f3 x hx]); omega)
    refine gv (ct_place_Log_Group f4 (hS.es (i, v) (lk_mem f1))) ?_
    refine st0 ?_
    refine ret_ok (by simp; rfl) ⟨(Grows.refl s).alloc _, ?_⟩
    exact .refl _
theorem ct_ledger_Ledger_Dense_1 {g : Grp} {s : AState} (h : Spar g) : Gives prog F_ledger_Ledger_Dense_1 [g.av] s (.v (.bool (!dense g))) s := by
  refine Runs.gives' (runs_e h_ledger_Ledger_Dense_1 (Nat.le_of_ble_eq_true rfl) ?_) (.v _)
  repeat (first | simp -dsimp -implicitDefEqProofs (disch := first | omega | (simp <;> omega) | fail) | ((with_reducible first | apply m_1 | apply m_0); (focus ((conv => lhs; simp -dsimp -implicitDefEqProofs (disch := first | omega | (simp <;> omega) | fail)); done))) | ((with_reducible apply giv); (case hAR => ((conv => lhs; simp -dsimp -implicitDefEqProofs (disch := first | omega | (simp <;> omega) | fail)); done)); (case hCT => (first | (apply ct_sparse_Dense <;> first | assumption | omega | decide)))) | ((with_reducible first | apply i_T | apply g_T); (focus (simp -dsimp -implicitDefEqProofs (disch := first | omega | (simp <;> omega) | fail); done))) | ((with_reducible first | apply i_F | apply g_F); (focus (simp -dsimp -implicitDefEqProofs (disch := first | omega | (simp <;> omega) | fail); done))))
  exact ret_ok rfl ⟨(Grows.refl _).alloc _, .refl _⟩
theorem ct_ledger_Ledger_Dense {b : Nat} {M : List (Int × LogV)} {F : List Nat} {s : AState} (hL : LedAt s b M F) (hM : MOk M) (hS : Small M) : Gives prog F_ledger_Ledger_Dense [.p b 0] s (.v (.bool ((grpsL M).all dense))) s := by
  have hS1 := hS.len
  refine runs_e h_ledger_Ledger_Dense (Nat.le_of_ble_eq_true rfl) ?_
  refine st0 ?_
  refine gv (ct_ledger_Ledger_Groups hL hM hS) ?_
  refine st0 ?_
  refine gv (ct_slices_ContainsFunc_Group (l := grpsL M) (g := F_ledger_Ledger_Dense_1) (fs := []) (caps := []) (p := fun g => !dense g) (by simp [grpsL]; omega) (fun e he => ct_ledger_Ledger_Dense_1 (by obtain ⟨x, hx, rfl⟩ := List.mem_map.1 he; exact hM.gok x hx))) ?_
  refine st0 ?_
  refine ret_ok rfl ⟨?_, rfl⟩
  rw [List.all_eq_not_any_not]; rfl
theorem rn_ledger_Ledger_Take {b b2 : Nat} {M M2 : List (Int × LogV)} {F F2 : List Nat} {s : AState} (hL : LedAt s b M F) (hL2 : LedAt s b2 M2 F2) (hd : ∀ x ∈ F2, x ∉ F) (hM2 : MOk M2) (hS2 : M2.length ≤ 1000000) :
    Runs (compCode prog) prog F_ledger_Ledger_Take [.p b 0, .p b2 0] s (fun _ s' => ∃ F', LedAt s' b (takeL M M2) F' ∧ Mut F F' s s') := by
  have hlt := hL.lt
  have hlt2 := hL2.lt
  have hb : b < s.n := hlt b hL.mem
  have hb2 : b2 < s.n := hlt2 b2 hL2.mem
  have hL2' := hL2
  obtain ⟨mb2, A2, B2, F2', rfl, d1, d2, d3, d4, d5⟩ := hL2
  have hmb2 : mb2 < s.n := hlt2 mb2 (by simp)
  have hlB := d4.len
  have hsn : ((s.alloc (.cells [.p b 0])).alloc (.cells [.p b2 0])).n = s.n + 2 := by simp
  refine runs_e h_ledger_Ledger_Take (Nat.le_of_ble_eq_true rfl) ?_
  refine st0 ?_
  refine gv (ct_ledger_Ledger_logs (b := b2)) ?_
  refine st0 ?_
  have hit := it_ledger_Ledger_logs (cb := s.n + 1) (b := b2) (mb := mb2) d3 (d4.pre hM2) (by omega)
  refine w_rangeS (m := M2.length) (by simp) hit (by intro x hx; obtain ⟨p, _, rfl⟩ := List.mem_map.1 hx; rfl) (by simp [pairA, hlB]) (fun k s' => TakI s b b2 (takeL M (M2.take k)) F s') (fun _ _ => False) ?_ ?_ ?_ ?_ ?_ ?_ ?_
  · intro LR
    refine ⟨dz0, dz0, by simp, F, hL.keep fun x hx => by have := hlt x hx; simp (disch := first | omega | (simp <;> omega) | fail), .grows ?_, fun x hx => .inl (hlt x hx)⟩
    exact ((((Grows.refl s).alloc _).alloc _).alloc _).alloc _
  · rintro k s' ⟨h1, h2, h4, F', h5, h6, h7⟩; exact ⟨h2, (h6.keep b2 hb2 (hd b2 (by simp))).trans d1, (h6.keep mb2 hmb2 (hd mb2 (by simp))).trans d2⟩
  · intro k s' o hn h
    exact h.keep (by simp) fun x hx _ => get_alloc_ne (by omega)
  · intro j s' o hn h; exact h
  · intro LR LB LJ hLB hLR k hk s' hdd hLL hln hI
    have hkB : k < B2.length := by simpa [pairA] using hk
    have hk' : k < M2.length := by omega
    rw [takeL_snoc hk']
    obtain ⟨hk1, Fi, f1, f2⟩ := d4.nth hkB hk'
    generalize takeL M (M2.take k) = M1 at hI ⊢
    simp only [hsn, pairA, List.getElem_map, List.zip_cons_cons, List.zip_nil_right, List.reverse_cons, List.reverse_nil, List.nil_append, List.cons_append] at hdd hLL hln ⊢
    rw [hk1]
    generalize hx : M2[k].1 = i at hk1 ⊢
    generalize hy : M2[k].2 = v at f1 ⊢
    generalize B2[k].2 = lb2 at f1 ⊢
    have f3 : LogAt (s'.set (s.n + 2 + 1) LB) lb2 v Fi := f1.keep fun x hx => by
      have := hlt2 x (by simp [f2 x hx])
      obtain ⟨h1, h2, h4, F', h5, h6, h7⟩ := hI
      simp (disch := first | omega | (simp <;> omega) | fail) [h6.keep x this (hd x (by simp [f2 x hx]))]
    have hI2 : TakI s b b2 M1 F (s'.set (s.n + 2 + 1) LB) := hI.keep (by simp) fun x hx hn => dz1 hn
    obtain ⟨h1, h2, h4, F', h5, h6, h7⟩ := hI2
    have k2 : (s'.set (s.n + 2 + 1) LB).get (s.n + 2 + 1) = LB := dz0
    have k4 : (s'.set (s.n + 2 + 1) LB).get (s.n + 2) = .defd := dz1 hdd
    have h5' := h5
    have hF1 := h5.lt
    obtain ⟨mb, A, B, G, rfl, e1, e2, e3, e4, e5⟩ := h5
    have e1s : s'.get b = .cells [.m mb] := by rw [← e1, AState.get_set_ne _ _ (by have := h6.own b (by simp); omega)]
    have h1s := hI.b0
    refine st3 hLL h1s e1s ?_
    clear h1s e1s hI hLL hdd hln
    generalize s'.set (s.n + 2 + 1) LB = s1 at k2 k4 f3 h1 h2 h4 h5' h6 hF1 e1 e2 e4 ⊢
    have hb1 : b < s1.n := hF1 b (by simp)
    have hmb1 : mb < s1.n := hF1 mb (by simp)
    have hmbG : mb ∉ G := (List.nodup_cons.1 (List.nodup_cons.1 e5).2).1
    have hbG : b ∉ G := fun h => (List.nodup_cons.1 e5).1 (by simp [h])
    have hbmb : b ≠ mb := fun e => (List.nodup_cons.1 e5).1 (by simp [e])
    have hGn : G.Nodup := (List.nodup_cons.1 (List.nodup_cons.1 e5).2).2
    have hSM : Srt M1 := h5'.srt
    have close : ∀ M3 s2, s2.get (s.n + 2) = .defd → TakI s b b2 M3 F s2 → Lfi (FinS (some (s.n + 2)) (s.n + 2 + 1) LR LJ (TakI s b b2 M3 F) fun _ _ => False) none (s2.set (s.n + 2 + 1) LR) .a := fun M3 s2 g1 g2 => by
      have := g2.n
      exact fins_n (fun d hd => by cases hd; simp (disch := first | omega | (simp <;> omega) | fail) [g1]) (dz0) (g2.keep (by simp) fun x hx hn => dz1 hn)
    have hlk : (lk M1 i).isSome = (lk A i).isSome := by
      have := e4.no i
      rw [← e3.lk] at this
      cases h1 : lk A i <;> cases h2 : lk M1 i <;> simp_all
    rw [hlk]
    refine m_look (κ := Int) (A := A) (k := i) (b := mb) (enc := ptr) (by simp) e2 (by simp; rfl) ?_
    cases hl : lk A i with
    | some lb =>
      have hlv : lkV ptr A i (.v (.pointer none)) false = .p lb 0 := by unfold lkV; rw [hl]; rfl
      rw [hlv]
      refine st1 k2 ?_
      exact close _ s1 k4 ⟨h1, h2, h4, _, h5', h6, h7⟩
    | none =>
      have hlv : lkV ptr A i (.v (.pointer none)) false = .v (.pointer none) := by unfold lkV; rw [hl]; rfl
      rw [hlv]
      refine sd2 h1 e1 ?_
      refine run (rn_place_Log_Copy f3) (by simp) ?_
      rintro _ s2 ⟨lb, Fi', rfl, g1, g2, g3⟩
      refine ⟨m_ext g2.ext, ?_⟩
      refine sd0 ?_
      have gn := g2.n
      have gk := fun x (h : x < s1.n) => g2.get h
      refine q_mset (κ := Int) (A := A) (k := i) (v := lb) (b := mb) (enc := ptr) (by simp) ((gk mb hmb1).trans e2) (by simp; rfl) (by simp [ptr]) ?_
      obtain ⟨G2, r1, r2, r3⟩ := e4.add (i := i) g1 (.new g2 g3) hGn (by rw [← e3.lk]; exact hl)
      have hg2 : ∀ x ∈ G2, x ∉ [b, mb] := fun x hx hm => r2.apart (G := [b, mb]) (by simp [hbG, hmbG]) (by simp [hb1, hmb1]) x hm hx
      have r4 : LogsAt (s2.set mb (.map (encM ptr (setM A i lb)))) (putL B i lb) (putL M1 i v) G2 := r1.keep fun x hx => AState.get_set_ne _ _ (fun e => hg2 x hx (by simp [e]))
      have j2 : (s2.set mb (.map (encM ptr (setM A i lb)))).get (s.n + 2 + 1) = LB := by
        have := h7 mb (by simp)
        simp (disch := first | omega | (simp <;> omega) | fail) [gk, k2]
      refine sd0 ?_
      refine st1 j2 ?_
      have hmb2 := h7 mb (by simp)
      have m9 : ∀ x, x < s1.n → x ≠ mb → (s2.set mb (.map (encM ptr (setM A i lb)))).get x = s1.get x := fun x hx hn => by rw [AState.get_set_ne _ _ hn]; exact gk x hx
      have m6 : (s2.set mb (.map (encM ptr (setM A i lb)))).get mb = .map (encM ptr (setM A i lb)) := dz0
      have m10 : (s2.set mb (.map (encM ptr (setM A i lb)))).n = s2.n := rfl
      generalize s2.set mb (.map (encM ptr (setM A i lb))) = s3 at m6 m9 m10 r4 j2 ⊢
      refine close _ s3 ((m9 _ (by omega) (by omega)).trans k4) ?_
      have q5 : Mut (b :: mb :: G) (b :: mb :: G2) s1 s3 := by
        refine ⟨by omega, fun x hx hn => m9 x hx (fun e => hn (by simp [e])), fun x hx => ?_⟩
        rcases List.mem_cons.1 hx with rfl | hx
        · exact .inl (by simp)
        rcases List.mem_cons.1 hx with rfl | hx
        · exact .inl (by simp)
        rcases r2.own x hx with h8 | h8
        · exact .inl (by simp [h8])
        · exact .inr h8
      refine ⟨(m9 _ (by omega) (by omega)).trans h1, (m9 _ (by omega) (by omega)).trans h2, by omega, b :: mb :: G2, ⟨mb, _, _, G2, rfl, (m9 _ hb1 hbmb).trans e1, m6, e3.set i lb, r4, ?_⟩, h6.trans q5, fun x hx => ?_⟩
      · rw [List.nodup_cons, List.nodup_cons]
        exact ⟨by simp [hbmb]; exact fun h => hg2 b h (by simp), fun h => hg2 mb h (by simp), r3⟩
      · rcases q5.own x hx with h8 | h8
        · exact h7 x h8
        · exact .inr (by omega)
  · rintro s' hdd hln hI
    rw [List.take_length] at hI
    simp only [hsn] at hdd hln ⊢
    refine st0 ?_
    refine end_okD ?_ ?_ rfl ?_
    · simp (disch := first | omega | (simp <;> omega) | fail) [hdd]
    · simp
    obtain ⟨h1, h2, h4, F', h5, h6, h7⟩ := hI
    have hF := h5.lt
    have hk : ∀ x, x < s'.n → (x < s.n ∨ s.n + 4 ≤ x) → (killAll [s.n + 2] (s'.set (s.n + 2 + 1) .dead)).get x = s'.get x := fun x hx h8 => by
      simp only [killAll, List.foldl]
      rw [AState.get_set_ne _ _ (by omega), AState.get_set_ne _ _ (by omega)]
    exact ⟨F', h5.keep fun x hx => hk x (hF x hx) (h7 x hx), ⟨by simpa [killAll] using h6.n, fun x hx hn => (hk x (by have := h6.n; omega) (.inl hx)).trans (h6.keep x hx hn), h6.own⟩⟩
  · intro j s' _ _ h; exact h.elim
end Go.Proofs.Ytmpoeamfcienoaa
end
section
namespace Go.Ab
theorem srt_snoc {β : Type} {A : List (Int × β)} {i : Int} {v : β} (h : ∀ x ∈ A, x.1 < i) : putL A i v = A ++ [(i, v)] := by
  induction A with
  | nil => rfl
  | cons x A ih =>
    have hx := h x (by simp)
    rw [putL, if_neg (by show ¬ i < x.1; omega), if_neg (by omega), ih (fun y hy => h y (by simp [hy]))]; rfl
theorem takeL_nil {M : List (Int × LogV)} (hS : Srt M) : takeL [] M = M := by
  have h : ∀ k, k ≤ M.length → takeL [] (M.take k) = M.take k := by
    intro k
    induction k with
    | zero => intro _; simp [takeL]
    | succ k ih =>
      intro hk
      have hk' : k < M.length := hk
      rw [takeL_snoc hk', ih (by omega)]
      have hlt : ∀ x ∈ M.take k, x.1 < M[k].1 := fun x hx => by
        obtain ⟨j, hj, rfl⟩ := List.getElem_of_mem hx
        simp only [List.length_take] at hj
        rw [List.getElem_take]
        exact List.pairwise_iff_getElem.1 hS j k (by omega) hk' (by omega)
      rw [if_neg, srt_snoc hlt]
      · exact List.take_append_getElem hk'
      · have : lk (M.take k) M[k].1 = none := lk_none1.2 fun x hx e => by have := hlt x hx; omega
        rw [this]; simp
  have := h M.length (Nat.le_refl _)
  simpa using this
end Go.Ab
namespace Go.Proofs.Ytmpoeamfcienoaa
open Go.Ab
set_option linter.unusedVariables false
set_option linter.unusedSimpArgs false
set_option maxRecDepth 100000
set_option maxHeartbeats 1000000
theorem rn_ledger_Ledger_Copy {b : Nat} {M : List (Int × LogV)} {F : List Nat} {s : AState} (hL : LedAt s b M F) (hM : MOk M) (hS : M.length ≤ 1000000) :
    Runs (compCode prog) prog F_ledger_Ledger_Copy [.p b 0] s (fun x s' => ∃ b' F', x = .p b' 0 ∧ LedAt s' b' M F' ∧ Mut [] F' s s') := by
  have hlt := hL.lt
  refine runs_e h_ledger_Ledger_Copy (Nat.le_of_ble_eq_true rfl) ?_
  refine st0 ?_
  refine rn0 (rn_ledger_New) ?_
  rintro _ s1 ⟨b1, F1, rfl, h1, h2, h3⟩
  refine st0 ?_
  refine run (rn_ledger_Ledger_Take h1 (hL.keep fun x hx => h2.get (hlt x hx)) (fun x hx hx' => by have := hlt x hx; have := h3 x hx'; omega) hM hS) (by simp) ?_
  rintro _ s2 ⟨F2, k1, k2⟩
  rw [takeL_nil hL.srt] at k1
  refine st0 ?_
  exact ret_ok rfl ⟨b1, F2, rfl, k1, (Mut.new h2 h3).trans k2⟩
theorem ct_ledger_Same {b b2 : Nat} {M M2 : List (Int × LogV)} {F F2 : List Nat} {s : AState} (hL : LedAt s b M F) (hL2 : LedAt s b2 M2 F2) (hM : MOk M) (hM2 : MOk M2) (hS : Small M) (hS2 : Small M2) :
    Gives prog F_ledger_Same [.p b 0, .p b2 0] s (.v (.bool (decide (grpsL M = grpsL M2) && decide (spotsM M = spotsM M2)))) s := by
  have z1 := hS.len
  have z2 := hS.sp
  refine runs_e h_ledger_Same (Nat.le_of_ble_eq_true rfl) ?_
  refine st0 ?_
  refine gv (ct_ledger_Ledger_Groups hL hM hS) ?_
  refine st0 ?_
  refine gv (ct_ledger_Ledger_Groups hL2 hM2 hS2) ?_
  refine st0 ?_
  refine gv (ct_slices_EqualFunc_Group (l := grpsL M) (m := grpsL M2) (by simp [grpsL]; omega) (fun g hg => by obtain ⟨x, hx, rfl⟩ := List.mem_map.1 hg; have := (hM.gok x hx).len; have := MI_eq; omega)) ?_
  by_cases h : grpsL M = grpsL M2
  · refine st1 h ?_
    refine gv (ct_ledger_Ledger_Spots hL hM hS) ?_
    refine st0 ?_
    refine gv (ct_ledger_Ledger_Spots hL2 hM2 hS2) ?_
    refine st0 ?_
    refine gv (ct_slices_Equal_Spot (l := spotsM M) (m := spotsM M2) (by omega)) ?_
    refine st1 h ?_
    exact ret_ok rfl ⟨by simp [retVal, h], rfl⟩
  · refine st1 h ?_
    exact ret_ok rfl ⟨by simp [retVal, h], rfl⟩
end Go.Proofs.Ytmpoeamfcienoaa
end
section
namespace Go.Ab
theorem layS_len (S : List Spt) (x : Spt) : (layS S x).length ≤ S.length + 1 := by
  have h := insRun_len (fun y : Spt => !lessS y x) (fun y : Spt => !decide (y.gr = x.gr) || !decide (y.ix = x.ix)) x S S.length
  rw [List.take_length] at h
  unfold layS insL insEnd
  split
  · exact h.1
  · next hn => have := h.2 (by simpa using hn); simp; omega
end Go.Ab
end
section
namespace Go.Ab
def refL (at_ : Plc) (x : List Grp × List Spt) (l : List Prt) : List Grp × List Spt := l.foldl (refP at_) x
def wtL (l : List Prt) : Nat := (l.map fun p => p.es.length + 2).sum
theorem withS_len (l : List Grp) (g : Grp) : (withS l g).length ≤ l.length + 1 := by
  have h := insRun_len (fun x : Grp => decide (g.id ≤ x.id)) (fun x : Grp => !decide (x.id = g.id)) g l l.length
  rw [List.take_length] at h
  unfold withS insL insEnd
  split
  · exact h.1
  · next hn => have := h.2 (by simpa using hn); simp; omega
theorem ins_mem {α : Type} (le ne : α → Bool) (g : α) {l : List α} {x : α} (h : x ∈ insL le ne g l) : x = g ∨ x ∈ l := by
  rw [ins_eq] at h
  induction l with
  | nil => simp [insR] at h; exact .inl h
  | cons y l ih =>
    unfold insR at h
    split at h
    · rcases List.mem_cons.1 h with rfl | h
      · exact .inl rfl
      · exact .inr (List.mem_filter.1 h).1
    split at h
    · rcases List.mem_cons.1 h with rfl | h
      · exact .inr (by simp)
      · exact (ih h).imp id (by intro h; simp [h])
    · exact (ih h).imp id (by intro h; simp [h])
theorem refS_len (at_ : Plc) (p : Prt) (was now : Grp) (S : List Spt) : (refS at_ p was now S).length ≤ S.length + (p.es.length + 2) := by
  have h1 : (S.filter (keepS p.gr now true)).length ≤ S.length := List.length_filter_le ..
  have h2 : ∀ (es : List Ent) (S : List Spt), (es.foldl (fun S e => if lhas now e = true then layS S ⟨p.gr, e.ix, at_.sg, at_.at_⟩ else S) S).length ≤ S.length + es.length := by
    intro es
    induction es with
    | nil => intro S; simp
    | cons e es ih =>
      intro S
      rw [List.foldl_cons]
      refine Nat.le_trans (ih _) ?_
      have := layS_len S ⟨p.gr, e.ix, at_.sg, at_.at_⟩
      split <;> simp <;> omega
  have h3 := h2 p.es (S.filter (keepS p.gr now true))
  unfold refS
  simp only
  generalize p.es.foldl (fun S e => if lhas now e = true then layS S ⟨p.gr, e.ix, at_.sg, at_.at_⟩ else S) (S.filter (keepS p.gr now true)) = S2 at h3 ⊢
  have h4 := layS_len S2 ⟨p.gr, -1, at_.sg, at_.at_⟩
  have h5 := layS_len S2 ⟨p.gr, 0, at_.sg, at_.at_⟩
  have h6 := layS_len (layS S2 ⟨p.gr, -1, at_.sg, at_.at_⟩) ⟨p.gr, 0, at_.sg, at_.at_⟩
  split <;> split <;> omega
theorem getG_spar {L : List Grp} (hL : ∀ g ∈ L, Spar g) {p : Prt} (hp : isPart p = true) : Spar ((getG L p.gr).getD (newG p.gr)) := by
  have hpg : 0 ≤ p.gr ∧ p.gr ≤ 999 := by simp only [isPart, Bool.and_eq_true] at hp; simpa [btw] using hp.1.1
  cases h : getG L p.gr with
  | none => exact newG_spar hpg
  | some g => exact hL g (List.mem_of_find?_eq_some h)
theorem refP_ok (at_ : Plc) (x : List Grp × List Spt) (p : Prt) (h : ∀ g ∈ x.1, Spar g) : (∀ g ∈ (refP at_ x p).1, Spar g) ∧ (refP at_ x p).1.length ≤ x.1.length + 1 ∧ (refP at_ x p).2.length ≤ x.2.length + (p.es.length + 2) := by
  unfold refP
  split
  · next hp =>
    split
    · exact ⟨fun g hg => h g (List.mem_filter.1 hg).1, Nat.le_succ_of_le (List.length_filter_le ..), Nat.le_trans (List.length_filter_le ..) (by omega)⟩
    · refine ⟨fun g hg => ?_, withS_len _ _, refS_len _ _ _ _ _⟩
      rcases ins_mem _ _ _ hg with rfl | hg
      · exact (getG_spar h hp).doS p
      · exact h g hg
  · exact ⟨h, by omega, by omega⟩
end Go.Ab
end
section
namespace Go.Ab
set_option linter.unusedVariables false
set_option linter.unusedSimpArgs false
theorem ins_put {α β κ : Type} [DecidableEq κ] [Key κ] (key : α → κ) (val : α → β) (le ne : α → Bool) (g : α) (hle : ∀ x, le x = !decide (Key.lt (key x) (key g))) (hne : ∀ x, ne x = !decide (key x = key g)) :
    ∀ {l : List α}, Srt (l.map fun x => (key x, val x)) → (insL le ne g l).map (fun x => (key x, val x)) = putL (l.map fun x => (key x, val x)) (key g) (val g) := by
  intro l h
  rw [ins_eq]
  induction l with
  | nil => rfl
  | cons x l ih =>
    rw [List.map_cons] at h
    obtain ⟨h1, h2⟩ := List.pairwise_cons.1 h
    unfold insR
    rw [hle, hne, List.map_cons, putL]
    by_cases a : Key.lt (key x) (key g)
    · rw [if_neg (by simp [a]), if_pos (by simp [Key.ne a]), if_neg (Key.asymm a), if_neg (Key.ne a).symm, List.map_cons, ih h2]
    · rw [if_pos (by simp [a])]
      have hrest : ∀ y ∈ l, Key.lt (key x) (key y) := fun y hy => h1 _ (List.mem_map_of_mem hy)
      by_cases b : key x = key g
      · rw [if_neg (by rw [b]; exact Key.irrefl _), if_pos b.symm]
        rw [List.filter_cons_of_neg (by rw [hne]; simp [b])]
        have : l.filter ne = l := List.filter_eq_self.2 fun y hy => by rw [hne]; have := Key.ne (hrest y hy); rw [b] at this; simp [Ne.symm this]
        rw [this, List.map_cons]
      · have hlt : Key.lt (key g) (key x) := Key.tri a b
        rw [if_pos hlt]
        have : (x :: l).filter ne = x :: l := List.filter_eq_self.2 fun y hy => by
          rw [hne]
          rcases List.mem_cons.1 hy with rfl | hy
          · simp [b]
          · have := Key.ne (Key.trans hlt (hrest y hy)); simp [Ne.symm this]
        rw [this, List.map_cons, List.map_cons]
def spK (s : Spt) : (Int × Int) × Plc := ((s.gr, s.ix), ⟨s.sg, s.at_⟩)
def ofK (x : (Int × Int) × Plc) : Spt := ⟨x.1.1, x.1.2, x.2.sg, x.2.at_⟩
def kv (S : List Spt) : List ((Int × Int) × Plc) := S.map spK
theorem ofK_kv (S : List Spt) : (kv S).map ofK = S := by
  unfold kv; rw [List.map_map]
  have : ofK ∘ spK = id := rfl
  rw [this, List.map_id]
theorem kv_inj {a b : List Spt} (h : kv a = kv b) : a = b := by rw [← ofK_kv a, h, ofK_kv]
theorem kv_lay {S : List Spt} {x : Spt} (h : Srt (kv S)) : kv (layS S x) = putL (kv S) (x.gr, x.ix) ⟨x.sg, x.at_⟩ := by
  refine ins_put (fun s : Spt => (s.gr, s.ix)) (fun s => (⟨s.sg, s.at_⟩ : Plc)) _ _ x (fun y => ?_) (fun y => ?_) h
  · have : decide (Key.lt (y.gr, y.ix) (x.gr, x.ix)) = lessS y x := by
      unfold lessS
      have e : Key.lt (y.gr, y.ix) (x.gr, x.ix) ↔ y.gr < x.gr ∨ y.gr = x.gr ∧ y.ix < x.ix := Iff.rfl
      have e3 : decide (Key.lt (y.gr, y.ix) (x.gr, x.ix)) = decide (y.gr < x.gr ∨ y.gr = x.gr ∧ y.ix < x.ix) := decide_eq_decide.2 e
      rw [e3]
      by_cases h1 : y.gr < x.gr <;> by_cases h2 : y.gr = x.gr <;> by_cases h3 : y.ix < x.ix <;> simp [h1, h2, h3]
    rw [this]
  · by_cases h1 : y.gr = x.gr <;> by_cases h2 : y.ix = x.ix <;> simp [h1, h2]
def keepK (id : Int) (x : Grp) (there : Bool) (k : Int × Int) : Bool := !decide (k.1 = id) || there && (decide (k.2 ≤ 0) || hasIx x.es k.2)
theorem kv_keep (id : Int) (x : Grp) (th : Bool) (S : List Spt) : kv (S.filter (keepS id x th)) = (kv S).filter fun y => keepK id x th y.1 := by
  unfold kv
  rw [List.filter_map]
  rfl
theorem lk_spots {M : List (Int × LogV)} (hM : MOk M) (g i : Int) : lk (kv (spotsM M)) (g, i) = (lk M g).bind fun v => lk v.sp i := by
  induction M with
  | nil => rfl
  | cons x M ih =>
    obtain ⟨h1, h2⟩ := hM
    obtain ⟨h3, h4⟩ := List.pairwise_cons.1 h1
    have ih := ih ⟨h4, fun y hy => h2 y (by simp [hy])⟩
    have hid := (h2 x (by simp)).id
    have e : kv (spotsM (x :: M)) = (x.2.sp.map fun y => ((x.1, y.1), y.2)) ++ kv (spotsM M) := by
      simp only [kv, spotsM, List.flatMap_cons, List.map_append, List.map_map]
      congr 1
      apply List.map_congr_left
      intro y _
      simp [spK, hid]
    rw [e, lk_append, ih, lk_cons]
    have e2 : ∀ (sp : List (Int × Plc)), lk (sp.map fun y => ((x.1, y.1), y.2)) (g, i) = if g = x.1 then lk sp i else none := by
      intro sp
      induction sp with
      | nil => simp
      | cons y sp ih2 =>
        rw [List.map_cons, lk_cons, ih2, lk_cons]
        by_cases a : g = x.1 <;> by_cases b : i = y.1 <;> simp [a, b]
    rw [e2]
    by_cases a : g = x.1
    · rw [if_pos a, if_pos a]
      have : lk M g = none := lk_none1.2 fun y hy e => by have := h3 y hy; rw [e, a] at this; exact Key.irrefl _ this
      rw [this]; simp
    · rw [if_neg a, if_neg a]; rfl
theorem spots_srt {M : List (Int × LogV)} (hM : MOk M) : Srt (kv (spotsM M)) := by
  induction M with
  | nil => exact List.Pairwise.nil
  | cons x M ih =>
    obtain ⟨h1, h2⟩ := hM
    obtain ⟨h3, h4⟩ := List.pairwise_cons.1 h1
    have ih := ih ⟨h4, fun y hy => h2 y (by simp [hy])⟩
    have hx := h2 x (by simp)
    simp only [kv, spotsM, List.flatMap_cons, List.map_append] at ih ⊢
    refine List.pairwise_append.2 ⟨?_, ih, ?_⟩
    · rw [List.pairwise_map, List.pairwise_map]
      exact hx.srt.imp fun h => .inr ⟨rfl, h⟩
    · intro a ha b hb
      obtain ⟨a1, ha1, rfl⟩ := List.mem_map.1 ha
      obtain ⟨a2, ha2, rfl⟩ := List.mem_map.1 ha1
      obtain ⟨b1, hb1, rfl⟩ := List.mem_map.1 hb
      obtain ⟨b2, hb2, hb3⟩ := List.mem_flatMap.1 hb1
      obtain ⟨b3, hb4, rfl⟩ := List.mem_map.1 hb3
      refine .inl ?_
      show x.2.g.id < b2.2.g.id
      rw [hx.id, (h2 b2 (by simp [hb2])).id]
      exact h3 b2 hb2
def kvG (L : List Grp) : List (Int × Grp) := L.map fun g => (g.id, g)
theorem kvG_inj {a b : List Grp} (h : kvG a = kvG b) : a = b := by
  have e : ∀ L, (kvG L).map (·.2) = L := fun L => by unfold kvG; rw [List.map_map]; exact List.map_id _
  rw [← e a, h, e]
theorem kvG_M {M : List (Int × LogV)} (hM : ∀ x ∈ M, x.2.g.id = x.1) : kvG (grpsL M) = M.map fun x => (x.1, x.2.g) := by
  unfold kvG grpsL
  rw [List.map_map]
  exact List.map_congr_left fun x hx => by simp [hM x hx]
theorem getG_lk (L : List Grp) (i : Int) : getG L i = lk (kvG L) i := by
  induction L with
  | nil => rfl
  | cons g L ih =>
    show (g :: L).find? (fun g => decide (g.id = i)) = lk ((g.id, g) :: kvG L) i
    rw [lk_cons, List.find?_cons, ← ih]
    by_cases h : g.id = i
    · simp [h]
    · have : ¬ i = g.id := fun e => h e.symm
      simp [h, this, getG]
theorem getG_M {M : List (Int × LogV)} (hM : ∀ x ∈ M, x.2.g.id = x.1) (i : Int) : getG (grpsL M) i = (lk M i).map (·.g) := by
  rw [getG_lk, kvG_M hM, lk_map (fun v : LogV => v.g)]
theorem put_ids {M : List (Int × LogV)} (hM : ∀ x ∈ M, x.2.g.id = x.1) {i : Int} {v : LogV} (hv : v.g.id = i) : ∀ x ∈ putL M i v, x.2.g.id = x.1 := fun x hx => by
  rcases put_mem hx with rfl | hx
  · exact hv
  · exact hM x hx
theorem with_M {M : List (Int × LogV)} (hS : Srt M) (hM : ∀ x ∈ M, x.2.g.id = x.1) {v : LogV} : withS (grpsL M) v.g = grpsL (putL M v.g.id v) := by
  apply kvG_inj
  have hS1 : Srt (kvG (grpsL M)) := by rw [kvG_M hM]; exact hS.map fun v => v.g
  have e1 : kvG (withS (grpsL M) v.g) = putL (kvG (grpsL M)) v.g.id v.g := by
    refine ins_put (fun g : Grp => g.id) (fun g => g) _ _ v.g (fun y => ?_) (fun y => rfl) hS1
    have : Key.lt y.id v.g.id ↔ y.id < v.g.id := Iff.rfl
    by_cases h : y.id < v.g.id
    · simp [this, h]
    · simp [this, h]; omega
  rw [e1, kvG_M (put_ids hM rfl)]
  refine Srt.ext (hS1.put _ _) ((hS.put _ _).map fun v => v.g) fun k => ?_
  rw [lk_put, lk_map (fun v : LogV => v.g), lk_put, kvG_M hM, lk_map (fun v : LogV => v.g)]
  split <;> rfl
theorem del_M {M : List (Int × LogV)} (hM : ∀ x ∈ M, x.2.g.id = x.1) (i : Int) : (grpsL M).filter (fun g => !decide (g.id = i)) = grpsL (delL M i) := by
  unfold grpsL delL
  rw [List.filter_map]
  congr 1
  exact List.filter_congr fun x hx => by simp [hM x hx]
end Go.Ab
end
section
namespace Go.Ab
set_option linter.unusedVariables false
set_option linter.unusedSimpArgs false
theorem part_core {p : Prt} (h : isPart p = true) : p = core p := by
  simp only [isPart, Bool.and_eq_true, decide_eq_true_eq] at h; exact h.1.2
theorem part_es {p : Prt} (h : isPart p = true) (h1 : p.kd ≠ 1) (h6 : p.kd ≠ 6) : p.es = [] := by
  have e := congrArg Prt.es (part_core h)
  unfold core at e
  simp only at e
  rw [if_neg h1] at e
  split at e
  · exact e
  split at e
  · exact e
  first | exact e | (split at e <;> first | exact e | exact absurd ‹_› h6)
theorem part_mr {p : Prt} (h : isPart p = true) (h6 : p.kd ≠ 6) : p.mr = false := by
  have e := congrArg Prt.mr (part_core h)
  unfold core at e
  simp only at e
  split at e
  · exact e
  split at e
  · exact e
  split at e
  · exact e
  first | exact e | (split at e <;> first | exact e | exact absurd ‹_› h6)
theorem part_gr {p : Prt} (h : isPart p = true) : 0 ≤ p.gr ∧ p.gr ≤ 999 := by
  simp only [isPart, Bool.and_eq_true] at h; simpa [btw] using h.1.1
theorem marks_ref {p : Prt} (h : isPart p = true) (was now : Grp) : refMark p was now = marksS p was now := by
  unfold refMark marksS
  by_cases h3 : p.kd = 3 ∨ p.kd = 4
  · rw [if_pos h3]
    have h6 : p.kd ≠ 6 := by omega
    rw [part_mr h h6]
    have : (decide (p.kd = 3) || decide (p.kd = 4)) = true := by simpa using h3
    rw [this]; simp
  · rw [if_neg h3]
    have : (decide (p.kd = 3) || decide (p.kd = 4)) = false := by simpa using h3
    rw [this]
    by_cases h6 : p.kd = 6
    · rw [if_pos h6]
      have e1 : decide (now.fi - 1 = p.ix) = decide (p.ix = now.fi - 1) := decide_eq_decide.2 ⟨Eq.symm, Eq.symm⟩
      have e2 : decide (now.tm = p.tm) = decide (p.tm = now.tm) := decide_eq_decide.2 ⟨Eq.symm, Eq.symm⟩
      rw [e1, e2]; simp
    · rw [if_neg h6, part_mr h h6]; simp
theorem put_sub {g : Grp} {e x : Ent} (h : x ∈ (putS g e).es) : x ∈ g.es ∨ x = e := by
  unfold putS at h
  split at h
  · exact .inl h
  · simp only [List.mem_append, List.mem_cons, List.mem_filter] at h
    rcases h with h | h | h
    · exact .inl h.1
    · exact .inr h
    · exact .inl h.1
theorem puts_sub {l : List Ent} {g : Grp} {x : Ent} (h : x ∈ (l.foldl putS g).es) : x ∈ g.es ∨ x ∈ l := by
  induction l generalizing g with
  | nil => exact .inl h
  | cons e l ih =>
    rcases ih h with h | h
    · rcases put_sub h with h | h
      · exact .inl h
      · exact .inr (by simp [h])
    · exact .inr (by simp [h])
theorem gone_sub {g : Grp} {i t : Int} {x : Ent} (h : x ∈ (goneS g i t).es) : x ∈ g.es := by
  unfold goneS at h
  split at h
  · exact h
  · exact (List.mem_filter.1 h).1
theorem doS_sub {g : Grp} {p : Prt} {x : Ent} (h : x ∈ (doS g p).es) : x ∈ g.es ∨ x ∈ p.es := by
  unfold doS at h
  split at h
  · split at h
    · simp only [List.mem_append, List.mem_filter] at h
      exact h.imp And.left And.left
    split at h
    · exact .inl h
    split at h
    · exact .inl (gone_sub h)
    split at h
    · have := gone_sub h
      split at this
      · cases this
      · exact .inl this
    split at h
    · unfold fwdS at h
      simp only at h
      rcases puts_sub h with h | h
      · left
        split at h <;> split at h <;> first | exact gone_sub h | exact h
      · exact .inr h
    · exact .inl h
  · exact .inl h
theorem doS_id (g : Grp) (p : Prt) : (doS g p).id = g.id := by
  have h1 : ∀ (g : Grp) i t, (goneS g i t).id = g.id := fun g i t => by unfold goneS; split <;> rfl
  have h2 : ∀ (l : List Ent) (g : Grp), (l.foldl putS g).id = g.id := fun l => by
    induction l with
    | nil => intro g; rfl
    | cons e l ih => intro g; rw [List.foldl_cons, ih]; unfold putS; split <;> rfl
  unfold doS
  split
  · split
    · rfl
    split
    · rfl
    split
    · exact h1 _ _ _
    split
    · rw [h1]; split <;> rfl
    split
    · unfold fwdS; rw [h2]; split <;> split <;> first | rfl | exact h1 _ _ _
    · rfl
  · rfl
section
variable {look : Int → Option Plc} {p : Prt} {at_ : Plc}
theorem lk_nx0 (k : Int) (c : List (Int × Plc)) (i : Int) : lk (nx0 putL look k c) i = if i = k then (match look k with | some x => some x | none => lk c i) else lk c i := by
  unfold nx0
  cases look k with
  | none => simp
  | some x => simp [lk_put]
theorem lk_nx1s : ∀ {es : List Ent} (c : List (Int × Plc)) (i : Int), (es.Pairwise fun a b => a.ix < b.ix) →
    lk (es.foldl (nx1 putL look p at_) c) i = match es.find? (fun e => decide (e.ix = i)) with | some e => some (if broughtS p e = true then at_ else (look i).getD ⟨0, 0⟩) | none => lk c i
  | [], c, i, _ => rfl
  | e :: es, c, i, h => by
    obtain ⟨h1, h2⟩ := List.pairwise_cons.1 h
    rw [List.foldl_cons, lk_nx1s _ _ h2, List.find?_cons]
    have hc : lk (nx1 putL look p at_ c e) i = if i = e.ix then some (if broughtS p e = true then at_ else (look e.ix).getD ⟨0, 0⟩) else lk c i := by
      unfold nx1
      split
      · rw [lk_put, lk_put]; by_cases a : i = e.ix <;> simp [a]
      · rw [lk_put]
    by_cases a : e.ix = i
    · have : es.find? (fun e => decide (e.ix = i)) = none := List.find?_eq_none.2 fun x hx => by have := h1 x hx; simp; omega
      rw [this]
      simp only [hc, a]
      simp [a]
    · have : ¬ i = e.ix := fun e => a e.symm
      rw [hc, if_neg this]
      simp [a]
theorem lk_next (old now : Grp) (i : Int) (h : now.es.Pairwise fun a b => a.ix < b.ix) :
    lk (nextW putL look p at_ old now) i = if marksS p old now = true ∧ i = 0 then some at_ else if (p.kd = 2 ∨ p.he = true) ∧ i = -1 then some at_ else
      match now.es.find? (fun e => decide (e.ix = i)) with | some e => some (if broughtS p e = true then at_ else (look i).getD ⟨0, 0⟩) | none => if i = 0 ∨ i = -1 then look i else none := by
  unfold nextW
  have hI : lk (nxI putL look p at_ now.es) i = match now.es.find? (fun e => decide (e.ix = i)) with | some e => some (if broughtS p e = true then at_ else (look i).getD ⟨0, 0⟩) | none => if i = 0 ∨ i = -1 then look i else none := by
    unfold nxI
    rw [lk_nx1s _ _ h, lk_nx0, lk_nx0]
    cases now.es.find? (fun e => decide (e.ix = i)) with
    | some e => rfl
    | none =>
      by_cases a : i = 0
      · subst a; cases look 0 <;> simp
      · by_cases b : i = -1
        · subst b; cases look (-1) <;> simp
        · simp [a, b]
  unfold nxM nxH
  by_cases hm : marksS p old now = true
  · rw [if_pos hm, lk_put]
    by_cases a : i = 0
    · simp [hm, a]
    · rw [if_neg a, if_neg (fun h : marksS p old now = true ∧ i = 0 => a h.2)]
      by_cases hh : p.kd = 2 ∨ p.he = true
      · rw [if_pos hh, lk_put]
        by_cases b : i = -1
        · simp [hh, b]
        · rw [if_neg b, if_neg (fun h : (p.kd = 2 ∨ p.he = true) ∧ i = -1 => b h.2)]; exact hI
      · rw [if_neg hh, if_neg (fun h : (p.kd = 2 ∨ p.he = true) ∧ i = -1 => hh h.1)]; exact hI
  · rw [if_neg hm, if_neg (fun h : marksS p old now = true ∧ i = 0 => hm h.1)]
    by_cases hh : p.kd = 2 ∨ p.he = true
    · rw [if_pos hh, lk_put]
      by_cases b : i = -1
      · simp [hh, b]
      · rw [if_neg b, if_neg (fun h : (p.kd = 2 ∨ p.he = true) ∧ i = -1 => b h.2)]; exact hI
    · rw [if_neg hh, if_neg (fun h : (p.kd = 2 ∨ p.he = true) ∧ i = -1 => hh h.1)]; exact hI
end
theorem next_srt (look : Int → Option Plc) (p : Prt) (at_ : Plc) (old now : Grp) : Srt (nextW putL look p at_ old now) := (nextW_rep (look := look) (look' := look) (fun _ => rfl) p at_ old now).srt
theorem srt_lay {S : List Spt} (h : Srt (kv S)) (x : Spt) : Srt (kv (layS S x)) := by rw [kv_lay h]; exact h.put _ _
theorem lk_lay {S : List Spt} (h : Srt (kv S)) (x : Spt) (k : Int × Int) : lk (kv (layS S x)) k = if k = (x.gr, x.ix) then some ⟨x.sg, x.at_⟩ else lk (kv S) k := by rw [kv_lay h, lk_put]
theorem lk_lays {now : Grp} {gr : Int} {at_ : Plc} : ∀ (es : List Ent) {S : List Spt}, Srt (kv S) → Srt (kv (es.foldl (fun S e => if lhas now e = true then layS S ⟨gr, e.ix, at_.sg, at_.at_⟩ else S) S)) ∧
    ∀ i, lk (kv (es.foldl (fun S e => if lhas now e = true then layS S ⟨gr, e.ix, at_.sg, at_.at_⟩ else S) S)) (gr, i) = (if es.any (fun e => lhas now e && decide (e.ix = i)) = true then some at_ else lk (kv S) (gr, i))
  | [], S, h => ⟨h, fun i => rfl⟩
  | e :: es, S, h => by
    rw [List.foldl_cons]
    cases hl : lhas now e with
    | false =>
      rw [if_neg (by simp)]
      obtain ⟨k1, k2⟩ := lk_lays es h
      exact ⟨k1, fun i => by rw [k2, List.any_cons, hl]; simp⟩
    | true =>
      rw [if_pos rfl]
      obtain ⟨k1, k2⟩ := lk_lays es (srt_lay h ⟨gr, e.ix, at_.sg, at_.at_⟩)
      refine ⟨k1, fun i => ?_⟩
      rw [k2, List.any_cons, hl, lk_lay h]
      by_cases a : e.ix = i
      · subst a; simp
      · have : ¬ i = e.ix := fun e => a e.symm
        simp [a, this]
theorem lk_lays_other {now : Grp} {gr : Int} {at_ : Plc} : ∀ (es : List Ent) {S : List Spt}, Srt (kv S) → ∀ g i, g ≠ gr →
    lk (kv (es.foldl (fun S e => if lhas now e = true then layS S ⟨gr, e.ix, at_.sg, at_.at_⟩ else S) S)) (g, i) = lk (kv S) (g, i)
  | [], S, h => fun _ _ _ => rfl
  | e :: es, S, h => fun g i hg => by
    rw [List.foldl_cons]
    cases hl : lhas now e with
    | false => rw [if_neg (by simp)]; exact lk_lays_other es h g i hg
    | true =>
      rw [if_pos rfl, lk_lays_other es (srt_lay h _) g i hg, lk_lay h]
      simp [hg]
theorem refS_srt (at_ : Plc) (p : Prt) (was now : Grp) {S : List Spt} (h : Srt (kv S)) : Srt (kv (refS at_ p was now S)) := by
  unfold refS
  have h1 : Srt (kv (S.filter (keepS p.gr now true))) := by rw [kv_keep]; exact h.filter _
  have h2 := (lk_lays (now := now) (gr := p.gr) (at_ := at_) p.es h1).1
  simp only
  split <;> split
  · exact srt_lay (srt_lay h2 _) _
  · exact srt_lay h2 _
  · exact srt_lay h2 _
  · exact h2
theorem lk_refS (at_ : Plc) (p : Prt) (was now : Grp) {S : List Spt} (h : Srt (kv S)) (g i : Int) : lk (kv (refS at_ p was now S)) (g, i) =
    if g = p.gr then (if refMark p was now = true ∧ i = 0 then some at_ else if (p.kd = 2 ∨ p.he = true) ∧ i = -1 then some at_ else
      if p.es.any (fun e => lhas now e && decide (e.ix = i)) = true then some at_ else if i ≤ 0 ∨ hasIx now.es i = true then lk (kv S) (g, i) else none) else lk (kv S) (g, i) := by
  have h1 : Srt (kv (S.filter (keepS p.gr now true))) := by rw [kv_keep]; exact h.filter _
  have hk : lk (kv (S.filter (keepS p.gr now true))) (g, i) = if keepK p.gr now true (g, i) = true then lk (kv S) (g, i) else none := by rw [kv_keep, lk_filter]
  obtain ⟨h2, k2⟩ := lk_lays (now := now) (gr := p.gr) (at_ := at_) p.es h1
  have k3 := lk_lays_other (now := now) (gr := p.gr) (at_ := at_) p.es h1 g i
  unfold refS
  simp only
  generalize p.es.foldl (fun S e => if lhas now e = true then layS S ⟨p.gr, e.ix, at_.sg, at_.at_⟩ else S) (S.filter (keepS p.gr now true)) = S2 at h2 k2 k3 ⊢
  have key : lk (kv (if refMark p was now = true then layS (if p.kd = 2 ∨ p.he = true then layS S2 ⟨p.gr, -1, at_.sg, at_.at_⟩ else S2) ⟨p.gr, 0, at_.sg, at_.at_⟩ else if p.kd = 2 ∨ p.he = true then layS S2 ⟨p.gr, -1, at_.sg, at_.at_⟩ else S2)) (g, i) =
      if refMark p was now = true ∧ (g, i) = (p.gr, 0) then some at_ else if (p.kd = 2 ∨ p.he = true) ∧ (g, i) = (p.gr, -1) then some at_ else lk (kv S2) (g, i) := by
    by_cases hm : refMark p was now = true <;> by_cases hh : p.kd = 2 ∨ p.he = true
    · rw [if_pos hm, if_pos hh, lk_lay (srt_lay h2 _), lk_lay h2]
      by_cases a : (g, i) = (p.gr, 0) <;> by_cases b : (g, i) = (p.gr, -1) <;> simp [hm, hh, a, b]
    · rw [if_pos hm, if_neg hh, lk_lay h2]
      by_cases a : (g, i) = (p.gr, 0) <;> simp [hm, hh, a]
    · rw [if_neg hm, if_pos hh, lk_lay h2]
      by_cases b : (g, i) = (p.gr, -1) <;> simp [hm, hh, b]
    · rw [if_neg hm, if_neg hh]
      simp [hm, hh]
  rw [key]
  by_cases hg : g = p.gr
  · subst hg
    rw [k2, hk]
    simp [keepK]
  · rw [k3 hg, hk]
    simp [hg, keepK]
end Go.Ab
end
section
namespace Go.Ab
set_option linter.unusedVariables false
set_option linter.unusedSimpArgs false
theorem has_of {es : List Ent} (h : es.Pairwise fun a b => a.ix < b.ix) {i : Int} {e : Ent} (he : e ∈ es) (hi : e.ix = i) : es.find? (fun e => decide (e.ix = i)) = some e := by
  induction es with
  | nil => cases he
  | cons x es ih =>
    obtain ⟨h1, h2⟩ := List.pairwise_cons.1 h
    rw [List.find?_cons]
    rcases List.mem_cons.1 he with rfl | he
    · simp [hi]
    · have := h1 e he
      have hx : ¬ x.ix = i := by omega
      simp only [hx, decide_false]
      exact ih h2 he
theorem hasIx_find (es : List Ent) (i : Int) : hasIx es i = (es.find? fun e => decide (e.ix = i)).isSome := by
  unfold hasIx; rw [Bool.eq_iff_iff, List.find?_isSome, List.any_eq_true]
theorem VOk.new {id : Int} (h : 0 ≤ id ∧ id ≤ 999) : VOk id ⟨newG id, []⟩ := ⟨rfl, h, newG_spar h, .nil, by simp, by simp [newG]⟩
theorem VOk.do {i : Int} {v : LogV} (h : VOk i v) (p : Prt) (at_ : Plc) : VOk i (logDo v p at_) := by
  unfold logDo
  split
  case isFalse => exact h
  case isTrue hok =>
    have hS := h.g.doS p
    refine ⟨by rw [doS_id]; exact h.id, h.rng, hS, next_srt _ _ _ _ _, fun x hx => ?_, fun e he => ?_⟩
    · have hl := (next_srt (lk v.sp) p at_ v.g (doS v.g p)).lk_mem hx
      rw [lk_next _ _ _ hS.srt] at hl
      split at hl
      · next hc => exact .inr (.inl hc.2)
      split at hl
      · next hc => exact .inl hc.2
      split at hl
      · next e hf =>
        have := List.find?_some hf
        exact .inr (.inr ⟨e, List.mem_of_find?_eq_some hf, by simpa using (by simpa using this : e.ix = x.1).symm⟩)
      split at hl
      · next hc => rcases hc with hc | hc
                   · exact .inr (.inl hc)
                   · exact .inl hc
      · cases hl
    · have hl := lk_next (look := lk v.sp) (p := p) (at_ := at_) v.g (doS v.g p) e.ix hS.srt
      have hpos := (okEnt_iff.1 (hS.ok e he)).1
      rw [if_neg (fun hc => by have := hc.2; omega), if_neg (fun hc => by have := hc.2; omega), has_of hS.srt he rfl] at hl
      exact ⟨_, lk_mem hl, rfl⟩
theorem MOk.at {M : List (Int × LogV)} (hM : MOk M) {i : Int} (hi : 0 ≤ i ∧ i ≤ 999) : VOk i ((lk M i).getD ⟨newG i, []⟩) := by
  cases h : lk M i with
  | none => exact .new hi
  | some v => exact hM.2 _ (lk_mem h)
theorem MOk.doP {M : List (Int × LogV)} (hM : MOk M) (at_ : Plc) (p : Prt) : MOk (doP at_ M p) := by
  unfold Ab.doP
  split
  · next hp =>
    split
    · exact ⟨hM.1.del _, fun x hx => hM.2 x (List.mem_filter.1 hx).1⟩
    · refine ⟨hM.1.put _ _, fun x hx => ?_⟩
      rcases put_mem hx with rfl | hx
      · exact (hM.at (part_gr hp)).do p at_
      · exact hM.2 x hx
  · exact hM
theorem ref_doP {M : List (Int × LogV)} (hM : MOk M) (at_ : Plc) (p : Prt) : refP at_ (grpsL M, spotsM M) p = (grpsL (doP at_ M p), spotsM (doP at_ M p)) := by
  have hM' := hM.doP at_ p
  have hid : ∀ x ∈ M, x.2.g.id = x.1 := fun x hx => (hM.2 x hx).id
  have hS := spots_srt hM
  have hS' := spots_srt hM'
  unfold refP
  by_cases hp : isPart p = true
  · rw [if_pos hp]
    by_cases hk5 : p.kd = 5
    · rw [if_pos hk5]
      have hd : doP at_ M p = delL M p.gr := by unfold doP; rw [if_pos hp, if_pos hk5]
      rw [hd] at hM' hS' ⊢
      refine Prod.ext (del_M hid _) (kv_inj ?_)
      refine Srt.ext (by rw [kv_keep]; exact hS.filter _) hS' fun k => ?_
      obtain ⟨g, i⟩ := k
      simp only
      rw [kv_keep, lk_filter, lk_spots hM, lk_spots hM', lk_del]
      by_cases hg : g = p.gr <;> simp [keepK, hg]
    · rw [if_neg hk5]
      have hd : doP at_ M p = putL M p.gr (logDo ((lk M p.gr).getD ⟨newG p.gr, []⟩) p at_) := by unfold doP; rw [if_pos hp, if_neg hk5]
      have hv := hM.at (part_gr hp)
      have hw : (getG (grpsL M) p.gr).getD (newG p.gr) = ((lk M p.gr).getD ⟨newG p.gr, []⟩).g := by
        rw [getG_M hid]; cases lk M p.gr <;> rfl
      have hold : ∀ i, (lk M p.gr).bind (fun v => lk v.sp i) = lk ((lk M p.gr).getD ⟨newG p.gr, []⟩).sp i := fun i => by cases lk M p.gr <;> rfl
      rw [hd] at hM' hS' ⊢
      simp only
      rw [hw]
      generalize (lk M p.gr).getD ⟨newG p.gr, []⟩ = v at hv hold hM' hS' ⊢
      have hlog : logDo v p at_ = ⟨doS v.g p, nextW putL (lk v.sp) p at_ v.g (doS v.g p)⟩ := by
        unfold logDo; rw [if_pos]; unfold okDo; simp [hp, hv.id, hk5]
      have hN := hv.g.doS p
      have hsub : ∀ e ∈ (doS v.g p).es, e ∈ v.g.es ∨ e ∈ p.es := fun e he => doS_sub he
      have hgid : (doS v.g p).id = p.gr := by rw [doS_id]; exact hv.id
      rw [hlog] at hM' hS' ⊢
      have hW := with_M hM.1 hid (v := ⟨doS v.g p, nextW putL (lk v.sp) p at_ v.g (doS v.g p)⟩)
      simp only [hgid] at hW
      refine Prod.ext hW (kv_inj ?_)
      have hmr := marks_ref hp v.g (doS v.g p)
      refine Srt.ext (refS_srt _ _ _ _ hS) hS' fun k => ?_
      obtain ⟨g, i⟩ := k
      rw [lk_refS _ _ _ _ hS, lk_spots hM', lk_put, lk_spots hM]
      by_cases hg : g = p.gr
      · subst hg
        rw [if_pos rfl, if_pos rfl, hold, hmr]
        simp only [Option.bind_some]
        rw [lk_next _ _ _ hN.srt]
        generalize hnow : doS v.g p = now at hN hsub ⊢
        split
        · rfl
        split
        · rfl
        have hposE : ∀ e ∈ now.es, 1 ≤ e.ix := fun e he => (okEnt_iff.1 (hN.ok e he)).1.1
        have hlh : ∀ e ∈ p.es, (lhas now e && decide (e.ix = i)) = true ↔ e ∈ now.es ∧ e.ix = i := fun e he => by
          rw [Bool.and_eq_true, decide_eq_true_eq]
          refine and_congr_left fun hi => ?_
          unfold lhas
          constructor
          · intro h
            split at h
            · next x hx =>
              have : x = e := by simpa using h
              subst this
              exact List.mem_of_find?_eq_some hx
            · cases h
          · intro h
            rw [has_of hN.srt h rfl]
            simp
        cases hf : now.es.find? (fun e => decide (e.ix = i)) with
        | none =>
          have hno : p.es.any (fun e => lhas now e && decide (e.ix = i)) = false := by
            rw [List.any_eq_false]
            intro e he h
            obtain ⟨h1, h2⟩ := (hlh e he).1 h
            have := List.find?_eq_none.1 hf e h1
            simp [h2] at this
          rw [hno, hasIx_find, hf]
          by_cases h0 : i = 0 ∨ i = -1
          · rw [if_neg (by simp), if_pos (.inl (by omega)), if_pos h0]
          · rw [if_neg (by simp), if_neg h0]
            by_cases hi : i ≤ 0
            · rw [if_pos (.inl hi)]
              cases hl : lk v.sp i with
              | none => rfl
              | some x =>
                rcases hv.key _ (lk_mem hl) with h | h | ⟨e, he, h⟩
                · exact absurd (.inr h) h0
                · exact absurd (.inl h) h0
                · have := (okEnt_iff.1 (hv.g.ok e he)).1.1
                  simp only at h; omega
            · rw [if_neg (by simp; omega)]
        | some e =>
          have he := List.mem_of_find?_eq_some hf
          have hi : e.ix = i := by simpa using List.find?_some hf
          have h1 := hposE e he
          have hbr : p.es.any (fun e => lhas now e && decide (e.ix = i)) = broughtS p e := by
            unfold broughtS
            by_cases hk : p.kd = 1 ∨ p.kd = 6
            · have hk' : (decide (p.kd = 1) || decide (p.kd = 6)) = true := by simpa using hk
              rw [hk', Bool.true_and, Bool.eq_iff_iff, List.any_eq_true, List.any_eq_true]
              constructor
              · rintro ⟨x, hx, h⟩
                obtain ⟨h2, h3⟩ := (hlh x hx).1 h
                have := has_of hN.srt h2 h3
                rw [hf] at this
                exact ⟨x, hx, by simpa using this⟩
              · rintro ⟨x, hx, h⟩
                have : e = x := by simpa using h
                subst this
                exact ⟨e, hx, (hlh e hx).2 ⟨he, hi⟩⟩
            · rw [part_es hp (fun h => hk (.inl h)) (fun h => hk (.inr h))]; simp
          rw [hbr, hasIx_find, hf]
          simp only [Option.isSome_some, or_true, if_true]
          cases hb : broughtS p e with
          | true => simp
          | false =>
            simp only [if_false, Bool.false_eq_true]
            have hin : e ∈ v.g.es := by
              rcases hsub e he with h | h
              · exact h
              · exfalso
                have hk : p.kd = 1 ∨ p.kd = 6 := by
                  by_cases h1 : p.kd = 1
                  · exact .inl h1
                  by_cases h6 : p.kd = 6
                  · exact .inr h6
                  rw [part_es hp h1 h6] at h; cases h
                have hk' : (decide (p.kd = 1) || decide (p.kd = 6)) = true := by simpa using hk
                unfold broughtS at hb
                rw [hk', Bool.true_and, List.any_eq_false] at hb
                exact hb e h (by simp)
            obtain ⟨x, hx, hxi⟩ := hv.has e hin
            have : lk v.sp i = some x.2 := hv.srt.lk_mem (by rw [← hi, ← hxi]; exact hx)
            rw [this]; rfl
      · rw [if_neg hg, if_neg hg]
  · rw [if_neg hp]
    have hd : doP at_ M p = M := by unfold doP; rw [if_neg hp]
    rw [hd]
theorem MOk.doL {M : List (Int × LogV)} (hM : MOk M) (l : List Prt) (at_ : Plc) : MOk (doL M l at_) := by
  unfold Ab.doL
  induction l generalizing M with
  | nil => exact hM
  | cons p l ih => exact ih (hM.doP at_ p)
theorem ref_doL {M : List (Int × LogV)} (hM : MOk M) (l : List Prt) (at_ : Plc) : refL at_ (grpsL M, spotsM M) l = (grpsL (doL M l at_), spotsM (doL M l at_)) := by
  unfold refL doL
  induction l generalizing M with
  | nil => rfl
  | cons p l ih => rw [List.foldl_cons, List.foldl_cons, ref_doP hM, ih (hM.doP at_ p)]
end Go.Ab
end
section
namespace Go.Ab
open Go.RowKit Go.Proofs
set_option linter.unusedVariables false
set_option linter.unusedSimpArgs false
@[ext] structure Stp where
  l : List Prt
  sg : Int
  at_ : Int
  deriving DecidableEq, Inhabited
def Stp.cells (x : Stp) : List AV := [.sl (x.l.map Prt.av) .no, .v (.int .i64 x.sg), .v (.int .i64 x.at_)]
def Stp.av (x : Stp) : AV := .agg x.cells
section
variable (x y : Stp) (k : Nat)
@[simp] theorem Stp.s1 : x.av.strip = x.av := rfl
@[simp] theorem Stp.s2 : x.av.cells = x.cells := rfl
@[simp] theorem Stp.s3 : x.av.shape = true := rfl
@[simp] theorem Stp.s4 : x.cells.length = 3 := rfl
@[simp] theorem Stp.s5 : x.cells.take 3 = x.cells := rfl
@[simp] theorem Stp.s6 : AV.agg x.cells = x.av := rfl
@[simp] theorem Stp.s7 : x.cells.drop (k + 1) = List.drop k [.v (.int .i64 x.sg), .v (.int .i64 x.at_)] := rfl
@[simp low] theorem Stp.s17 : x.cells.take k = List.take k [.sl (x.l.map Prt.av) .no, .v (.int .i64 x.sg), .v (.int .i64 x.at_)] := rfl
@[simp] theorem Stp.s16 : x.cells.tail = [.v (.int .i64 x.sg), .v (.int .i64 x.at_)] := rfl
@[simp] theorem Stp.s8 : x.cells[k]? = [.sl (x.l.map Prt.av) .no, .v (.int .i64 x.sg), .v (.int .i64 x.at_)][k]? := rfl
@[simp] theorem Stp.s13 : AV.strip ∘ Stp.av = Stp.av := rfl
@[simp] theorem Stp.s14 : x.cells.all AV.one = true := rfl
end
def Stp.pl (x : Stp) : Plc := ⟨x.sg, x.at_⟩
end Go.Ab
end
section
namespace Go.Proofs.Ytmpoeamfcienoaa
open Go.Ab
set_option linter.unusedVariables false
set_option linter.unusedSimpArgs false
set_option maxRecDepth 100000
set_option maxHeartbeats 4000000
def fewPart (p : Prt) : Bool := ((List.range p.es.length).all fun j => !decide ((60 : Int) < ((p.es.getD j default).da.size : Int))) && decide ((p.es.length : Int) ≤ 8)
def fewParts (l : List Prt) : Bool := ((List.range l.length).all fun j => fewPart (l.getD j default)) && decide ((l.length : Int) ≤ 6)
theorem ct_ladelaw13_fewPart {x : Prt} {s : AState} (hl : (x.es.length : Int) < 9223372036854775808)  : Gives prog F_ladelaw13_fewPart [x.av] s (.v (.bool (fewPart x))) s := by
  refine Runs.gives' (runs_e h_ladelaw13_fewPart (Nat.le_of_ble_eq_true rfl) ?_) (.v _)
  unfold fewPart
  refine st0 ?_
  refine loop_ok [0, 1, 3] (fun k a s1 => Grows (s.alloc (.cells x.cells)) s1 ∧ ∃ i : Nat, i + k = x.es.length ∧ ((List.range i).all (fun j => !decide ((60 : Int) < ((x.es.getD j default).da.size : Int)))) = true ∧ a = { t := den 23 [(0, x.av), (1, .p s.n 0), (3, .v (.int .i64 i))], d := [] }) x.es.length ?_ ?_
  · exact ⟨.refl _, 0, by simp, rfl, by simp⟩
  · rintro k a s1 ⟨hg, i, hik, hall, rfl⟩
    by_cases hlt : i < x.es.length
    · have e1 : x.es.getD i default = x.es[i] := by simp [hlt]
      have hG := trivial
      have hG2 := trivial
      have hw : IntKind.wrap .i64 ((i : Int) + 1) = (i : Int) + 1 := wrap_i64 (by omega) (by omega)
      have hgb := hg.get (b := s.n)
      try simp at hgb
      clear hl
      repeat' (first | refine sa0 ?_ | ((with_reducible first | apply s_split | apply s_gsplit) <;> (intro hb; have hb' := hb; try simp only [decide_eq_true_eq, decide_eq_false_iff_not, beq_iff_eq, beq_eq_false_iff_ne, bne_iff_ne, bne_eq_false_iff_eq, ne_eq, Bool.not_true, Bool.not_false, Bool.not_eq_true', Bool.not_eq_false', Bool.and_eq_true, Bool.or_eq_true, Bool.or_eq_false_iff] at hb; try simp at hb')))
      all_goals first
        | exact ⟨k - 1, by omega, (by first | exact hg | exact hg.alloc _), i + 1, by omega, all_step hall (by simp only [e1]; simp [*]), by simp [hw]⟩
        | (refine ret_ok rfl ⟨((Grows.refl _).alloc _).trans hg, ?_⟩; rw [all_stop hlt (by simp only [e1]; simp [*])]; exact AV.le.refl _)
    · have hgb := hg.get (b := s.n)
      try simp at hgb
      refine st2 hlt hgb ?_
      have : i = x.es.length := by omega
      subst this
      refine ret_ok rfl ⟨((Grows.refl _).alloc _).trans hg, ?_⟩
      rw [hall]; simp [AV.le.refl]
theorem ct_ladelaw14_fewPart {x : Prt} {s : AState} (hl : (x.es.length : Int) < 9223372036854775808)  : Gives prog F_ladelaw14_fewPart [x.av] s (.v (.bool (fewPart x))) s := by
  refine Runs.gives' (runs_e h_ladelaw14_fewPart (Nat.le_of_ble_eq_true rfl) ?_) (.v _)
  unfold fewPart
  refine st0 ?_
  refine loop_ok [0, 1, 3] (fun k a s1 => Grows (s.alloc (.cells x.cells)) s1 ∧ ∃ i : Nat, i + k = x.es.length ∧ ((List.range i).all (fun j => !decide ((60 : Int) < ((x.es.getD j default).da.size : Int)))) = true ∧ a = { t := den 23 [(0, x.av), (1, .p s.n 0), (3, .v (.int .i64 i))], d := [] }) x.es.length ?_ ?_
  · exact ⟨.refl _, 0, by simp, rfl, by simp⟩
  · rintro k a s1 ⟨hg, i, hik, hall, rfl⟩
    by_cases hlt : i < x.es.length
    · have e1 : x.es.getD i default = x.es[i] := by simp [hlt]
      have hG := trivial
      have hG2 := trivial
      have hw : IntKind.wrap .i64 ((i : Int) + 1) = (i : Int) + 1 := wrap_i64 (by omega) (by omega)
      have hgb := hg.get (b := s.n)
      try simp at hgb
      clear hl
      repeat' (first | simp -dsimp -implicitDefEqProofs (disch := first | omega | (simp <;> omega) | fail) [*] | ((with_reducible first | apply m_1 | apply m_0); (focus ((conv => lhs; simp -dsimp -implicitDefEqProofs (disch := first | omega | (simp <;> omega) | fail) [*]); done))) | ((with_reducible first | apply i_T | apply g_T); (focus (simp -dsimp -implicitDefEqProofs (disch := first | omega | (simp <;> omega) | fail) [*]; done))) | ((with_reducible first | apply i_F | apply g_F); (focus (simp -dsimp -implicitDefEqProofs (disch := first | omega | (simp <;> omega) | fail) [*]; done))) | ((with_reducible first | apply s_split | apply s_gsplit) <;> (intro hb; have hb' := hb; try simp only [decide_eq_true_eq, decide_eq_false_iff_not, beq_iff_eq, beq_eq_false_iff_ne, bne_iff_ne, bne_eq_false_iff_eq, ne_eq, Bool.not_true, Bool.not_false, Bool.not_eq_true', Bool.not_eq_false', Bool.and_eq_true, Bool.or_eq_true, Bool.or_eq_false_iff] at hb; try simp at hb')))
      all_goals first
        | exact ⟨k - 1, by omega, (by first | exact hg | exact hg.alloc _), i + 1, by omega, all_step hall (by simp only [e1]; simp [*]), by simp [hw]⟩
        | (refine ret_ok rfl ⟨((Grows.refl _).alloc _).trans hg, ?_⟩; rw [all_stop hlt (by simp only [e1]; simp [*])]; exact AV.le.refl _)
    · have hgb := hg.get (b := s.n)
      try simp at hgb
      refine st2 hlt hgb ?_
      have : i = x.es.length := by omega
      subst this
      refine ret_ok rfl ⟨((Grows.refl _).alloc _).trans hg, ?_⟩
      rw [hall]; simp [AV.le.refl]
theorem ct_ladelaw14_fewParts {x : List Prt} {s : AState} (hl : (x.length : Int) < 9223372036854775808) (hes : ∀ p ∈ x, (p.es.length : Int) < 9223372036854775808) : Gives prog F_ladelaw14_fewParts [.sl (x.map Prt.av) .no] s (.v (.bool (fewParts x))) s := by
  refine Runs.gives' (runs_e h_ladelaw14_fewParts (Nat.le_of_ble_eq_true rfl) ?_) (.v _)
  unfold fewParts
  refine st0 ?_
  refine loop_ok [0, 3] (fun k a s1 => Grows (s) s1 ∧ ∃ i : Nat, i + k = x.length ∧ ((List.range i).all (fun j => fewPart (x.getD j default))) = true ∧ a = { t := den 19 [(0, .sl (x.map Prt.av) .no), (3, .v (.int .i64 i))], d := [] }) x.length ?_ ?_
  · exact ⟨.refl _, 0, by simp, rfl, by simp⟩
  · rintro k a s1 ⟨hg, i, hik, hall, rfl⟩
    by_cases hlt : i < x.length
    · have e1 : x.getD i default = x[i] := by simp [hlt]
      have hG := hes _ (List.getElem_mem hlt)
      have hG2 := trivial
      have hw : IntKind.wrap .i64 ((i : Int) + 1) = (i : Int) + 1 := wrap_i64 (by omega) (by omega)
      have hgb := hg.get (b := s.n)
      try simp at hgb
      clear hl hes
      repeat' (first | simp -dsimp -implicitDefEqProofs (disch := first | omega | (simp <;> omega) | fail) [*] | ((with_reducible first | apply m_1 | apply m_0); (focus ((conv => lhs; simp -dsimp -implicitDefEqProofs (disch := first | omega | (simp <;> omega) | fail) [*]); done))) | ((with_reducible apply giv); (case hAR => ((conv => lhs; simp -dsimp -implicitDefEqProofs (disch := first | omega | (simp <;> omega) | fail) [*]); done)); (case hCT => (first | (apply ct_ladelaw14_fewPart <;> first | assumption | omega | decide)))) | ((with_reducible first | apply i_T | apply g_T); (focus (simp -dsimp -implicitDefEqProofs (disch := first | omega | (simp <;> omega) | fail) [*]; done))) | ((with_reducible first | apply i_F | apply g_F); (focus (simp -dsimp -implicitDefEqProofs (disch := first | omega | (simp <;> omega) | fail) [*]; done))) | ((with_reducible first | apply s_split | apply s_gsplit) <;> (intro hb; have hb' := hb; try simp only [decide_eq_true_eq, decide_eq_false_iff_not, beq_iff_eq, beq_eq_false_iff_ne, bne_iff_ne, bne_eq_false_iff_eq, ne_eq, Bool.not_true, Bool.not_false, Bool.not_eq_true', Bool.not_eq_false', Bool.and_eq_true, Bool.or_eq_true, Bool.or_eq_false_iff] at hb; try simp at hb')))
      all_goals first
        | exact ⟨k - 1, by omega, (by first | exact hg | exact hg.alloc _), i + 1, by omega, all_step hall (by simp only [e1]; simp [*]), by simp [hw]⟩
        | (refine ret_ok rfl ⟨hg, ?_⟩; rw [all_stop hlt (by simp only [e1]; simp [*])]; exact AV.le.refl _)
    · have hgb := hg.get (b := s.n)
      try simp at hgb
      refine st2 hlt hgb ?_
      have : i = x.length := by omega
      subst this
      refine ret_ok rfl ⟨hg, ?_⟩
      rw [hall]; simp [AV.le.refl]
def fewSteps (l : List Stp) : Bool := ((List.range l.length).all fun j => fewParts (l.getD j default).l) && decide ((l.length : Int) ≤ 40)
theorem ct_ladelaw14_fewSteps {x : List Stp} {s : AState} (hl : (x.length : Int) < 9223372036854775808) (hps : ∀ f ∈ x, (f.l.length : Int) < 9223372036854775808) (hes : ∀ f ∈ x, ∀ p ∈ f.l, (p.es.length : Int) < 9223372036854775808) :
    Gives prog F_ladelaw14_fewSteps [.sl (x.map Stp.av) .no] s (.v (.bool (fewSteps x))) s := by
  refine Runs.gives' (runs_e h_ladelaw14_fewSteps (Nat.le_of_ble_eq_true rfl) ?_) (.v _)
  unfold fewSteps
  refine st0 ?_
  refine loop_ok [0, 3] (fun k a s1 => Grows s s1 ∧ ∃ i : Nat, i + k = x.length ∧ ((List.range i).all fun j => fewParts (x.getD j default).l) = true ∧ a = { t := den 20 [(0, .sl (x.map Stp.av) .no), (3, .v (.int .i64 i))], d := [] }) x.length ?_ ?_
  · exact ⟨.refl _, 0, by simp, rfl, by simp⟩
  · rintro k a s1 ⟨hg, i, hik, hall, rfl⟩
    by_cases hlt : i < x.length
    · have e1 : x.getD i default = x[i] := by simp [hlt]
      have hw : IntKind.wrap .i64 ((i : Int) + 1) = (i : Int) + 1 := wrap_i64 (by omega) (by omega)
      repeat (first | simp -dsimp -implicitDefEqProofs (disch := first | omega | (simp <;> omega) | fail) [hlt] | ((with_reducible first | apply m_1 | apply m_0); (focus ((conv => lhs; simp -dsimp -implicitDefEqProofs (disch := first | omega | (simp <;> omega) | fail) [hlt]); done))) | ((with_reducible first | apply i_T | apply g_T); (focus (simp -dsimp -implicitDefEqProofs (disch := first | omega | (simp <;> omega) | fail) [hlt]; done))) | ((with_reducible first | apply i_F | apply g_F); (focus (simp -dsimp -implicitDefEqProofs (disch := first | omega | (simp <;> omega) | fail) [hlt]; done))))
      refine gv (ct_ladelaw14_fewParts (x := x[i].l) (hps _ (List.getElem_mem hlt)) (hes _ (List.getElem_mem hlt))) ?_
      cases hp : fewParts x[i].l with
      | true =>
        refine st0 ?_
        exact ⟨k - 1, by omega, hg, i + 1, by omega, all_step hall (by simp only [e1]; exact hp), by simp [hw]⟩
      | false =>
        refine st0 ?_
        refine ret_ok rfl ⟨hg, ?_⟩
        rw [all_stop hlt (by simp only [e1]; exact hp)]; exact AV.le.refl _
    · repeat (first | simp -dsimp -implicitDefEqProofs (disch := first | omega | (simp <;> omega) | fail) [hlt] | ((with_reducible first | apply m_1 | apply m_0); (focus ((conv => lhs; simp -dsimp -implicitDefEqProofs (disch := first | omega | (simp <;> omega) | fail) [hlt]); done))) | ((with_reducible first | apply i_T | apply g_T); (focus (simp -dsimp -implicitDefEqProofs (disch := first | omega | (simp <;> omega) | fail) [hlt]; done))) | ((with_reducible first | apply i_F | apply g_F); (focus (simp -dsimp -implicitDefEqProofs (disch := first | omega | (simp <;> omega) | fail) [hlt]; done))))
      have : i = x.length := by omega
      subst this
      refine ret_ok rfl ⟨hg, ?_⟩
      rw [hall]; simp [AV.le.refl]
theorem fewParts_len {l : List Prt} (h : fewParts l = true) : l.length ≤ 6 ∧ (∀ p ∈ l, p.es.length ≤ 8) := by
  simp only [fewParts, Bool.and_eq_true, decide_eq_true_eq, List.all_eq_true, List.mem_range] at h
  refine ⟨by omega, fun p hp => ?_⟩
  obtain ⟨j, hj, rfl⟩ := List.getElem_of_mem hp
  have := h.1 j hj
  rw [List.getD_eq_getElem?_getD, List.getElem?_eq_getElem hj] at this
  simp only [fewPart, Bool.and_eq_true, decide_eq_true_eq, Option.getD_some] at this
  omega
theorem fewSteps_len {l : List Stp} (h : fewSteps l = true) : l.length ≤ 40 ∧ (∀ x ∈ l, x.l.length ≤ 6) ∧ (∀ x ∈ l, ∀ p ∈ x.l, p.es.length ≤ 8) := by
  simp only [fewSteps, Bool.and_eq_true, decide_eq_true_eq, List.all_eq_true, List.mem_range] at h
  have key : ∀ x ∈ l, fewParts x.l = true := fun x hx => by
    obtain ⟨j, hj, rfl⟩ := List.getElem_of_mem hx
    have := h.1 j hj
    rwa [List.getD_eq_getElem?_getD, List.getElem?_eq_getElem hj] at this
  exact ⟨by omega, fun x hx => (fewParts_len (key x hx)).1, fun x hx => (fewParts_len (key x hx)).2⟩
theorem wt_few {l : List Prt} (h1 : l.length ≤ 6) (h2 : ∀ p ∈ l, p.es.length ≤ 8) : wtL l ≤ 60 := by
  have : ∀ l : List Prt, (∀ p ∈ l, p.es.length ≤ 8) → wtL l ≤ l.length * 10 := by
    intro l
    induction l with
    | nil => intro _; simp [wtL]
    | cons p l ih =>
      intro h
      have h1 := ih fun q hq => h q (by simp [hq])
      have h2 := h p (by simp)
      simp only [wtL, List.map_cons, List.sum_cons, List.length_cons] at h1 ⊢
      omega
  have := this l h2
  omega
end Go.Proofs.Ytmpoeamfcienoaa
end
section
namespace Go.Ab
set_option linter.unusedVariables false
theorem srt_len2 {α : Type} : ∀ {l : List (Int × α)} {lo hi : Int}, Srt l → (∀ x ∈ l, lo ≤ x.1 ∧ x.1 ≤ hi) → lo ≤ hi + 1 → (l.length : Int) ≤ hi - lo + 1
  | [], lo, hi, _, _, h => by simp; omega
  | x :: l, lo, hi, hs, hr, h => by
    obtain ⟨h1, h2⟩ := List.pairwise_cons.1 hs
    have hx := hr x (by simp)
    have := srt_len2 (lo := x.1 + 1) (hi := hi) h2 (fun y hy => ⟨by have : x.1 < y.1 := h1 y hy; omega, (hr y (by simp [hy])).2⟩) (by omega)
    simp only [List.length_cons]; omega
theorem MOk.len {M : List (Int × LogV)} (h : MOk M) : M.length ≤ 1000 := by
  have := srt_len2 (lo := 0) (hi := 999) h.1 (fun x hx => (h.2 x hx).rng) (by omega)
  omega
theorem MOk.nil : MOk [] := ⟨.nil, by simp⟩
theorem MOk.small {M : List (Int × LogV)} (h : MOk M) (hs : (spotsM M).length ≤ 4000000000) : Small M :=
  ⟨by have := h.len; omega, fun x hx => by have := (h.2 x hx).g.len; have := MI_eq; omega, by omega⟩
theorem refL_len {x : List Grp × List Spt} {at_ : Plc} {l : List Prt} (h : ∀ g ∈ x.1, Spar g) : (refL at_ x l).2.length ≤ x.2.length + wtL l := by
  induction l generalizing x with
  | nil => simp [refL, wtL]
  | cons p l ih =>
    have h1 := refP_ok at_ x p h
    have h2 := ih h1.1
    have : wtL (p :: l) = p.es.length + 2 + wtL l := by simp [wtL]
    have e : refL at_ x (p :: l) = refL at_ (refP at_ x p) l := rfl
    rw [e]; omega
theorem grps_spar {M : List (Int × LogV)} (h : MOk M) : ∀ g ∈ grpsL M, Spar g := fun g hg => by obtain ⟨x, hx, rfl⟩ := List.mem_map.1 hg; exact h.gok x hx
theorem spots_doL {M : List (Int × LogV)} (h : MOk M) (l : List Prt) (at_ : Plc) : (spotsM (doL M l at_)).length ≤ (spotsM M).length + wtL l := by
  have := refL_len (x := (grpsL M, spotsM M)) (at_ := at_) (l := l) (grps_spar h)
  rw [ref_doL h] at this
  exact this
section
variable {P : Program} {g : FuncId} {args : List AV} {s : AState} {R K : AV → AState → Prop}
theorem runS (h : Runs (compCode P) P g (args.map AV.strip) s R) (k : ∀ x s', R x s' → K x s') : Lruns (compCode P) P g args s K .a := run (Runs.strip h) rfl k
end
def kA : List Prt := [⟨3, 2, [], 2, 0, 0, 0, 0, false, false⟩, ⟨1, 1, [⟨4, 1, ⟨#[]⟩⟩], 0, 0, 0, 0, 0, false, false⟩]
def kB : List Prt := [⟨1, 5, [], 0, 0, 0, 0, 0, false, false⟩]
def kM : List (Int × LogV) := doL [] kA ⟨1, 16⟩
def kN : List (Int × LogV) := doL kM kB ⟨2, 0⟩
theorem kM_ok : MOk kM := MOk.nil.doL _ _
theorem kN_ok : MOk kN := kM_ok.doL _ _
theorem kM_sp : spotsM kM = [⟨1, 4, 1, 16⟩, ⟨3, -1, 1, 16⟩] := by kernel_rfl
theorem kM_g : (lk kM 3).map (·.g) = some ⟨3, 1, 0, 2, 0, 0, []⟩ := by kernel_rfl
theorem kN_sp : spotsM kN = [⟨3, -1, 1, 16⟩] := by kernel_rfl
theorem kM_l : (grpsL kM).length = 2 := by kernel_rfl
theorem kN_l : (grpsL kN).length = 1 := by kernel_rfl
theorem kM_s : Small kM := kM_ok.small (by rw [kM_sp]; simp)
theorem kN_s : Small kN := kN_ok.small (by rw [kN_sp]; simp)
end Go.Ab
namespace Go.Proofs.Ytmpoeamfcienoaa
open Go.Ab
set_option linter.unusedVariables false
set_option linter.unusedSimpArgs false
set_option maxRecDepth 100000
set_option maxHeartbeats 1000000
theorem kM_d : (grpsL kM).all dense = false := by kernel_rfl
theorem kN_d : (grpsL kN).all dense = true := by kernel_rfl
theorem ct_ladelaw14_known {s : AState} : Gives prog F_ladelaw14_known [] s (.v (.bool true)) s := by
  refine Runs.gives (runs_e h_ladelaw14_known (Nat.le_of_ble_eq_true rfl) ?_) (.v _)
  refine st0 ?_
  refine rn0 (rn_ledger_New) ?_
  rintro _ s1 ⟨b, F, rfl, h1, h2, h3⟩
  refine st0 ?_
  refine runS (rn_ledger_Ledger_Do (l := kA) (at_ := ⟨1, 16⟩) h1 MOk.nil.gok (by decide) (by decide)) ?_
  rintro _ s2 ⟨F2, h4, h5⟩
  refine st0 ?_
  refine gv (ct_ledger_Ledger_Spots (M := kM) h4 kM_ok kM_s) ?_
  rw [kM_sp]
  refine st0 ?_
  refine gv (ct_ledger_Ledger_Get (M := kM) (i := 3) h4 kM_s) ?_
  have hg : ((lk kM 3).map (·.g)).getD zeroG = ⟨3, 1, 0, 2, 0, 0, []⟩ := by rw [kM_g]; rfl
  have hg2 : (lk kM 3).isSome = true := by have := congrArg Option.isSome kM_g; simpa using this
  rw [hg, hg2]
  refine st0 ?_
  have hb2 := h4.lt
  have c3 : (s2.alloc (.cells (⟨3, 1, 0, 2, 0, 0, []⟩ : Grp).cells)).get s2.n = .cells [.v (.int .i64 3), .v (.int .i64 1), .v (.int .i64 0), .v (.int .i64 2), .v (.int .i64 0), .v (.int .i64 0), .sl [] .no] := get_alloc_eq rfl
  have n3 : (s2.alloc (.cells (⟨3, 1, 0, 2, 0, 0, []⟩ : Grp).cells)).n = s2.n + 1 := rfl
  have h6 : LedAt (s2.alloc (.cells (⟨3, 1, 0, 2, 0, 0, []⟩ : Grp).cells)) b kM F2 := h4.keep fun x hx => get_alloc_ne (by have := hb2 x hx; omega)
  have m3 : Mut [] F2 s (s2.alloc (.cells (⟨3, 1, 0, 2, 0, 0, []⟩ : Grp).cells)) := ((Mut.new h2 h3).trans h5).trans (.grows ((Grows.refl s2).alloc _))
  generalize s2.alloc (.cells (⟨3, 1, 0, 2, 0, 0, []⟩ : Grp).cells) = s3 at c3 n3 h6 m3 ⊢
  refine run (rn_ledger_Ledger_Copy h6 kM_ok (by have := kM_ok.len; omega)) (by simp) ?_
  rintro _ s4 ⟨b', F', rfl, k1, k2⟩
  have hb3 := h6.lt
  have d1 : ∀ x ∈ F2, x ∉ F' := k2.apart (by simp) hb3
  have h7 : LedAt s4 b kM F2 := h6.keep (k2.get (by simp) hb3)
  have c4 : s4.get s2.n = _ := (k2.keep _ (by omega) (by simp)).trans c3
  have m4 : Mut [] (F' ++ F2) s s4 := m3.trans (by simpa using k2.more F2)
  have o4 : s2.n ∉ F' := fun hx => by
    rcases k2.own _ hx with h | h
    · cases h
    · omega
  refine st0 ?_
  refine gv (ct_ledger_Ledger_Dense (M := kM) h7 kM_ok kM_s) ?_
  rw [kM_d]
  refine st0 ?_
  refine runS (rn_ledger_Ledger_Do (l := kB) (at_ := ⟨2, 0⟩) k1 kM_ok.gok (by decide) (by decide)) ?_
  rintro _ s5 ⟨F'', k3, k4⟩
  have hb4 := h7.lt
  have h8 : LedAt s5 b kM F2 := h7.keep (k4.get d1 hb4)
  have c5 : s5.get s2.n = _ := (k4.keep _ (by have := k2.n; omega) o4).trans c4
  have m5 : Mut [] (F'' ++ F2) s s5 := m4.trans (k4.more F2)
  refine st1 c5 ?_
  refine gv (ct_ledger_Ledger_Dense (M := kN) k3 kN_ok kN_s) ?_
  rw [kN_d]
  refine st0 ?_
  refine gv (ct_ledger_Ledger_Groups (M := kN) k3 kN_ok kN_s) ?_
  refine st1 kN_l ?_
  refine gv (ct_ledger_Ledger_Groups (M := kM) h8 kM_ok kM_s) ?_
  refine st1 kM_l ?_
  refine run (rn_ledger_Ledger_Copy h8 kM_ok (by have := kM_ok.len; omega)) (by simp) ?_
  rintro _ s6 ⟨b6, F6, rfl, j1, j2⟩
  refine st0 ?_
  have h9 : LedAt s6 b kM F2 := h8.keep (j2.get (by simp) h8.lt)
  have k5 : LedAt s6 b' kN F'' := k3.keep (j2.get (by simp) k3.lt)
  refine gv (ct_ledger_Same h9 j1 kM_ok kM_ok kM_s kM_s) ?_
  refine st0 ?_
  refine gv (ct_ledger_Same h9 k5 kM_ok kN_ok kM_s kN_s) ?_
  have e6 : decide (spotsM kM = spotsM kN) = false := by rw [kM_sp, kN_sp]; decide
  rw [e6]
  refine st0 ?_
  have m6 : Mut [] _ s s6 := m5.trans (by simpa using j2.more (F'' ++ F2))
  exact ret_ok rfl ⟨⟨m6.n, fun x hx => .inl (m6.keep x hx (by simp)).symm⟩, .refl _⟩
end Go.Proofs.Ytmpoeamfcienoaa
end
section
namespace Go.Proofs.Ytmpoeamfcienoaa
open Go.Ab
set_option linter.unusedVariables false
set_option linter.unusedSimpArgs false
set_option maxRecDepth 100000
set_option maxHeartbeats 1000000
def held (n : Int) : Int := if n < 1 then 1 else if 64 < n then 64 else n
def ofG (g n : Int) : Int := (if g < 0 then 0 else g).tmod (held n)
end Go.Proofs.Ytmpoeamfcienoaa
end
section
namespace Go.Proofs.Ytmpoeamfcienoaa
open Go.Ab
set_option linter.unusedVariables false
set_option linter.unusedSimpArgs false
set_option maxRecDepth 100000
set_option maxHeartbeats 4000000
def mineP (i n : Int) (p : Prt) : Bool := decide (ofG p.gr n = i)
def pickF (i n : Int) (f : Fnd) : Fnd := { f with ps := f.ps.filter (mineP i n) }
def splitI (l : List Fnd) (i n : Int) : List Fnd := (l.map (pickF i n)).filter fun f => !f.ps.isEmpty
def split (l : List Fnd) (n : Int) : List (List Fnd) := (List.range (held n).toNat).map fun i : Nat => splitI l (i : Int) n
end Go.Proofs.Ytmpoeamfcienoaa
end
section
namespace Go.Ab
set_option linter.unusedVariables false
set_option linter.unusedSimpArgs false
def stG (g : Int) (o : Option LogV) (x : Prt × Plc) : Option LogV :=
  if isPart x.1 = true ∧ x.1.gr = g then (if x.1.kd = 5 then none else some (logDo (o.getD ⟨newG g, []⟩) x.1 x.2)) else o
theorem lk_doP (M : List (Int × LogV)) (at_ : Plc) (p : Prt) (g : Int) : lk (doP at_ M p) g = stG g (lk M g) (p, at_) := by
  unfold doP stG
  by_cases hp : isPart p = true
  · rw [if_pos hp]
    by_cases e : p.gr = g
    · subst e
      rw [if_pos (show isPart (p, at_).1 = true ∧ _ from ⟨hp, rfl⟩)]
      by_cases h5 : p.kd = 5
      · rw [if_pos h5, if_pos h5, lk_del, if_pos rfl]
      · rw [if_neg h5, if_neg h5, lk_put, if_pos rfl]
    · rw [if_neg (show ¬ (isPart (p, at_).1 = true ∧ (p, at_).1.gr = g) from fun h => e h.2)]
      by_cases h5 : p.kd = 5
      · rw [if_pos h5, lk_del, if_neg (Ne.symm e)]
      · rw [if_neg h5, lk_put, if_neg (Ne.symm e)]
  · rw [if_neg hp, if_neg (show ¬ (isPart (p, at_).1 = true ∧ (p, at_).1.gr = g) from fun h => hp h.1)]
theorem lk_doL (l : List Prt) (at_ : Plc) (g : Int) : ∀ (M : List (Int × LogV)), lk (doL M l at_) g = (l.map fun p => (p, at_)).foldl (stG g) (lk M g) := by
  unfold doL
  induction l with
  | nil => intro M; rfl
  | cons p l ih => intro M; rw [List.foldl_cons, List.map_cons, List.foldl_cons, ih, lk_doP]
theorem stG_other {g : Int} {o : Option LogV} {x : Prt × Plc} (h : x.1.gr ≠ g) : stG g o x = o := by unfold stG; rw [if_neg fun k => h k.2]
theorem fold_filter (g : Int) (p : Prt × Plc → Bool) (h : ∀ x : Prt × Plc, x.1.gr = g → p x = true) : ∀ (l : List (Prt × Plc)) (o : Option LogV), (l.filter p).foldl (stG g) o = l.foldl (stG g) o := by
  intro l
  induction l with
  | nil => intro o; rfl
  | cons x l ih =>
    intro o
    cases hp : p x with
    | true => rw [List.filter_cons_of_pos hp, List.foldl_cons, List.foldl_cons, ih]
    | false =>
      have : x.1.gr ≠ g := fun e => by rw [h x e] at hp; cases hp
      rw [List.filter_cons_of_neg (by simp [hp]), List.foldl_cons, stG_other this, ih]
theorem fold_none (g : Int) : ∀ (l : List (Prt × Plc)) (o : Option LogV), (∀ x ∈ l, x.1.gr ≠ g) → l.foldl (stG g) o = o := by
  intro l
  induction l with
  | nil => intro o _; rfl
  | cons x l ih => intro o h; rw [List.foldl_cons, stG_other (h x (by simp)), ih _ fun y hy => h y (by simp [hy])]
def runL (M : List (Int × LogV)) (l : List (List Prt × Plc)) : List (Int × LogV) := l.foldl (fun M x => doL M x.1 x.2) M
def flatP (l : List (List Prt × Plc)) : List (Prt × Plc) := l.flatMap fun x => x.1.map fun p => (p, x.2)
theorem runL_snoc {M : List (Int × LogV)} {l : List (List Prt × Plc)} {j : Nat} (h : j < l.length) : runL M (l.take (j + 1)) = doL (runL M (l.take j)) l[j].1 l[j].2 := by
  have e : l.take (j + 1) = l.take j ++ [l[j]] := (List.take_append_getElem h).symm
  rw [e, runL, List.foldl_append]; rfl
theorem MOk.runL {M : List (Int × LogV)} (hM : MOk M) (l : List (List Prt × Plc)) : MOk (runL M l) := by
  unfold Ab.runL
  induction l generalizing M with
  | nil => exact hM
  | cons x l ih => exact ih (hM.doL _ _)
theorem lk_runL (g : Int) (l : List (List Prt × Plc)) : ∀ (M : List (Int × LogV)), lk (runL M l) g = (flatP l).foldl (stG g) (lk M g) := by
  unfold runL flatP
  induction l with
  | nil => intro M; rfl
  | cons x l ih => intro M; rw [List.foldl_cons, ih, lk_doL, List.flatMap_cons, List.foldl_append]
theorem flat_filter (p : Prt → Bool) (l : List (List Prt × Plc)) : flatP (l.map fun x => (x.1.filter p, x.2)) = (flatP l).filter fun x => p x.1 := by
  unfold flatP
  induction l with
  | nil => rfl
  | cons x l ih =>
    rw [List.map_cons, List.flatMap_cons, List.flatMap_cons, List.filter_append, ih]
    congr 1
    rw [List.filter_map]; rfl
theorem lk_alone (k g : Int) (l : List (List Prt × Plc)) : lk (runL [] (l.map fun x => (x.1.filter fun p => decide (p.gr = k), x.2))) g = if g = k then lk (runL [] l) k else none := by
  rw [lk_runL, flat_filter]
  by_cases e : g = k
  · subst e
    rw [if_pos rfl, lk_runL, fold_filter g _ fun x hx => by simp [hx]]
  · rw [if_neg e, fold_none]
    · rfl
    · intro x hx
      have := (List.mem_filter.1 hx).2
      simp only [decide_eq_true_eq] at this
      omega
theorem spots_of {M N : List (Int × LogV)} (hM : MOk M) (hN : MOk N) (k : Int) (h : ∀ g, lk N g = if g = k then lk M k else none) : spotsM N = (spotsM M).filter fun s => decide (s.gr = k) := by
  apply kv_inj
  have e : kv ((spotsM M).filter fun s => decide (s.gr = k)) = (kv (spotsM M)).filter fun y => decide (y.1.1 = k) := by
    unfold kv; rw [List.filter_map]; rfl
  rw [e]
  refine (spots_srt hN).ext ((spots_srt hM).filter _) fun x => ?_
  obtain ⟨g, i⟩ := x
  rw [lk_spots hN, lk_filter _ (fun y : Int × Int => decide (y.1 = k)), lk_spots hM, h]
  by_cases e : g = k
  · subst e; simp
  · simp [e]
theorem MOk.nil' : MOk [] := ⟨.nil, by simp⟩
end Go.Ab
end
section
namespace Go.Ab
set_option linter.unusedVariables false
set_option linter.unusedSimpArgs false
def nextF (L : List (List Fnd)) (i : Int) : Option (Fnd × List Fnd) := if i < 0 then none else match L[i.toNat]? with | some (f :: r) => some (f, r) | _ => none
def stepL (L : List (List Fnd)) (i : Int) : List (List Fnd) := match nextF L i with | some (_, r) => L.set i.toNat r | none => L
def stepM (L : List (List Fnd)) (Ms : List (List (Int × LogV))) (i : Int) : List (List (Int × LogV)) := match nextF L i with | some (f, _) => Ms.set i.toNat (doL (Ms.getD i.toNat []) f.ps ⟨f.sg, f.at_⟩) | none => Ms
end Go.Ab
end
section
namespace Go.Ab
set_option linter.unusedVariables false
set_option linter.unusedSimpArgs false
def fpl (l : List Fnd) : List (List Prt × Plc) := l.map fun f => (f.ps, ⟨f.sg, f.at_⟩)
def outs (L : List (List Fnd)) (Ms : List (List (Int × LogV))) : List (List (Int × LogV)) := (L.zip Ms).map fun x => runL x.2 (fpl x.1)
end Go.Ab
end
section
namespace Go.Proofs.Ytmpoeamfcienoaa
open Go.Ab
set_option linter.unusedVariables false
set_option linter.unusedSimpArgs false
set_option maxRecDepth 100000
set_option maxHeartbeats 1000000
def rl0 : List Fnd := [⟨4, [⟨1, 2, [], 0, 0, 0, 0, 0, false, false⟩, ⟨2, 2, [], 0, 0, 0, 0, 0, false, false⟩], 3, 16⟩]
def rL0 : List (List Fnd) := split rl0 2
def rM0 : List (List (Int × LogV)) := List.replicate (held 2).toNat []
def rL1 : List (List Fnd) := stepL rL0 1
def rM1 : List (List (Int × LogV)) := stepM rL0 rM0 1
def rL2 : List (List Fnd) := stepL rL1 1
def rM2 : List (List (Int × LogV)) := stepM rL1 rM1 1
def rL3 : List (List Fnd) := stepL rL2 2
def rM3 : List (List (Int × LogV)) := stepM rL2 rM2 2
def rM4 : List (List (Int × LogV)) := outs rL3 rM3
theorem rs : (spotsM (rM4.getD 1 [])).length = 1 := by kernel_rfl
end Go.Proofs.Ytmpoeamfcienoaa
end
section
namespace Go.Proofs.Ytmpoeamfcienoaa
open Go.Ab
set_option linter.unusedVariables false
set_option linter.unusedSimpArgs false
set_option maxRecDepth 100000
set_option maxHeartbeats 1000000
theorem rem_u8 {n m : Int} (hn : 0 ≤ n) (hm : 0 < m) : 0 ≤ n.tmod m ∧ n.tmod m < m := ⟨Int.tmod_nonneg _ hn, Int.tmod_lt_of_pos _ hm⟩
end Go.Proofs.Ytmpoeamfcienoaa
end
section
namespace Go.Ab
set_option linter.unusedVariables false
def stpL (l : List Stp) : List (List Prt × Plc) := l.map fun x => (x.l, x.pl)
def alone (k : Int) (x : List Prt × Plc) : List Prt × Plc := (x.1.filter fun p => decide (p.gr = k), x.2)
structure AprI (s : AState) (bg bh : Nat) (s1 : AState) (M N : List (Int × LogV)) (F G : List Nat) : Prop where
  led : LedAt s1 bg M F
  led2 : LedAt s1 bh N G
  ap : ∀ x ∈ G, x ∉ F
  mt : Mut [] (G ++ F) s s1
theorem wt_filter (p : Prt → Bool) (l : List Prt) : wtL (l.filter p) ≤ wtL l := by
  induction l with
  | nil => simp [wtL]
  | cons x l ih =>
    cases h : p x
    · rw [List.filter_cons_of_neg (by simp [h])]; simp only [wtL, List.map_cons, List.sum_cons] at ih ⊢; omega
    · rw [List.filter_cons_of_pos h]; simp only [wtL, List.map_cons, List.sum_cons] at ih ⊢; omega
end Go.Ab
namespace Go.Proofs.Ytmpoeamfcienoaa
open Go.Ab
set_option linter.unusedVariables false
set_option linter.unusedSimpArgs false
set_option maxRecDepth 100000
set_option maxHeartbeats 1000000
theorem ct_ladelaw14_LedgerApart {l : List Stp} {id : Int} {s : AState} (hid : 0 ≤ id ∧ id < 256) (hl : (l.length : Int) < 9223372036854775808) (hps : ∀ f ∈ l, (f.l.length : Int) < 9223372036854775808) (hes : ∀ f ∈ l, ∀ p ∈ f.l, (p.es.length : Int) < 9223372036854775808) :
    Gives prog F_ladelaw14_LedgerApart [.sl (l.map Stp.av) .no, .v (.int .u8 id)] s (.v (.bool true)) s := by
  refine Runs.gives (runs_e h_ladelaw14_LedgerApart (Nat.le_of_ble_eq_true rfl) ?_) (.v _)
  repeat (first | simp -dsimp -implicitDefEqProofs (disch := first | omega | (simp <;> omega) | fail) | ((with_reducible first | apply m_1 | apply m_0); (focus ((conv => lhs; simp -dsimp -implicitDefEqProofs (disch := first | omega | (simp <;> omega) | fail)); done))) | ((with_reducible first | apply i_T | apply g_T); (focus (simp -dsimp -implicitDefEqProofs (disch := first | omega | (simp <;> omega) | fail); done))) | ((with_reducible first | apply i_F | apply g_F); (focus (simp -dsimp -implicitDefEqProofs (disch := first | omega | (simp <;> omega) | fail); done))))
  refine gv (ct_ladelaw14_known) ?_
  repeat (first | simp -dsimp -implicitDefEqProofs (disch := first | omega | (simp <;> omega) | fail) | ((with_reducible first | apply m_1 | apply m_0); (focus ((conv => lhs; simp -dsimp -implicitDefEqProofs (disch := first | omega | (simp <;> omega) | fail)); done))) | ((with_reducible first | apply i_T | apply g_T); (focus (simp -dsimp -implicitDefEqProofs (disch := first | omega | (simp <;> omega) | fail); done))) | ((with_reducible first | apply i_F | apply g_F); (focus (simp -dsimp -implicitDefEqProofs (disch := first | omega | (simp <;> omega) | fail); done))))
  refine gv (ct_ladelaw14_fewSteps hl hps hes) ?_
  cases hf : fewSteps l with
  | false =>
    repeat (first | simp -dsimp -implicitDefEqProofs (disch := first | omega | (simp <;> omega) | fail) | ((with_reducible first | apply m_1 | apply m_0); (focus ((conv => lhs; simp -dsimp -implicitDefEqProofs (disch := first | omega | (simp <;> omega) | fail)); done))) | ((with_reducible first | apply i_T | apply g_T); (focus (simp -dsimp -implicitDefEqProofs (disch := first | omega | (simp <;> omega) | fail); done))) | ((with_reducible first | apply i_F | apply g_F); (focus (simp -dsimp -implicitDefEqProofs (disch := first | omega | (simp <;> omega) | fail); done))))
    exact ret_ok rfl ⟨⟨Nat.le_refl _, fun x hx => .inl rfl⟩, .refl _⟩
  | true =>
    obtain ⟨f1, f2, f3⟩ := fewSteps_len hf
    clear hl hps hes hf
    repeat (first | simp -dsimp -implicitDefEqProofs (disch := first | omega | (simp <;> omega) | fail) | ((with_reducible first | apply m_1 | apply m_0); (focus ((conv => lhs; simp -dsimp -implicitDefEqProofs (disch := first | omega | (simp <;> omega) | fail)); done))) | ((with_reducible first | apply i_T | apply g_T); (focus (simp -dsimp -implicitDefEqProofs (disch := first | omega | (simp <;> omega) | fail); done))) | ((with_reducible first | apply i_F | apply g_F); (focus (simp -dsimp -implicitDefEqProofs (disch := first | omega | (simp <;> omega) | fail); done))))
    refine rn0 (rn_ledger_New) ?_
    rintro _ s1 ⟨bg, F0, rfl, h1, h2, h3⟩
    repeat (first | simp -dsimp -implicitDefEqProofs (disch := first | omega | (simp <;> omega) | fail) | ((with_reducible first | apply m_1 | apply m_0); (focus ((conv => lhs; simp -dsimp -implicitDefEqProofs (disch := first | omega | (simp <;> omega) | fail)); done))) | ((with_reducible first | apply i_T | apply g_T); (focus (simp -dsimp -implicitDefEqProofs (disch := first | omega | (simp <;> omega) | fail); done))) | ((with_reducible first | apply i_F | apply g_F); (focus (simp -dsimp -implicitDefEqProofs (disch := first | omega | (simp <;> omega) | fail); done))))
    refine rn0 (rn_ledger_New) ?_
    rintro _ s2 ⟨bh, G0, rfl, h4, h5, h6⟩
    repeat (first | simp -dsimp -implicitDefEqProofs (disch := first | omega | (simp <;> omega) | fail) | ((with_reducible first | apply m_1 | apply m_0); (focus ((conv => lhs; simp -dsimp -implicitDefEqProofs (disch := first | omega | (simp <;> omega) | fail)); done))) | ((with_reducible first | apply i_T | apply g_T); (focus (simp -dsimp -implicitDefEqProofs (disch := first | omega | (simp <;> omega) | fail); done))) | ((with_reducible first | apply i_F | apply g_F); (focus (simp -dsimp -implicitDefEqProofs (disch := first | omega | (simp <;> omega) | fail); done))))
    have hr := rem_u8 hid.1 (show (0 : Int) < 8 by omega)
    obtain ⟨k, hk⟩ : ∃ k : Int, k = id.tmod 8 := ⟨_, rfl⟩
    have hw : IntKind.wrap .i64 (id.tmod 8) = k := by rw [hk]; exact wrap_i64 (by omega) (by omega)
    have hj : (stpL l).length = l.length := by simp [stpL]
    have hG0 : ∀ x ∈ G0, x ∉ F0 := fun x hx hm => by have := h6 x hx; have := h1.lt x hm; omega
    refine loop_ok [0, 5, 6, 7, 8] (fun r a s3 => ∃ (j : Nat) (F G : List Nat), j + r = l.length ∧ AprI s bg bh s3 (runL [] ((stpL l).take j)) (runL [] (((stpL l).take j).map (alone k))) F G ∧
      (spotsM (runL [] ((stpL l).take j))).length ≤ 60 * j ∧ (spotsM (runL [] (((stpL l).take j).map (alone k)))).length ≤ 60 * j ∧
      a = { t := den 134 [(0, .sl (l.map Stp.av) .no), (5, .p bg 0), (6, .p bh 0), (7, .v (.int .i64 k)), (8, .v (.int .i64 j))], d := [] }) l.length ?_ ?_
    · exact ⟨0, F0, G0, by simp, ⟨h1.keep fun x hx => h5.get (h1.lt x hx), h4, hG0, (Mut.new h2 h3).trans (by simpa using (Mut.new h5 h6).more F0)⟩, by simp [runL, spotsM], by simp [runL, spotsM], by simp [hw]⟩
    clear h1 h2 h3 h4 h5 h6 hG0
    rintro r a s3 ⟨j, F, G, hjr, ⟨led, led2, ap, mt⟩, sp1, sp2, rfl⟩
    have okM : MOk (runL [] ((stpL l).take j)) := MOk.nil'.runL _
    have okN : MOk (runL [] (((stpL l).take j).map (alone k))) := MOk.nil'.runL _
    by_cases hlt : j < l.length
    · have w3 : IntKind.wrap .i64 ((j : Int) + 1) = (j : Int) + 1 := wrap_i64 (by omega) (by omega)
      have hx := List.getElem_mem hlt
      have f2 := f2 _ hx
      have f3 := f3 _ hx
      have hjs : j < (stpL l).length := by omega
      have e1 : (stpL l)[j] = (l[j].l, l[j].pl) := by simp [stpL]
      have eM : runL [] ((stpL l).take (j + 1)) = doL (runL [] ((stpL l).take j)) l[j].l l[j].pl := by rw [runL_snoc hjs, e1]
      have eN : runL [] (((stpL l).take (j + 1)).map (alone k)) = doL (runL [] (((stpL l).take j).map (alone k))) (l[j].l.filter fun p => decide (p.gr = k)) l[j].pl := by
        have e2 : (stpL l).take (j + 1) = (stpL l).take j ++ [(stpL l)[j]] := (List.take_append_getElem hjs).symm
        rw [e2, List.map_append, runL, List.foldl_append, e1]; rfl
      have q1 := spots_doL okM l[j].l l[j].pl
      have q2 := spots_doL okN (l[j].l.filter fun p => decide (p.gr = k)) l[j].pl
      have q3 := wt_filter (fun p => decide (p.gr = k)) l[j].l
      have q4 := wt_few f2 f3
      rw [← eM] at q1
      rw [← eN] at q2
      repeat (first | simp -dsimp -implicitDefEqProofs (disch := first | omega | (simp <;> omega) | fail) [hlt] | ((with_reducible first | apply m_1 | apply m_0); (focus ((conv => lhs; simp -dsimp -implicitDefEqProofs (disch := first | omega | (simp <;> omega) | fail) [hlt]); done))) | ((with_reducible first | apply i_T | apply g_T); (focus (simp -dsimp -implicitDefEqProofs (disch := first | omega | (simp <;> omega) | fail) [hlt]; done))) | ((with_reducible first | apply i_F | apply g_F); (focus (simp -dsimp -implicitDefEqProofs (disch := first | omega | (simp <;> omega) | fail) [hlt]; done))))
      refine run (rn_ledger_Ledger_Do (l := l[j].l) (at_ := l[j].pl) led okM.gok (by omega) (fun p hp => by have := f3 p hp; omega)) (by simp [Stp.pl, Plc.av, Plc.cells]) ?_
      rintro _ s4 ⟨F4, a1, a2⟩
      rw [← eM] at a1
      have led2' := led2.keep (a2.get ap led2.lt)
      have ap4 := a2.apart ap led2.lt
      have mt4 : Mut [] (G ++ F4) s s4 := mt.trans (a2.moreL G)
      repeat (first | simp -dsimp -implicitDefEqProofs (disch := first | omega | (simp <;> omega) | fail) | ((with_reducible first | apply m_1 | apply m_0); (focus ((conv => lhs; simp -dsimp -implicitDefEqProofs (disch := first | omega | (simp <;> omega) | fail)); done))) | ((with_reducible first | apply i_T | apply g_T); (focus (simp -dsimp -implicitDefEqProofs (disch := first | omega | (simp <;> omega) | fail); done))) | ((with_reducible first | apply i_F | apply g_F); (focus (simp -dsimp -implicitDefEqProofs (disch := first | omega | (simp <;> omega) | fail); done))))
      clear a2 eM
      have hlF := a1.lt
      have hlG := led2'.lt
      refine loop_ok [0, 5, 6, 7, 8, 9, 10] (fun r2 a s5 => ∃ (q : Nat) (tk : Tok), q + r2 = l[j].l.length ∧ Grows s4 s5 ∧ May s4.n s5 (((l[j].l.take q).filter fun p => decide (p.gr = k)).map Prt.av) tk ∧
        a = { t := den 134 [(0, .sl (l.map Stp.av) .no), (5, .p bg 0), (6, .p bh 0), (7, .v (.int .i64 k)), (8, .v (.int .i64 j)), (9, .sl (((l[j].l.take q).filter fun p => decide (p.gr = k)).map Prt.av) tk), (10, .v (.int .i64 q))], d := [] }) l[j].l.length ?_ ?_
      · exact ⟨0, .zero, by simp, .refl _, trivial, by simp⟩
      rintro r2 a s5 ⟨q, tk, hq2, hgr, hmay, rfl⟩
      have hn5 := hgr.n
      by_cases hqt : q < l[j].l.length
      · have w4 : IntKind.wrap .i64 ((q : Int) + 1) = (q : Int) + 1 := wrap_i64 (by omega) (by omega)
        have hfl : ((l[j].l.take q).filter fun p => decide (p.gr = k)).length ≤ q := Nat.le_trans (List.length_filter_le _ _) (by simp; omega)
        have hft := ftake (p := fun p : Prt => decide (p.gr = k)) hqt
        by_cases hg : l[j].l[q].gr = k
        · rw [if_pos (by simpa using hg)] at hft
          repeat (first | simp -dsimp -implicitDefEqProofs (disch := first | omega | (simp <;> omega) | fail) [hlt, hqt, hg] | ((with_reducible first | apply m_1 | apply m_0); (focus ((conv => lhs; simp -dsimp -implicitDefEqProofs (disch := first | omega | (simp <;> omega) | fail) [hlt, hqt, hg]); done))) | ((with_reducible first | apply i_T | apply g_T); (focus (simp -dsimp -implicitDefEqProofs (disch := first | omega | (simp <;> omega) | fail) [hlt, hqt, hg]; done))) | ((with_reducible first | apply i_F | apply g_F); (focus (simp -dsimp -implicitDefEqProofs (disch := first | omega | (simp <;> omega) | fail) [hlt, hqt, hg]; done))))
          refine m_app (xs := ((l[j].l.take q).filter fun p => decide (p.gr = k)).map Prt.av) (tk := tk) (ys := [(l[j].l[q]).av]) (t2 := .zero) (B := s4) (N := s4.n) (by simp) (by simp) hgr (Nat.le_refl _) hn5 hmay (head_map Prt.row _) (by simp) (by simp; omega) (by simp; omega) ?_
          intro s6 tk2 hg6 hm6 _ _
          repeat (first | simp -dsimp -implicitDefEqProofs (disch := first | omega | (simp <;> omega) | fail) | ((with_reducible first | apply m_1 | apply m_0); (focus ((conv => lhs; simp -dsimp -implicitDefEqProofs (disch := first | omega | (simp <;> omega) | fail)); done))) | ((with_reducible first | apply i_T | apply g_T); (focus (simp -dsimp -implicitDefEqProofs (disch := first | omega | (simp <;> omega) | fail); done))) | ((with_reducible first | apply i_F | apply g_F); (focus (simp -dsimp -implicitDefEqProofs (disch := first | omega | (simp <;> omega) | fail); done))))
          refine ⟨r2 - 1, by omega, q + 1, tk2, by omega, hg6, ?_, ?_⟩
          · rw [hft]; simpa using hm6
          · rw [hft]; simp [w4]
        · rw [if_neg (by simpa using hg), List.append_nil] at hft
          repeat (first | simp -dsimp -implicitDefEqProofs (disch := first | omega | (simp <;> omega) | fail) [hlt, hqt, hg] | ((with_reducible first | apply m_1 | apply m_0); (focus ((conv => lhs; simp -dsimp -implicitDefEqProofs (disch := first | omega | (simp <;> omega) | fail) [hlt, hqt, hg]); done))) | ((with_reducible first | apply i_T | apply g_T); (focus (simp -dsimp -implicitDefEqProofs (disch := first | omega | (simp <;> omega) | fail) [hlt, hqt, hg]; done))) | ((with_reducible first | apply i_F | apply g_F); (focus (simp -dsimp -implicitDefEqProofs (disch := first | omega | (simp <;> omega) | fail) [hlt, hqt, hg]; done))))
          exact ⟨r2 - 1, by omega, q + 1, tk, by omega, hgr, by rw [hft]; exact hmay, by rw [hft]; simp [w4]⟩
      · have hqe : q = l[j].l.length := by omega
        subst hqe
        rw [List.take_length] at hmay ⊢
        repeat (first | simp -dsimp -implicitDefEqProofs (disch := first | omega | (simp <;> omega) | fail) [hlt, hqt] | ((with_reducible first | apply m_1 | apply m_0); (focus ((conv => lhs; simp -dsimp -implicitDefEqProofs (disch := first | omega | (simp <;> omega) | fail) [hlt, hqt]); done))) | ((with_reducible first | apply i_T | apply g_T); (focus (simp -dsimp -implicitDefEqProofs (disch := first | omega | (simp <;> omega) | fail) [hlt, hqt]; done))) | ((with_reducible first | apply i_F | apply g_F); (focus (simp -dsimp -implicitDefEqProofs (disch := first | omega | (simp <;> omega) | fail) [hlt, hqt]; done))))
        refine runS (rn_ledger_Ledger_Do (l := l[j].l.filter fun p => decide (p.gr = k)) (at_ := l[j].pl) (led2'.keep fun x hx => hgr.get (hlG x hx)) okN.gok (by have := List.length_filter_le (fun p : Prt => decide (p.gr = k)) l[j].l; omega) (fun p hp => by have := f3 p (List.mem_filter.1 hp).1; omega)) ?_
        rintro _ s6 ⟨G6, b1, b2⟩
        rw [← eN] at b1
        have hF4 : ∀ x ∈ F4, x ∉ G := fun x hx hm => ap4 x hm hx
        have apx := b2.apart hF4 (fun x hx => by have := hlF x hx; omega)
        have mt6 : Mut [] (G6 ++ F4) s s6 := (mt4.trans (.grows hgr)).trans (b2.more F4)
        repeat (first | simp -dsimp -implicitDefEqProofs (disch := first | omega | (simp <;> omega) | fail) | ((with_reducible first | apply m_1 | apply m_0); (focus ((conv => lhs; simp -dsimp -implicitDefEqProofs (disch := first | omega | (simp <;> omega) | fail)); done))) | ((with_reducible first | apply i_T | apply g_T); (focus (simp -dsimp -implicitDefEqProofs (disch := first | omega | (simp <;> omega) | fail); done))) | ((with_reducible first | apply i_F | apply g_F); (focus (simp -dsimp -implicitDefEqProofs (disch := first | omega | (simp <;> omega) | fail); done))))
        exact ⟨r - 1, by omega, j + 1, F4, G6, by omega, ⟨(a1.keep fun x hx => hgr.get (hlF x hx)).keep (b2.get hF4 fun x hx => by have := hlF x hx; omega), b1, fun x hx hm => apx x hm hx, mt6⟩, by omega, by omega, by simp [w3]⟩
    · have hje : j = l.length := by omega
      subst hje
      rw [List.take_of_length_le (by omega)] at led led2 okM okN sp1 sp2
      have hal : ∀ g, lk (runL [] ((stpL l).map (alone k))) g = if g = k then lk (runL [] (stpL l)) k else none := fun g => lk_alone k g (stpL l)
      have hsp := spots_of okM okN k hal
      have hlk := hal k
      rw [if_pos rfl] at hlk
      generalize runL [] ((stpL l).map (alone k)) = N at led2 okN sp2 hsp hlk hal ⊢
      generalize runL [] (stpL l) = M at led okM sp1 hsp hlk hal ⊢
      have smM := okM.small (by omega)
      have smN := okN.small (by omega)
      have hes : (((lk M k).map (·.g)).getD zeroG).es.length < 9223372036854775807 := by
        cases h : lk M k with
        | none => simp [zeroG]
        | some v => have := smM.es (k, v) (lk_mem h); simp at this ⊢; omega
      refine st1 hlt ?_
      refine gv (ct_ledger_Ledger_Get (i := k) led smM) ?_
      refine st0 ?_
      have led2k := fun (o : AObj) => led2.keep (s' := s3.alloc o) fun x hx => get_alloc_ne (by have := led2.lt x hx; omega)
      have ledk := fun (o : AObj) => led.keep (s' := s3.alloc o) fun x hx => get_alloc_ne (by have := led.lt x hx; omega)
      refine gv (ct_ledger_Ledger_Get (i := k) (led2k _) smN) ?_
      rw [hlk]
      refine st0 ?_
      have h11 : ∀ o1 o2 : AObj, ((s3.alloc o1).alloc o2).get s3.n = o1 := fun o1 o2 => by rw [get_alloc_ne (by simp)]; exact get_alloc_eq rfl
      have h13 : ∀ o1 o2 : AObj, ((s3.alloc o1).alloc o2).get (s3.n + 1) = o2 := fun o1 o2 => get_alloc_eq (by simp)
      have hg2 : ∀ o1 o2 : AObj, Grows s3 ((s3.alloc o1).alloc o2) := fun o1 o2 => ((Grows.refl s3).alloc _).alloc _
      generalize ((lk M k).map (·.g)).getD zeroG = A at hes h11 h13 hg2 ⊢
      have h11 := h11 (.cells A.cells) (.cells A.cells)
      have h13 := h13 (.cells A.cells) (.cells A.cells)
      have hg2 := hg2 (.cells A.cells) (.cells A.cells)
      generalize (s3.alloc (.cells A.cells)).alloc (.cells A.cells) = s4 at h11 h13 hg2 ⊢
      have led4 := led.keep fun x hx => hg2.get (led.lt x hx)
      have led24 := led2.keep fun x hx => hg2.get (led2.lt x hx)
      have hn4 := hg2.n
      have hc11 : s3.n < s4.n := AState.lt_of_get h11 (by simp)
      have hc13 : s3.n + 1 < s4.n := AState.lt_of_get h13 (by simp)
      refine gv (ct_ledger_Ledger_Spots led4 okM smM) ?_
      have hS2 := smM.sp
      repeat (first | simp -dsimp -implicitDefEqProofs (disch := first | omega | (simp <;> omega) | fail) | ((with_reducible first | apply m_1 | apply m_0); (focus ((conv => lhs; simp -dsimp -implicitDefEqProofs (disch := first | omega | (simp <;> omega) | fail)); done))) | ((with_reducible first | apply i_T | apply g_T); (focus (simp -dsimp -implicitDefEqProofs (disch := first | omega | (simp <;> omega) | fail); done))) | ((with_reducible first | apply i_F | apply g_F); (focus (simp -dsimp -implicitDefEqProofs (disch := first | omega | (simp <;> omega) | fail); done))))
      refine loop_ok [5, 6, 7, 11, 12, 13, 14, 15, 16, 17] (fun r a s5 => ∃ (q : Nat) (tk : Tok), q + r = (spotsM M).length ∧ Grows s4 s5 ∧ May s4.n s5 ((((spotsM M).take q).filter fun x => decide (x.gr = k)).map Spt.av) tk ∧
        a = { t := den 134 [(5, .p bg 0), (6, .p bh 0), (7, .v (.int .i64 k)), (11, .p s3.n 0), (12, .v (.bool (lk M k).isSome)), (13, .p (s3.n + 1) 0), (14, .v (.bool (lk M k).isSome)), (15, .sl ((((spotsM M).take q).filter fun x => decide (x.gr = k)).map Spt.av) tk), (16, .sl ((spotsM M).map Spt.av) .no), (17, .v (.int .i64 q))], d := [] }) (spotsM M).length ?_ ?_
      · exact ⟨0, .zero, by simp, .refl _, trivial, by simp [hw]⟩
      rintro r a s5 ⟨q, tk, hq2, hgr, hmay, rfl⟩
      have hn5 := hgr.n
      by_cases hqt : q < (spotsM M).length
      · have w4 : IntKind.wrap .i64 ((q : Int) + 1) = (q : Int) + 1 := wrap_i64 (by omega) (by omega)
        have hfl : (((spotsM M).take q).filter fun x => decide (x.gr = k)).length ≤ q := Nat.le_trans (List.length_filter_le _ _) (by simp; omega)
        have hft := ftake (p := fun x : Spt => decide (x.gr = k)) hqt
        by_cases hg : (spotsM M)[q].gr = k
        · rw [if_pos (by simpa using hg)] at hft
          repeat (first | simp -dsimp -implicitDefEqProofs (disch := first | omega | (simp <;> omega) | fail) [hqt, hg] | ((with_reducible first | apply m_1 | apply m_0); (focus ((conv => lhs; simp -dsimp -implicitDefEqProofs (disch := first | omega | (simp <;> omega) | fail) [hqt, hg]); done))) | ((with_reducible first | apply i_T | apply g_T); (focus (simp -dsimp -implicitDefEqProofs (disch := first | omega | (simp <;> omega) | fail) [hqt, hg]; done))) | ((with_reducible first | apply i_F | apply g_F); (focus (simp -dsimp -implicitDefEqProofs (disch := first | omega | (simp <;> omega) | fail) [hqt, hg]; done))))
          refine m_app (xs := (((spotsM M).take q).filter fun x => decide (x.gr = k)).map Spt.av) (tk := tk) (ys := [((spotsM M)[q]).av]) (t2 := .zero) (B := s4) (N := s4.n) (by simp) (by simp) hgr (Nat.le_refl _) hn5 hmay (head_map Spt.row _) (by simp) (by simp; omega) (by simp; omega) ?_
          intro s6 tk2 hg6 hm6 _ _
          repeat (first | simp -dsimp -implicitDefEqProofs (disch := first | omega | (simp <;> omega) | fail) | ((with_reducible first | apply m_1 | apply m_0); (focus ((conv => lhs; simp -dsimp -implicitDefEqProofs (disch := first | omega | (simp <;> omega) | fail)); done))) | ((with_reducible first | apply i_T | apply g_T); (focus (simp -dsimp -implicitDefEqProofs (disch := first | omega | (simp <;> omega) | fail); done))) | ((with_reducible first | apply i_F | apply g_F); (focus (simp -dsimp -implicitDefEqProofs (disch := first | omega | (simp <;> omega) | fail); done))))
          refine ⟨r - 1, by omega, q + 1, tk2, by omega, hg6, ?_, ?_⟩
          · rw [hft]; simpa using hm6
          · rw [hft]; simp [w4]
        · rw [if_neg (by simpa using hg), List.append_nil] at hft
          repeat (first | simp -dsimp -implicitDefEqProofs (disch := first | omega | (simp <;> omega) | fail) [hqt, hg] | ((with_reducible first | apply m_1 | apply m_0); (focus ((conv => lhs; simp -dsimp -implicitDefEqProofs (disch := first | omega | (simp <;> omega) | fail) [hqt, hg]); done))) | ((with_reducible first | apply i_T | apply g_T); (focus (simp -dsimp -implicitDefEqProofs (disch := first | omega | (simp <;> omega) | fail) [hqt, hg]; done))) | ((with_reducible first | apply i_F | apply g_F); (focus (simp -dsimp -implicitDefEqProofs (disch := first | omega | (simp <;> omega) | fail) [hqt, hg]; done))))
          exact ⟨r - 1, by omega, q + 1, tk, by omega, hgr, by rw [hft]; exact hmay, by rw [hft]; simp [w4]⟩
      · have hqe : q = (spotsM M).length := by omega
        subst hqe
        rw [List.take_length, ← hsp]
        have hfl := smN.sp
        refine st3 hqt ((hgr.get hc11).trans h11) ((hgr.get hc13).trans h13) ?_
        refine gv (ct_laderef6_Same (a := A) (b := A) (by omega)) ?_
        refine st0 ?_
        refine gv (ct_ledger_Ledger_Spots (led24.keep fun x hx => hgr.get (led24.lt x hx)) okN smN) ?_
        refine st0 ?_
        refine gv (ct_laderef13_SameSpots (l := spotsM N) (m := spotsM N) (by omega)) ?_
        refine st0 ?_
        have m9 := (mt.trans (.grows hg2)).trans (.grows hgr)
        exact ret_ok rfl ⟨⟨m9.n, fun x hx => .inl (m9.keep x hx (by simp)).symm⟩, .refl _⟩
end Go.Proofs.Ytmpoeamfcienoaa
end
