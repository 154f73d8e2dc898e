/- Going on. -/
import Derived.Shelf.SlGeneric
import Derived.Ground.GgzProg
import Derived.Ground.SlgmProg
import Derived.Ground.SlmcProg
import Derived.Shelf.SlIterI.Nil
import Derived.Shelf.SlMaps.Clone
import Derived.Shelf.SortM.Plain
import Derived.Shelf.SortM.SortNone
import Derived.Test.YtmpoeamfcienoaaKLD15
section
namespace Go.Proofs
open Go.Shelf
def Try.sh_maps_Clone_Place_ren : Go.Shelf.Ren := ⟨fun | 5 => 45 | 7 => 81 | n => n, fun | 23 => 92 | 25 => 3 | 3 => 41 | 4 => 4 | 20 => 20 | n => n, fun | n => n⟩
theorem Try.sh_maps_Clone_Place : Go.Proofs.SlLaysW.n5 Try.prog Try.sh_maps_Clone_Place_ren := {
  mixed := by kernel_rfl
  f5 := ⟨Try.f45.name, by decide, Try.func45.trans (congrArg some (by kernel_rfl))⟩
  f7 := Try.func81.trans (congrArg some (by kernel_rfl))
  t4 := Try.underlying4
  a4 := Try.isAgg4
  z4 := Try.sizeOf4
  v4 := Try.zeroValue4
  t20 := Try.underlying20
  a20 := Try.isAgg20
  z20 := Try.sizeOf20
  v20 := Try.zeroValue20
  t23 := Try.underlying92
  a23 := Try.isAgg92
  z23 := Try.sizeOf92
  v23 := Try.zeroValue92 }
def Try.sh_slices_Sorted_int_ren : Go.Shelf.Ren := ⟨fun | 6 => 60 | 8 => 106 | 9 => 107 | 11 => 131 | 13 => 133 | 12 => 132 | 23 => 150 | 24 => 151 | 14 => 141 | 15 => 142 | 16 => 143 | 17 => 144 | 18 => 145 | 19 => 146 | 20 => 147 | 21 => 148 | 22 => 149 | 25 => 153 | 26 => 154 | 27 => 155 | 28 => 156 | 29 => 157 | 30 => 158 | 31 => 159 | n => n, fun | 26 => 3 | 28 => 112 | 24 => 114 | 0 => 0 | 3 => 3 | 37 => 60 | 48 => 195 | 50 => 197 | 4 => 4 | 40 => 187 | 39 => 186 | 45 => 192 | 5 => 5 | 9 => 9 | 51 => 199 | 55 => 203 | 57 => 205 | 58 => 206 | 33 => 86 | n => n, fun | n => n⟩
theorem Try.sh_slices_Sorted_int : Go.Proofs.SlLaysZI.n6 Try.prog Try.sh_slices_Sorted_int_ren := {
  mixed := by kernel_rfl
  f6 := ⟨Try.f60.name, by decide, Try.func60.trans (congrArg some (by kernel_rfl))⟩
  f8 := ⟨Try.f106.name, by decide, Try.func106.trans (congrArg some (by kernel_rfl))⟩
  f11 := ⟨Try.f131.name, by decide, Try.func131.trans (congrArg some (by kernel_rfl))⟩
  t0 := Try.underlying0
  a0 := Try.isAgg0
  z0 := Try.sizeOf0
  v0 := Try.zeroValue0
  t24 := Try.underlying114
  a24 := Try.isAgg114
  z24 := Try.sizeOf114
  v24 := Try.zeroValue114
  t26 := Try.underlying3
  a26 := Try.isAgg3
  z26 := Try.sizeOf3
  v26 := Try.zeroValue3
  t28 := Try.underlying112
  a28 := Try.isAgg112
  z28 := Try.sizeOf112
  v28 := Try.zeroValue112
  i26 := by kernel_rfl }
def Try.sh_maps_Keys_Place_ren : Go.Shelf.Ren := ⟨fun | 7 => 61 | 10 => 108 | n => n, fun | 23 => 92 | 26 => 3 | 3 => 41 | 28 => 112 | 0 => 0 | 27 => 111 | 33 => 86 | 4 => 4 | n => n, fun | n => n⟩
theorem Try.sh_maps_Keys_Place : Go.Proofs.SlLaysZI.n7 Try.prog Try.sh_maps_Keys_Place_ren := {
  mixed := by kernel_rfl
  f7 := ⟨Try.f61.name, by decide, Try.func61.trans (congrArg some (by kernel_rfl))⟩
  f10 := ⟨Try.f108.name, by decide, Try.func108.trans (congrArg some (by kernel_rfl))⟩
  t0 := Try.underlying0
  a0 := Try.isAgg0
  z0 := Try.sizeOf0
  v0 := Try.zeroValue0
  t4 := Try.underlying4
  a4 := Try.isAgg4
  z4 := Try.sizeOf4
  v4 := Try.zeroValue4
  t23 := Try.underlying92
  a23 := Try.isAgg92
  z23 := Try.sizeOf92
  v23 := Try.zeroValue92
  t26 := Try.underlying3
  a26 := Try.isAgg3
  z26 := Try.sizeOf3
  v26 := Try.zeroValue3
  t27 := Try.underlying111
  a27 := Try.isAgg111
  z27 := Try.sizeOf111
  v27 := Try.zeroValue111
  t28 := Try.underlying112
  a28 := Try.isAgg112
  z28 := Try.sizeOf112
  v28 := Try.zeroValue112
  t33 := Try.underlying86
  a33 := Try.isAgg86
  z33 := Try.sizeOf86
  v33 := Try.zeroValue86 }
def Try.sh_slices_Sort_int_ren : Go.Shelf.Ren := ⟨fun | 5 => 107 | 8 => 133 | 7 => 132 | 19 => 150 | 20 => 151 | 10 => 141 | 11 => 142 | 12 => 143 | 13 => 144 | 14 => 145 | 15 => 146 | 16 => 147 | 17 => 148 | 18 => 149 | 30 => 153 | 31 => 154 | 32 => 155 | 33 => 156 | 34 => 157 | 35 => 158 | 40 => 159 | n => n, fun | 23 => 114 | 25 => 3 | 3 => 3 | 32 => 60 | 22 => 114 | 0 => 0 | 44 => 195 | 46 => 197 | 4 => 4 | 36 => 187 | 35 => 186 | 41 => 192 | 5 => 5 | 9 => 9 | 53 => 199 | 57 => 203 | 63 => 205 | 64 => 206 | n => n, fun | n => n⟩
theorem Try.sh_slices_Sort_int : Go.Proofs.SlLaysM.n5 Try.prog Try.sh_slices_Sort_int_ren := {
  mixed := by kernel_rfl
  f5 := ⟨Try.f107.name, by decide, Try.func107.trans (congrArg some (by kernel_rfl))⟩
  f7 := ⟨Try.f132.name, by decide, Try.func132.trans (congrArg some (by kernel_rfl))⟩
  f8 := Try.func133.trans (congrArg some (by kernel_rfl))
  f10 := ⟨Try.f141.name, by decide, Try.func141.trans (congrArg some (by kernel_rfl))⟩
  f11 := ⟨Try.f142.name, by decide, Try.func142.trans (congrArg some (by kernel_rfl))⟩
  f12 := ⟨Try.f143.name, by decide, Try.func143.trans (congrArg some (by kernel_rfl))⟩
  f13 := ⟨Try.f144.name, by decide, Try.func144.trans (congrArg some (by kernel_rfl))⟩
  f14 := ⟨Try.f145.name, by decide, Try.func145.trans (congrArg some (by kernel_rfl))⟩
  f15 := ⟨Try.f146.name, by decide, Try.func146.trans (congrArg some (by kernel_rfl))⟩
  f16 := ⟨Try.f147.name, by decide, Try.func147.trans (congrArg some (by kernel_rfl))⟩
  f17 := ⟨Try.f148.name, by decide, Try.func148.trans (congrArg some (by kernel_rfl))⟩
  f18 := ⟨Try.f149.name, by decide, Try.func149.trans (congrArg some (by kernel_rfl))⟩
  f19 := Try.func150.trans (congrArg some (by kernel_rfl))
  f20 := Try.func151.trans (congrArg some (by kernel_rfl))
  f30 := ⟨Try.f153.name, by decide, Try.func153.trans (congrArg some (by kernel_rfl))⟩
  f31 := Try.func154.trans (congrArg some (by kernel_rfl))
  f32 := Try.func155.trans (congrArg some (by kernel_rfl))
  f33 := ⟨Try.f156.name, by decide, Try.func156.trans (congrArg some (by kernel_rfl))⟩
  f34 := ⟨Try.f157.name, by decide, Try.func157.trans (congrArg some (by kernel_rfl))⟩
  f35 := ⟨Try.f158.name, by decide, Try.func158.trans (congrArg some (by kernel_rfl))⟩
  f40 := ⟨Try.f159.name, by decide, Try.func159.trans (congrArg some (by kernel_rfl))⟩
  t0 := Try.underlying0
  a0 := Try.isAgg0
  z0 := Try.sizeOf0
  v0 := Try.zeroValue0
  t3 := Try.underlying3
  a3 := Try.isAgg3
  z3 := Try.sizeOf3
  v3 := Try.zeroValue3
  t4 := Try.underlying4
  a4 := Try.isAgg4
  z4 := Try.sizeOf4
  v4 := Try.zeroValue4
  t5 := Try.underlying5
  a5 := Try.isAgg5
  z5 := Try.sizeOf5
  v5 := Try.zeroValue5
  t9 := Try.underlying9
  a9 := Try.isAgg9
  z9 := Try.sizeOf9
  v9 := Try.zeroValue9
  t22 := Try.underlying114
  a22 := Try.isAgg114
  z22 := Try.sizeOf114
  v22 := Try.zeroValue114
  t23 := Try.underlying114
  a23 := Try.isAgg114
  z23 := Try.sizeOf114
  v23 := Try.zeroValue114
  t25 := Try.underlying3
  a25 := Try.isAgg3
  z25 := Try.sizeOf3
  v25 := Try.zeroValue3
  t32 := Try.underlying60
  a32 := Try.isAgg60
  z32 := Try.sizeOf60
  v32 := Try.zeroValue60
  t35 := Try.underlying186
  a35 := Try.isAgg186
  z35 := Try.sizeOf186
  v35 := Try.zeroValue186
  t36 := Try.underlying187
  a36 := Try.isAgg187
  z36 := Try.sizeOf187
  v36 := Try.zeroValue187
  t41 := Try.underlying192
  a41 := Try.isAgg192
  z41 := Try.sizeOf192
  v41 := Try.zeroValue192
  t44 := Try.underlying195
  a44 := Try.isAgg195
  z44 := Try.sizeOf195
  v44 := Try.zeroValue195
  t46 := Try.underlying197
  a46 := Try.isAgg197
  z46 := Try.sizeOf197
  v46 := Try.zeroValue197
  t53 := Try.underlying199
  a53 := Try.isAgg199
  z53 := Try.sizeOf199
  v53 := Try.zeroValue199
  t57 := Try.underlying203
  a57 := Try.isAgg203
  z57 := Try.sizeOf203
  v57 := Try.zeroValue203
  t63 := Try.underlying205
  a63 := Try.isAgg205
  z63 := Try.sizeOf205
  v63 := Try.zeroValue205
  t64 := Try.underlying206
  a64 := Try.isAgg206
  z64 := Try.sizeOf206
  v64 := Try.zeroValue206 }
def Try.sh_maps_Keys_Log_ren : Go.Shelf.Ren := ⟨fun | 7 => 113 | 10 => 134 | n => n, fun | 23 => 117 | 26 => 3 | 3 => 24 | 28 => 112 | 0 => 0 | 27 => 111 | 33 => 86 | 4 => 4 | n => n, fun | n => n⟩
theorem Try.sh_maps_Keys_Log : Go.Proofs.SlLaysZI.n7 Try.prog Try.sh_maps_Keys_Log_ren := {
  mixed := by kernel_rfl
  f7 := ⟨Try.f113.name, by decide, Try.func113.trans (congrArg some (by kernel_rfl))⟩
  f10 := ⟨Try.f134.name, by decide, Try.func134.trans (congrArg some (by kernel_rfl))⟩
  t0 := Try.underlying0
  a0 := Try.isAgg0
  z0 := Try.sizeOf0
  v0 := Try.zeroValue0
  t4 := Try.underlying4
  a4 := Try.isAgg4
  z4 := Try.sizeOf4
  v4 := Try.zeroValue4
  t23 := Try.underlying117
  a23 := Try.isAgg117
  z23 := Try.sizeOf117
  v23 := Try.zeroValue117
  t26 := Try.underlying3
  a26 := Try.isAgg3
  z26 := Try.sizeOf3
  v26 := Try.zeroValue3
  t27 := Try.underlying111
  a27 := Try.isAgg111
  z27 := Try.sizeOf111
  v27 := Try.zeroValue111
  t28 := Try.underlying112
  a28 := Try.isAgg112
  z28 := Try.sizeOf112
  v28 := Try.zeroValue112
  t33 := Try.underlying86
  a33 := Try.isAgg86
  z33 := Try.sizeOf86
  v33 := Try.zeroValue86 }
end Go.Proofs
end
section
namespace Go.Proofs.Ytmpoeamfcienoaa
open Go.Ab Go.Maps
set_option linter.unusedVariables false
set_option linter.unusedSimpArgs false
set_option maxRecDepth 100000
set_option maxHeartbeats 4000000
theorem sortsI (m : Nat) : AnyZI.SortsIn Try.prog Try.sh_slices_Sorted_int_ren Fence.wide m :=
  ⟨fun blk off cap ss W hH hblk hsz => callsIn_wide.2 (AnyM.slices_Sort_int Try.sh_slices_Sort_int blk off cap ss W hH hblk hsz),
   fun p cap W => callsIn_wide.2 (AnyM.slices_Sort_int_none Try.sh_slices_Sort_int p cap W)⟩
theorem ct_sorted_Place {β : Type} {s : AState} {cb b : Nat} {enc : β → AV} {A B : List (Int × β)} (hcb : s.get cb = .cells [.m b]) (hb : s.get b = .map (encM enc A)) (hAB : Rep A B)
    (hw : ∀ x ∈ B, -9223372036854775808 ≤ x.1 ∧ x.1 < 9223372036854775808) (hlen : B.length * 8 ≤ 140737488355328) :
    Gives prog F_slices_Sorted_int [.f (.func F_maps_Keys_Place_1) [] [.p cb 0]] s (.sl ((B.map (·.1)).map fun n => .v (.int .i64 n)) .no) s := by
  refine Runs.sorted (kt := Try.sh_maps_Keys_Place_ren.t 26) (T := Try.sh_slices_Sorted_int_ren.t 26) (enters_of Try.func60 (by kernel_rfl) rfl) hcb hb hAB hw Try.sh_maps_Keys_Place.t26 hlen ?_
  intro w Bm r D0 hc hlt hown hsz
  have hseq := AnyZI.keys_gives (ρ := Try.sh_maps_Keys_Place_ren) { Try.sh_maps_Keys_Place with } Fence.wide 2 trivial rfl (by omega) Bm r _ D0 w hlt hc hown
  have := AnyZI.sorted_in Try.sh_slices_Sorted_int Fence.wide 5 trivial trivial trivial trivial rfl (by omega) (sortsI _) (enters_of Try.func107 (by kernel_rfl) rfl) F_maps_Keys_Place_1 #[.pointer (some ⟨Bm, 0, none⟩)] trivial (enters_of Try.func108 (by kernel_rfl) rfl) _ (Maps.size D0)
    (by have e : maxLen = 9223372036854775807 := rfl; omega) (by omega) w hseq
  exact (callsIn_wide (n := 5)).1 this
theorem ct_maps_Keys_Place {b : Nat} {s : AState} : Gives prog F_maps_Keys_Place [.m b] s (.f (.func F_maps_Keys_Place_1) [] [.p s.n 0]) (s.alloc (.cells [.m b])) := by
  refine runs_e h_maps_Keys_Place (Nat.le_of_ble_eq_true rfl) ?_
  refine st0 ?_
  exact ret_ok rfl ⟨rfl, rfl⟩
theorem ct_sorted_Log {β : Type} {s : AState} {cb b : Nat} {enc : β → AV} {A B : List (Int × β)} (hcb : s.get cb = .cells [.m b]) (hb : s.get b = .map (encM enc A)) (hAB : Rep A B)
    (hw : ∀ x ∈ B, -9223372036854775808 ≤ x.1 ∧ x.1 < 9223372036854775808) (hlen : B.length * 8 ≤ 140737488355328) :
    Gives prog F_slices_Sorted_int [.f (.func F_maps_Keys_Log_1) [] [.p cb 0]] s (.sl ((B.map (·.1)).map fun n => .v (.int .i64 n)) .no) s := by
  refine Runs.sorted (kt := Try.sh_maps_Keys_Log_ren.t 26) (T := Try.sh_slices_Sorted_int_ren.t 26) (enters_of Try.func60 (by kernel_rfl) rfl) hcb hb hAB hw Try.sh_maps_Keys_Log.t26 hlen ?_
  intro w Bm r D0 hc hlt hown hsz
  have hseq := AnyZI.keys_gives (ρ := Try.sh_maps_Keys_Log_ren) { Try.sh_maps_Keys_Log with } Fence.wide 2 trivial rfl (by omega) Bm r _ D0 w hlt hc hown
  have := AnyZI.sorted_in Try.sh_slices_Sorted_int Fence.wide 5 trivial trivial trivial trivial rfl (by omega) (sortsI _) (enters_of Try.func107 (by kernel_rfl) rfl) F_maps_Keys_Log_1 #[.pointer (some ⟨Bm, 0, none⟩)] trivial (enters_of Try.func134 (by kernel_rfl) rfl) _ (Maps.size D0)
    (by have e : maxLen = 9223372036854775807 := rfl; omega) (by omega) w hseq
  exact (callsIn_wide (n := 5)).1 this
theorem ct_maps_Keys_Log {b : Nat} {s : AState} : Gives prog F_maps_Keys_Log [.m b] s (.f (.func F_maps_Keys_Log_1) [] [.p s.n 0]) (s.alloc (.cells [.m b])) := by
  refine runs_e h_maps_Keys_Log (Nat.le_of_ble_eq_true rfl) ?_
  refine st0 ?_
  exact ret_ok rfl ⟨rfl, rfl⟩
theorem ct_maps_Clone_Place {κ β : Type} [DecidableEq κ] [KE κ] {s : AState} {b : Nat} {enc : β → AV} {A : List (κ × β)} (hb : s.get b = .map (encM enc A)) : Gives prog F_maps_Clone_Place [.m b] s (.m s.n) (s.alloc (.map (encM enc A))) :=
  Runs.clone (enters_of Try.func45 (by kernel_rfl) rfl) hb fun w r es clock h => AnyW.maps_Clone Try.sh_maps_Clone_Place r es clock w h
theorem ct_slices_Clone_Entry {es : List Ent} {s : AState} (hlen : es.length * 32 ≤ 140737488355328) : Gives prog F_slices_Clone_Entry [.sl (es.map Ent.av) .no] s (.sl (es.map Ent.av) .no) s := by
  refine Runs.gives' (runs_e h_slices_Clone_Entry (Nat.le_of_ble_eq_true rfl) ?_) (flat_sl Ent.row _)
  refine st0 ?_
  refine i_N (fun hne => ?_) (fun hne b => ?_)
  · refine st0 ?_
    refine m_app (xs := []) (tk := .zero) (B := s) (N := s.n) (by simp) (by simp; exact ⟨rfl, rfl⟩) (Grows.refl s) (Nat.le_refl _) (Nat.le_refl _) trivial (by simp) (by simp) (by simp; omega) (by simp; omega) ?_
    intro s' tk2 hg hm _ _
    refine st0 ?_
    exact ret_ok rfl ⟨hg, by simpa using AV.le_no _ _⟩
  · have : es = [] := by simpa using hne
    subst this
    cases b
    · refine st0 ?_
      exact ret_ok rfl ⟨Grows.refl _, AV.le_no _ _⟩
    · refine st0 ?_
      exact ret_ok rfl ⟨Grows.refl _, AV.le_no _ _⟩
end Go.Proofs.Ytmpoeamfcienoaa
end
section
namespace Go.Proofs.Ytmpoeamfcienoaa
open Go.Ab
set_option linter.unusedVariables false
set_option linter.unusedSimpArgs false
set_option maxRecDepth 100000
set_option maxHeartbeats 4000000
def Ones (xs : List AV) : Prop := ∀ x ∈ xs, x.cells = [x] ∧ x.one = true ∧ x.strip = x
theorem Ones.ints {k : IntKind} (l : List Int) : Ones (l.map fun n => .v (.int k n)) := by intro x hx; obtain ⟨n, _, rfl⟩ := List.mem_map.1 hx; exact ⟨rfl, rfl, rfl⟩
theorem ct_slices_Values_int {xs : List AV} {s : AState} : Gives prog F_slices_Values_int [.sl xs .no] s (.f (.func F_slices_Values_int_1) [] [.p s.n 0]) (s.alloc (.cells [.sl xs .no])) := by
  refine runs_e h_slices_Values_int (Nat.le_of_ble_eq_true rfl) ?_
  refine st0 ?_
  exact ret_ok rfl ⟨rfl, rfl⟩
theorem it_slices_Values_int (xs : List AV) (hx : Ones xs) (b : Nat) (hlen : xs.length < 9223372036854775808) : Iter prog F_slices_Values_int_1 [] [.p b 0] (xs.map fun e => [e]) (fun s => s.get b = .cells [.sl xs .no]) := by
  intro l s I J hp ha hj hy h0
  refine runs_e h_slices_Values_int_1 (Nat.le_of_ble_eq_true rfl) ?_
  refine st1 (hp 0 s h0) ?_
  refine loop_ok [0, 5, 6, 7] (fun m a s1 => ∃ j : Nat, j + m = xs.length ∧ I j s1 ∧ a = { t := den 16 [(0, .y l), (5, .sl xs .no), (6, .v (.int .i64 xs.length)), (7, .v (.int .i64 j))], d := [] }) xs.length ?_ ?_
  · exact ⟨0, by simp, h0, by simp⟩
  · rintro m a s1 ⟨j, hjm, hI, rfl⟩
    by_cases hlt : j < xs.length
    · have hw : IntKind.wrap .i64 ((j : Int) + 1) = ((j + 1 : Nat) : Int) := by rw [wrap_i64 (by omega) (by omega)]; omega
      obtain ⟨hc, ho, _⟩ := hx _ (List.getElem_mem hlt)
      refine st3 hlt hc ho ?_
      have hy' := hy j (by simpa using hlt) _ hI
      simp only [List.getElem_map] at hy'
      refine yr0 (hy') ?_
      rintro _ s2 (⟨rfl, hI2⟩ | ⟨rfl, hJ⟩)
      · refine st1 hw ?_
        exact ⟨m - 1, by omega, j + 1, by omega, hI2, by simp⟩
      · refine st0 ?_
        exact ret_ok rfl (.inr hJ)
    · refine st1 hlt ?_
      have : j = xs.length := by omega
      subst this
      exact end_ok rfl (.inl (by simpa using hI))
end Go.Proofs.Ytmpoeamfcienoaa
end
section
namespace Go.Ab
def spotsL (v : LogV) : List Spt := v.sp.map fun x => ⟨v.g.id, x.1, x.2.sg, x.2.at_⟩
end Go.Ab
namespace Go.Proofs.Ytmpoeamfcienoaa
open Go.Ab
set_option linter.unusedVariables false
set_option linter.unusedSimpArgs false
set_option maxRecDepth 100000
set_option maxHeartbeats 8000000
theorem ct_place_Log_Group {lb : Nat} {v : LogV} {F : List Nat} {s : AState} (hL : LogAt s lb v F) (hl : v.g.es.length * 32 ≤ 140737488355328) : Gives prog F_place_Log_Group [.p lb 0] s v.g.av s := by
  have hlt := hL.lt
  obtain ⟨tk, mb, A, rfl, h1, h2, h3⟩ := hL
  have hlb : lb < s.n := hlt lb (by simp)
  unfold logC at h1
  refine Runs.gives' (runs_e h_place_Log_Group (Nat.le_of_ble_eq_true rfl) ?_) (Grp.row _).flat
  refine st1 h1 ?_
  refine gv (ct_slices_Clone_Entry (es := v.g.es) hl) ?_
  refine st0 ?_
  exact ret_ok (by simp; rfl) ⟨((Grows.refl _).alloc _).alloc _, (AV.le_strip _).trans (by simp [Grp.av, Grp.cells, retVal]; exact .refl _)⟩
theorem rn_place_Log_Copy {lb : Nat} {v : LogV} {F : List Nat} {s : AState} (hL : LogAt s lb v F) :
    Runs (compCode prog) prog F_place_Log_Copy [.p lb 0] s (fun x s' => ∃ lb' F', x = .p lb' 0 ∧ LogAt s' lb' v F' ∧ Grows s s' ∧ ∀ x ∈ F', s.n ≤ x) := by
  have hlt := hL.lt
  obtain ⟨tk, mb, A, rfl, h1, h2, h3⟩ := hL
  have hlb : lb < s.n := hlt lb (by simp)
  unfold logC at h1
  refine runs_e h_place_Log_Copy (Nat.le_of_ble_eq_true rfl) ?_
  refine sd1 h1 ?_
  refine gv (ct_maps_Clone_Place h2) ?_
  refine ⟨m_ext (AState.ext_alloc _ _), ?_⟩
  refine sd1 h1 ?_
  refine ret_ok rfl ⟨s.n + 1, [s.n + 1, s.n], rfl, ⟨tk, s.n, A, rfl, ?_, ?_, h3⟩, ((Grows.refl s).alloc _).alloc _, by simp⟩
  · simp [logC]
  · simp (disch := first | omega | (simp <;> omega) | fail)
theorem ct_place_Log_Spots {lb : Nat} {v : LogV} {F : List Nat} {s : AState} (hL : LogAt s lb v F) (hk : ∀ x ∈ v.sp, -9223372036854775808 ≤ x.1 ∧ x.1 < 9223372036854775808) (hlen : v.sp.length * 32 ≤ 140737488355328) :
    Gives prog F_place_Log_Spots [.p lb 0] s (.sl ((spotsL v).map Spt.av) .no) s := by
  have hlt := hL.lt
  obtain ⟨tk, mb, A, rfl, h1, h2, h3⟩ := hL
  have hlb : lb < s.n := hlt lb (by simp)
  have hmb : mb < s.n := hlt mb (by simp)
  unfold logC at h1
  refine Runs.gives' (runs_e h_place_Log_Spots (Nat.le_of_ble_eq_true rfl) ?_) (flat_sl Spt.row _)
  refine st1 h1 ?_
  refine gv (ct_maps_Keys_Place) ?_
  refine st0 ?_
  refine giv (ct_sorted_Place (cb := s.n + 1 + 1) (b := mb) (enc := Plc.av) (A := A) (B := v.sp) (dz0) (dz1 h2) h3 hk (by omega)) (by simp) ?_
  refine st0 ?_
  refine gv (ct_slices_Values_int (xs := (v.sp.map (·.1)).map fun n => .v (.int .i64 n))) ?_
  refine st0 ?_
  have hit := it_slices_Values_int ((v.sp.map (·.1)).map fun n => .v (.int .i64 n)) (.ints _) (s.n + 1 + 1 + 1) (by simp; omega)
  refine w_rangeG (α := Tok) (β := Unit) (m := v.sp.length) (by simp) hit (by intro x hx; obtain ⟨p, _, rfl⟩ := List.mem_map.1 hx; rfl) (by simp) (fun k tk => (((s.alloc (.cells [.p lb 0])).alloc (.cells [.sl (((spotsL v).map Spt.av).take k) tk])).alloc (.cells [.m mb])).alloc (.cells [.sl ((v.sp.map (·.1)).map fun n => .v (.int .i64 n)) .no]))
    (fun k tk s' => May (s.n + 6) s' (((spotsL v).map Spt.av).take k) tk) (fun _ _ => s) (fun _ _ _ => False) .zero (by simp) (fun s' h => trivial) ?_ (fun k a s' o h => h.alloc o) (fun _ _ _ _ h => h) ?_ ?_ (fun _ _ _ _ _ h => h.elim)
  · intro k a s' _ h1 hg
    refine (hg.get (by simp)).trans ?_
    exact get_alloc_eq (by simp)
  · rintro LR LB LJ _ k hkk tk1 g' h1' hm
    have hk' : k < v.sp.length := by simpa using hkk
    have hTk : ((spotsL v).map Spt.av).take (k + 1) = ((spotsL v).map Spt.av).take k ++ [Spt.av ⟨v.g.id, v.sp[k].1, v.sp[k].2.sg, v.sp[k].2.at_⟩] := by
      have hk2 : k < (spotsL v).length := by simpa [spotsL] using hk'
      rw [take_snoc hk2]; simp [spotsL]
    refine st1 h1 ?_
    refine m_look (κ := Int) (A := A) (k := v.sp[k].1) (b := mb) (enc := Plc.av) (by simp) (dz1 h2) (by simp; rfl) ?_
    have hlk : lk A v.sp[k].1 = some v.sp[k].2 := by rw [h3.lk]; exact h3.srt.lk_mem (List.getElem_mem hk')
    have hlv : lkV Plc.av A v.sp[k].1 (.agg [.v (.int .i64 0), .v (.int .i64 0)]) false = v.sp[k].2.av := by unfold lkV; rw [hlk]; rfl
    rw [hlv]
    have hlS : (spotsL v).length = v.sp.length := by simp [spotsL]
    repeat (first | simp -dsimp -implicitDefEqProofs (disch := first | omega | (simp <;> omega) | fail) [Plc.cells] | ((with_reducible first | apply m_1 | apply m_0); (focus ((conv => lhs; simp -dsimp -implicitDefEqProofs (disch := first | omega | (simp <;> omega) | fail) [Plc.cells]); done))) | ((with_reducible first | apply i_T | apply g_T); (focus (simp -dsimp -implicitDefEqProofs (disch := first | omega | (simp <;> omega) | fail) [Plc.cells]; done))) | ((with_reducible first | apply i_F | apply g_F); (focus (simp -dsimp -implicitDefEqProofs (disch := first | omega | (simp <;> omega) | fail) [Plc.cells]; done))))
    refine m_app (xs := ((spotsL v).map Spt.av).take k) (tk := tk1) (ys := [Spt.av ⟨v.g.id, v.sp[k].1, v.sp[k].2.sg, v.sp[k].2.at_⟩]) (t2 := .zero) (B := _) (N := s.n + 6)
      (by simp) (by simp; rfl) ⟨g', rfl⟩ (by simp) (by simp) (hm.swap (by simp) (by simp)) (by rw [← List.map_take]; exact head_map Spt.row _) (by simp) (by simp; omega) (by simp; omega) ?_
    rintro s' tk2 hg2 hm2 _ _
    obtain ⟨g2, rfl⟩ := hg2
    refine st0 ?_
    refine ⟨tk2, by simp, ?_, ?_⟩
    · rw [hTk]; simp; exact ⟨_, rfl⟩
    · rw [hTk]; exact (by simpa using hm2 : May _ _ _ _).swap (by simp) (by simp)
  · rintro LR tk1 g2 h1' hm
    rw [List.take_of_length_le (by simp [spotsL])] at *
    refine st0 ?_
    refine ret_okD (by simp) (by simp) (by simp; rfl) ⟨?_, by simp [retVal]; exact AV.le_no _ _⟩
    simp only [killAll, List.foldl]
    simp
    exact (((((Grows.refl s).alloc _).alloc _).alloc _).alloc _).alloc _ |>.alloc _ |>.allocs _
end Go.Proofs.Ytmpoeamfcienoaa
end
section
namespace Go.Proofs.Ytmpoeamfcienoaa
open Go.Ab
set_option linter.unusedVariables false
set_option linter.unusedSimpArgs false
set_option maxRecDepth 100000
set_option maxHeartbeats 8000000
theorem rn_ledger_New {s : AState} : Runs (compCode prog) prog F_ledger_New [] s (fun x s' => ∃ b F, x = .p b 0 ∧ LedAt s' b [] F ∧ Grows s s' ∧ ∀ x ∈ F, s.n ≤ x) := by
  refine runs_e h_ledger_New (Nat.le_of_ble_eq_true rfl) ?_
  refine st0 ?_
  refine ret_ok rfl ⟨s.n + 1, [s.n + 1, s.n], rfl, ⟨s.n, [], [], [], rfl, by simp, ?_, .nil, rfl, by simp⟩, ((Grows.refl s).alloc _).alloc _, by simp⟩
  simp (disch := first | omega | (simp <;> omega) | fail)
theorem ct_ledger_Ledger_logs {b : Nat} {s : AState} : Gives prog F_ledger_Ledger_logs [.p b 0] s (.f (.func F_ledger_Ledger_logs_1) [] [.p s.n 0]) (s.alloc (.cells [.p b 0])) := by
  refine runs_e h_ledger_Ledger_logs (Nat.le_of_ble_eq_true rfl) ?_
  refine st0 ?_
  exact ret_ok rfl ⟨rfl, rfl⟩
def pairA (B : List (Int × Nat)) : List (List AV) := B.map fun x => [.v (.int .i64 x.1), .p x.2 0]
def LogsPre (cb b mb : Nat) (A : List (Int × Nat)) (s : AState) : Prop := s.get cb = .cells [.p b 0] ∧ s.get b = .cells [.m mb] ∧ s.get mb = .map (encM ptr A)
theorem it_ledger_Ledger_logs {cb b mb : Nat} {A B : List (Int × Nat)} (hAB : Rep A B) (hw : ∀ x ∈ B, -9223372036854775808 ≤ x.1 ∧ x.1 < 9223372036854775808) (hlen : B.length * 8 ≤ 140737488355328) :
    Iter prog F_ledger_Ledger_logs_1 [] [.p cb 0] (pairA B) (LogsPre cb b mb A) := by
  intro l s I J hp ha hj hy h0
  refine runs_e h_ledger_Ledger_logs_1 (Nat.le_of_ble_eq_true rfl) ?_
  obtain ⟨p1, p2, p3⟩ := hp 0 s h0
  have l1 := AState.lt_of_get p1 (by simp)
  have l2 := AState.lt_of_get p2 (by simp)
  have l3 := AState.lt_of_get p3 (by simp)
  refine st2 p1 p2 ?_
  refine gv (ct_maps_Keys_Log) ?_
  refine st0 ?_
  refine giv (ct_sorted_Log (cb := s.n) (b := mb) (enc := ptr) (A := A) (B := B) (by simp) (dz1 p3) hAB hw hlen) (by simp) ?_
  have h1 := ha _ _ (.cells [.m mb]) h0
  generalize s.alloc (.cells [.m mb]) = s at h1 ⊢
  refine st0 ?_
  refine loop_ok [0, 1, 10, 11, 12] (fun m a s1 => ∃ j : Nat, j + m = B.length ∧ I j s1 ∧ a = { t := den 27 [(0, .y l), (1, .p cb 0), (10, .sl ((B.map (·.1)).map fun n => .v (.int .i64 n)) .no), (11, .v (.int .i64 B.length)), (12, .v (.int .i64 j))], d := [] }) B.length ?_ ?_
  · exact ⟨0, by simp, h1, by simp⟩
  · rintro m a s1 ⟨j, hjm, hI, rfl⟩
    obtain ⟨p1, p2, p3⟩ := hp j s1 hI
    by_cases hlt : j < B.length
    · have hw : IntKind.wrap .i64 ((j : Int) + 1) = ((j + 1 : Nat) : Int) := by rw [wrap_i64 (by omega) (by omega)]; omega
      repeat (first | simp -dsimp -implicitDefEqProofs (disch := first | omega | (simp <;> omega) | fail) [hlt, p1, p2] | ((with_reducible first | apply m_1 | apply m_0); (focus ((conv => lhs; simp -dsimp -implicitDefEqProofs (disch := first | omega | (simp <;> omega) | fail) [hlt, p1, p2]); done))) | ((with_reducible first | apply i_T | apply g_T); (focus (simp -dsimp -implicitDefEqProofs (disch := first | omega | (simp <;> omega) | fail) [hlt, p1, p2]; done))) | ((with_reducible first | apply i_F | apply g_F); (focus (simp -dsimp -implicitDefEqProofs (disch := first | omega | (simp <;> omega) | fail) [hlt, p1, p2]; done))))
      refine m_look (κ := Int) (A := A) (k := B[j].1) (b := mb) (enc := ptr) (by simp) p3 (by simp; rfl) ?_
      have hlk : lk A B[j].1 = some B[j].2 := by rw [hAB.lk]; exact hAB.srt.lk_mem (List.getElem_mem hlt)
      have hlv : lkV ptr A B[j].1 (.v (.pointer none)) false = .p B[j].2 0 := by unfold lkV; rw [hlk]; rfl
      rw [hlv]
      refine st0 ?_
      have hy' := hy j (by simpa [pairA] using hlt) _ hI
      simp only [pairA, List.getElem_map] at hy'
      refine yr0 (hy') ?_
      rintro _ s2 (⟨rfl, hI2⟩ | ⟨rfl, hJ⟩)
      · refine st1 hw ?_
        exact ⟨m - 1, by omega, j + 1, by omega, hI2, by simp⟩
      · refine st0 ?_
        exact ret_ok rfl (.inr hJ)
    · refine st1 hlt ?_
      have : j = B.length := by omega
      subst this
      exact end_ok rfl (.inl (by simpa [pairA] using hI))
end Go.Proofs.Ytmpoeamfcienoaa
end
section
namespace Go.Ab
def GOk (M : List (Int × LogV)) : Prop := ∀ x ∈ M, Spar x.2.g
theorem GOk.doP {M : List (Int × LogV)} (h : GOk M) (at_ : Plc) (p : Prt) : GOk (doP at_ M p) := by
  unfold Ab.doP
  split
  · next hp =>
    split
    · intro x hx; exact h x (List.mem_filter.1 hx).1
    · intro x hx
      rcases put_mem hx with rfl | hx
      · refine logDo_spar ?_ p at_
        cases hl : lk M p.gr with
        | none =>
          refine newG_spar ?_
          simp only [isPart, Bool.and_eq_true] at hp
          have := hp.1.1
          simpa [btw] using this
        | some v => exact h _ (lk_mem hl)
      · exact h x hx
  · exact h
theorem GOk.doL {M : List (Int × LogV)} (h : GOk M) (l : List Prt) (at_ : Plc) : GOk (doL M l at_) := by
  unfold Ab.doL
  induction l generalizing M with
  | nil => exact h
  | cons p l ih => exact ih (h.doP at_ p)
theorem doL_snoc {M : List (Int × LogV)} {l : List Prt} {at_ : Plc} {k : Nat} (h : k < l.length) : doL M (l.take (k + 1)) at_ = doP at_ (doL M (l.take k) at_) l[k] := by
  unfold doL; rw [List.take_succ_eq_append_getElem h, List.foldl_append]; rfl
structure DoI (s : AState) (b : Nat) (M : List (Int × LogV)) (F : List Nat) (l : List Prt) (at_ : Plc) (s' : AState) : Prop where
  b1 : s'.get s.n = .cells [.p b 0]
  b2 : s'.get (s.n + 1) = .cells at_.cells
  b3 : s'.get (s.n + 2) = .cells [.sl (l.map Prt.av) .no]
  n : s.n + 5 ≤ s'.n
  led : ∃ F', LedAt s' b M F' ∧ Mut F F' s s' ∧ ∀ x ∈ F', x < s.n ∨ s.n + 5 ≤ x
theorem DoI.keep {s : AState} {b : Nat} {M : List (Int × LogV)} {F : List Nat} {l : List Prt} {at_ : Plc} {s' s2 : AState} (h : DoI s b M F l at_ s') (hn : s'.n ≤ s2.n) (hk : ∀ x, x < s'.n → x ≠ s.n + 4 → s2.get x = s'.get x) : DoI s b M F l at_ s2 := by
  obtain ⟨h1, h2, h3, h4, F', h5, h6, h7⟩ := h
  have hF := h5.lt
  refine ⟨by rw [hk _ (by omega) (by omega)]; exact h1, by rw [hk _ (by omega) (by omega)]; exact h2, by rw [hk _ (by omega) (by omega)]; exact h3, by omega, F', h5.keep fun x hx => hk x (hF x hx) (by have := h7 x hx; omega), ⟨by have := h6.n; omega, fun x hx hn => (hk x (by have := h6.n; omega) (by omega)).trans (h6.keep x hx hn), h6.own⟩, h7⟩
end Go.Ab
namespace Go.Proofs.Ytmpoeamfcienoaa
open Go.Ab
set_option linter.unusedVariables false
set_option linter.unusedSimpArgs false
set_option maxRecDepth 100000
set_option maxHeartbeats 8000000
theorem rn_ledger_Ledger_Do {b : Nat} {M : List (Int × LogV)} {F : List Nat} {l : List Prt} {at_ : Plc} {s : AState} (hL : LedAt s b M F) (hM : GOk M) (hl : (l.length : Int) < 9223372036854775808) (he : ∀ p ∈ l, (p.es.length : Int) < 9223372036854775808) :
    Runs (compCode prog) prog F_ledger_Ledger_Do [.p b 0, .sl (l.map Prt.av) .no, at_.av] s (fun _ s' => ∃ F', LedAt s' b (doL M l at_) F' ∧ Mut F F' s s') := by
  have hlt := hL.lt
  have hb : b < s.n := hlt b hL.mem
  refine runs_e h_ledger_Ledger_Do (Nat.le_of_ble_eq_true rfl) ?_
  refine st0 ?_
  refine gv (ct_slices_Values_Part (xs := l.map Prt.av)) ?_
  refine st0 ?_
  have hit := it_slices_Values_Part l (s.n + 1 + 1) (by omega)
  refine w_rangeS (m := l.length) (by simp) hit (by intro x hx; obtain ⟨p, _, rfl⟩ := List.mem_map.1 hx; rfl) (by simp) (fun k s' => DoI s b (doL M (l.take k) at_) F l at_ s') (fun _ _ => False) ?_ ?_ ?_ ?_ ?_ ?_ ?_
  · intro LR
    refine ⟨dz0, dz0, dz0, by simp, F, hL.keep fun x hx => by have := hlt x hx; simp (disch := first | omega | (simp <;> omega) | fail), .grows ?_, fun x hx => .inl (hlt x hx)⟩
    exact (((((Grows.refl s).alloc _).alloc _).alloc _).alloc _).alloc _
  · intro k s' h; exact h.b3
  · intro k s' o hn h
    exact h.keep (by simp) fun x hx _ => get_alloc_ne (by omega)
  · intro j s' o hn h; exact h
  · intro LR LB LJ hLB hLR k hk s' hd hLL hln hI
    have hk' : k < l.length := by simpa using hk
    have hsn : (((s.alloc (.cells [.p b 0])).alloc (.cells at_.cells)).alloc (.cells [.sl (l.map Prt.av) .no])).n = s.n + 3 := by simp
    have hGk := hM.doL (l.take k) at_
    rw [doL_snoc hk']
    generalize doL M (l.take k) at_ = M1 at hI hGk ⊢
    have hpe := he _ (List.getElem_mem hk')
    simp only [List.getElem_map] at *
    generalize l[k] = p at hpe ⊢
    have hI2 := hI
    obtain ⟨h1, h2, h3, h4, F', h5, h6, h7⟩ := hI
    simp only [hsn] at *
    refine st3 h1 h2 hLL ?_
    have k1 : DoI s b M1 F l at_ ((s'.set (s.n + 4) LB).alloc (.cells p.cells)) := hI2.keep (by simp) fun x hx hn => dz1 hn
    have k2 : ((s'.set (s.n + 4) LB).alloc (.cells p.cells)).get (s.n + 4) = LB := dz0
    have k3 : ((s'.set (s.n + 4) LB).alloc (.cells p.cells)).get s'.n = .cells p.cells := by simp
    have k4 : ((s'.set (s.n + 4) LB).alloc (.cells p.cells)).get (s.n + 3) = .defd := by simp (disch := first | omega | (simp <;> omega) | fail) [hd]
    have k5 : ((s'.set (s.n + 4) LB).alloc (.cells p.cells)).n = s'.n + 1 := by simp
    have hsl : s.n + 5 ≤ s'.n := h4
    generalize s'.n = n6 at k3 k5 hsl ⊢
    generalize (s'.set (s.n + 4) LB).alloc (.cells p.cells) = s1 at k1 k2 k3 k4 k5 ⊢
    clear hI2 h1 h2 h3 h4 h5 h6 h7 hd hLL hln
    have close : ∀ s2, s2.get (s.n + 3) = .defd → DoI s b (doP at_ M1 p) F l at_ s2 → Lfi (FinS (some (s.n + 3)) (s.n + 3 + 1) LR LJ (DoI s b (doP at_ M1 p) F l at_) fun _ _ => False) none (s2.set (s.n + 3 + 1) LR) .a := fun s2 g1 g2 => by
      have := g2.n
      exact fins_n (fun d hd => by cases hd; simp (disch := first | omega | (simp <;> omega) | fail) [g1]) (dz0) (g2.keep (by simp) fun x hx hn => dz1 hn)
    obtain ⟨h1, h2, h3, h4, F1, h5, h6, h7⟩ := k1
    have hF1 := h5.lt
    refine gv (ct_part_Is (p := p) hpe) ?_
    cases hp : isPart p with
    | false =>
      refine st2 hp k2 ?_
      refine close s1 k4 ?_
      have : doP at_ M1 p = M1 := by unfold doP; rw [hp]; rfl
      rw [this]
      exact ⟨h1, h2, h3, h4, F1, h5, h6, h7⟩
    | true =>
      have h5' := h5
      obtain ⟨mb, A, B, G, rfl, e1, e2, e3, e4, e5⟩ := h5
      have hb1 : b < s1.n := hF1 b (by simp)
      have hmb1 : mb < s1.n := hF1 mb (by simp)
      have hmb2 : mb < s.n ∨ s.n + 5 ≤ mb := h7 mb (by simp)
      by_cases hk5 : p.kd = 5
      · have hdo : doP at_ M1 p = delL M1 p.gr := by unfold doP; rw [hp, if_pos hk5]; rfl
        refine st5 hp k3 hk5 h1 e1 ?_
        refine m_mdel0 (κ := Int) (A := A) (k := p.gr) (b := mb) (enc := ptr) (by simp) e2 (by simp; rfl) ?_
        have hne : mb ≠ s.n + 4 := by omega
        refine st2 k2 hne ?_
        obtain ⟨G', q1, q2⟩ := e4.drop p.gr (List.nodup_cons.1 (List.nodup_cons.1 e5).2).2
        refine close _ (dz1 k4) ?_
        rw [hdo]
        have hmbG : mb ∉ G := (List.nodup_cons.1 (List.nodup_cons.1 e5).2).1
        have hbmb : b ≠ mb := fun e => (List.nodup_cons.1 e5).1 (by simp [e])
        have hin : ∀ x ∈ b :: mb :: G', x ∈ b :: mb :: G := fun x hx => by
          rcases List.mem_cons.1 hx with rfl | hx
          · simp
          rcases List.mem_cons.1 hx with rfl | hx
          · simp
          · simp [q2.subset hx]
        refine ⟨dz1 h1, dz1 h2, dz1 h3, by simpa using h4, b :: mb :: G', ⟨mb, _, _, G', rfl, dz2 e1 hbmb, dz0, e3.del p.gr, q1.keep fun x hx => ?_, ?_⟩, ⟨by simpa using h6.n, fun x hx hn => ?_, fun x hx => h6.own x (hin x hx)⟩, fun x hx => h7 x (hin x hx)⟩
        · exact AState.get_set_ne _ _ (fun e => hmbG (by rw [← e]; exact q2.subset hx))
        · exact List.Nodup.sublist ((q2.cons_cons mb).cons_cons b) e5
        · rw [AState.get_set_ne _ _ (fun e => ?_)]
          · exact h6.keep x hx hn
          · subst e
            rcases h6.own x (by simp) with h | h
            · exact hn h
            · omega
      · have hdo : doP at_ M1 p = putL M1 p.gr (logDo ((lk M1 p.gr).getD ⟨newG p.gr, []⟩) p at_) := by unfold doP; rw [hp, if_neg hk5]; rfl
        have hmbG : mb ∉ G := (List.nodup_cons.1 (List.nodup_cons.1 e5).2).1
        have hbG : b ∉ G := fun h => (List.nodup_cons.1 e5).1 (by simp [h])
        have hbmb : b ≠ mb := fun e => (List.nodup_cons.1 e5).1 (by simp [e])
        have hGn : G.Nodup := (List.nodup_cons.1 (List.nodup_cons.1 e5).2).2
        have hSM : Srt M1 := h5'.srt
        refine st5 hp k3 hk5 h1 e1 ?_
        refine m_look (κ := Int) (A := A) (k := p.gr) (b := mb) (enc := ptr) (by simp) e2 (by simp; rfl) ?_
        cases hl : lk A p.gr with
        | some lb =>
          have hlv : lkV ptr A p.gr (.v (.pointer none)) false = .p lb 0 := by unfold lkV; rw [hl]; rfl
          rw [hlv]
          refine st3 k3 h1 e1 ?_
          refine m_look (κ := Int) (A := A) (k := p.gr) (b := mb) (enc := ptr) (by simp) e2 (by simp; rfl) ?_
          rw [hlv]
          refine st2 k3 h2 ?_
          obtain ⟨v, Fi, f1, f2, f3, f4⟩ := e4.focus hSM hGn (by rw [← e3.lk]; exact hl)
          refine run (rn_place_Log_Do (p := p) (at_ := at_) f2 (hGk _ (lk_mem f1)) hpe) (by simp) ?_
          rintro _ s2 ⟨Fi', g1, g2⟩
          obtain ⟨G', q1, q2, q3⟩ := f4 s2 _ _ g1 g2
          have hno : ∀ x, x < s1.n → s.n ≤ x → x < s.n + 5 → x ∉ Fi := fun x _ h8 h9 hx => by have := h7 x (by simp [f3 x hx]); omega
          have j2 : s2.get (s.n + 3 + 1) = LB := (g2.keep _ (by omega) (hno _ (by omega) (by omega) (by omega))).trans k2
          refine st1 j2 ?_
          refine close s2 ((g2.keep _ (by omega) (hno _ (by omega) (by omega) (by omega))).trans k4) ?_
          rw [hdo, f1]
          have q2' := q2.moreL [b, mb]
          have hb2 : s2.get b = s1.get b := q2.keep b hb1 hbG
          have hmb3 : s2.get mb = s1.get mb := q2.keep mb hmb1 hmbG
          have hG' := q2.apart (G := [b, mb]) (by simp [hbG, hmbG]) (by simp [hb1, hmb1])
          have kk : ∀ x, s.n ≤ x → x < s.n + 3 → s2.get x = s1.get x := fun x h8 h9 => g2.keep x (by omega) (hno x (by omega) (by omega) (by omega))
          refine ⟨(kk _ (by omega) (by omega)).trans h1, (kk _ (by omega) (by omega)).trans h2, (kk _ (by omega) (by omega)).trans h3, by have := g2.n; omega, b :: mb :: G', ⟨mb, A, B, G', rfl, hb2.trans e1, hmb3.trans e2, e3, q1, ?_⟩, h6.trans q2', fun x hx => ?_⟩
          · rw [List.nodup_cons, List.nodup_cons]
            exact ⟨by simp [hbmb, hG' b (by simp)], hG' mb (by simp), q3⟩
          · rcases q2'.own x hx with h8 | h8
            · exact h7 x h8
            · exact .inr (by omega)
        | none =>
          have hlv : lkV ptr A p.gr (.v (.pointer none)) false = .v (.pointer none) := by unfold lkV; rw [hl]; rfl
          rw [hlv]
          refine sd3 k3 h1 e1 ?_
          refine run (rn_place_New (id := p.gr)) (by simp) ?_
          rintro _ s2 ⟨lb, rfl, g1, g2, g3⟩
          refine ⟨m_ext g3.ext, ?_⟩
          refine sd0 ?_
          have gn := g3.n
          have gk := fun x (h : x < s1.n) => g3.get h
          refine q_mset (κ := Int) (A := A) (k := p.gr) (v := lb) (b := mb) (enc := ptr) (by simp) ((gk mb hmb1).trans e2) (by simp; rfl) (by simp [ptr]) ?_
          have hlb : lb < s2.n := g1.lt lb (by simp)
          obtain ⟨G2, r1, r2, r3⟩ := e4.add (i := p.gr) g1 (.new g3 (by simp; omega)) hGn (by rw [← e3.lk]; exact hl)
          have hg2 : ∀ x ∈ G2, x ∉ [b, mb] := fun x hx hm => r2.apart (G := [b, mb]) (by simp [hbG, hmbG]) (by simp [hb1, hmb1]) x hm hx
          have hmn6 : mb ≠ n6 := by rintro rfl; rw [k3] at e2; cases e2
          have m1 : (s2.set mb (.map (encM ptr (setM A p.gr lb)))).get (s.n + 3 + 1) = LB := dz2 gk k2
          have m2 : (s2.set mb (.map (encM ptr (setM A p.gr lb)))).get n6 = .cells p.cells := dz2 gk k3
          have m3 : (s2.set mb (.map (encM ptr (setM A p.gr lb)))).get s.n = .cells [.p b 0] := dz2 gk h1
          have m4 : (s2.set mb (.map (encM ptr (setM A p.gr lb)))).get (s.n + 1) = .cells at_.cells := dz2 gk h2
          have m5 : (s2.set mb (.map (encM ptr (setM A p.gr lb)))).get b = .cells [.m mb] := dz3 gk e1 hbmb
          have m6 : (s2.set mb (.map (encM ptr (setM A p.gr lb)))).get mb = .map (encM ptr (setM A p.gr lb)) := dz0
          have m7 : (s2.set mb (.map (encM ptr (setM A p.gr lb)))).get (s.n + 2) = .cells [.sl (l.map Prt.av) .no] := dz2 gk h3
          have m8 : (s2.set mb (.map (encM ptr (setM A p.gr lb)))).get (s.n + 3) = .defd := dz2 gk k4
          have m9 : ∀ x, x < s1.n → x ≠ mb → (s2.set mb (.map (encM ptr (setM A p.gr lb)))).get x = s1.get x := fun x hx hn => by rw [AState.get_set_ne _ _ hn]; exact gk x hx
          have m10 : (s2.set mb (.map (encM ptr (setM A p.gr lb)))).n = s2.n := rfl
          have r4 : LogsAt (s2.set mb (.map (encM ptr (setM A p.gr lb)))) (putL B p.gr lb) (putL M1 p.gr ⟨newG p.gr, []⟩) G2 := r1.keep fun x hx => AState.get_set_ne _ _ (fun e => hg2 x hx (by simp [e]))
          generalize s2.set mb (.map (encM ptr (setM A p.gr lb))) = s3 at m1 m2 m3 m4 m5 m6 m7 m8 m9 m10 r4 ⊢
          refine sd0 ?_
          refine st3 m3 m5 m2 ?_
          refine m_look (κ := Int) (A := setM A p.gr lb) (k := p.gr) (b := mb) (enc := ptr) (by simp) m6 (by simp; rfl) ?_
          have hlv : lkV ptr (setM A p.gr lb) p.gr (.v (.pointer none)) false = .p lb 0 := by unfold lkV; rw [lk_setM, if_pos rfl]; rfl
          rw [hlv]
          refine st2 m2 m4 ?_
          have e3' := e3.set p.gr lb
          have hlb2 : lk (putL B p.gr lb) p.gr = some lb := by rw [lk_put, if_pos rfl]
          obtain ⟨v, Fi, f1, f2, f3, f4⟩ := r4.focus (hSM.put _ _) r3 hlb2
          rw [lk_put, if_pos rfl] at f1
          obtain rfl : (⟨newG p.gr, []⟩ : LogV) = v := by simpa using f1
          have hsp : Spar (newG p.gr) := newG_spar (by simp only [isPart, Bool.and_eq_true] at hp; simpa [btw] using hp.1.1)
          refine run (rn_place_Log_Do (p := p) (at_ := at_) f2 hsp hpe) (by simp) ?_
          rintro _ s4 ⟨Fi', t1, t2⟩
          obtain ⟨G', q1, q2, q3⟩ := f4 s4 _ _ t1 t2
          have hFo : ∀ x ∈ G2, x < s.n ∨ s.n + 5 ≤ x := fun x hx => by
            rcases r2.own x hx with h8 | h8
            · exact h7 x (by simp [h8])
            · exact .inr (by omega)
          have hno : ∀ x, x < s3.n → s.n ≤ x → x < s.n + 5 → x ∉ Fi := fun x _ h8 h9 hx => by have := hFo x (f3 x hx); omega
          have j2 : s4.get (s.n + 3 + 1) = LB := (t2.keep _ (by omega) (hno _ (by omega) (by omega) (by omega))).trans m1
          refine st1 j2 ?_
          refine close s4 ((t2.keep _ (by omega) (hno _ (by omega) (by omega) (by omega))).trans m8) ?_
          have hdo2 : doP at_ M1 p = putL (putL M1 p.gr ⟨newG p.gr, []⟩) p.gr (logDo ⟨newG p.gr, []⟩ p at_) := by
            have hlM : lk M1 p.gr = none := (e4.no p.gr).1 (by rw [← e3.lk]; exact hl)
            rw [hdo, hlM]
            refine Srt.ext (hSM.put _ _) ((hSM.put _ _).put _ _) fun k => ?_
            rw [lk_put, lk_put, lk_put]
            split <;> rfl
          rw [hdo2]
          have hbG2 : b ∉ G2 := fun h => hg2 b h (by simp)
          have hmbG2 : mb ∉ G2 := fun h => hg2 mb h (by simp)
          have hb2 : s4.get b = s3.get b := q2.keep b (by omega) hbG2
          have hmb3 : s4.get mb = s3.get mb := q2.keep mb (by omega) hmbG2
          have hG' := q2.apart (G := [b, mb]) (by simp [hbG2, hmbG2]) (by simp; omega)
          have kk : ∀ x, s.n ≤ x → x < s.n + 3 → s4.get x = s3.get x := fun x h8 h9 => t2.keep x (by omega) (hno x (by omega) (by omega) (by omega))
          have q5 : Mut (b :: mb :: G) (b :: mb :: G') s1 s4 := by
            refine ⟨by have := t2.n; omega, fun x hx hn => ?_, fun x hx => ?_⟩
            · have hn' : x ≠ b ∧ x ≠ mb ∧ x ∉ G := by simpa using hn
              refine (q2.keep x (by omega) (fun hm => ?_)).trans (m9 x hx hn'.2.1)
              rcases r2.own x hm with h8 | h8
              · exact hn'.2.2 h8
              · omega
            · rcases List.mem_cons.1 hx with rfl | hx
              · exact .inl (by simp)
              rcases List.mem_cons.1 hx with rfl | hx
              · exact .inl (by simp)
              rcases q2.own x hx with h8 | h8
              · rcases r2.own x h8 with h9 | h9
                · exact .inl (by simp [h9])
                · exact .inr h9
              · exact .inr (by omega)
          refine ⟨(kk _ (by omega) (by omega)).trans m3, (kk _ (by omega) (by omega)).trans m4, (kk _ (by omega) (by omega)).trans m7, by have := t2.n; omega, b :: mb :: G', ⟨mb, _, _, G', rfl, hb2.trans m5, hmb3.trans m6, e3', q1, ?_⟩, h6.trans q5, fun x hx => ?_⟩
          · rw [List.nodup_cons, List.nodup_cons]
            exact ⟨by simp [hbmb, hG' b (by simp)], hG' mb (by simp), q3⟩
          · rcases q5.own x hx with h8 | h8
            · exact h7 x h8
            · exact .inr (by omega)
  · intro s' hd hln hI
    rw [List.take_length] at hI
    have hsn : (((s.alloc (.cells [.p b 0])).alloc (.cells at_.cells)).alloc (.cells [.sl (l.map Prt.av) .no])).n = s.n + 3 := by simp
    simp only [hsn] at *
    refine st0 ?_
    refine end_okD ?_ ?_ rfl ?_
    · simp (disch := first | omega | (simp <;> omega) | fail) [hd]
    · simp
    obtain ⟨h1, h2, h3, h4, F', h5, h6, h7⟩ := hI
    have hF := h5.lt
    have hk : ∀ x, x < s'.n → (x < s.n ∨ s.n + 5 ≤ x) → (killAll [s.n + 3] (s'.set (s.n + 3 + 1) .dead)).get x = s'.get x := fun x hx h8 => by
      simp only [killAll, List.foldl]
      rw [AState.get_set_ne _ _ (by omega), AState.get_set_ne _ _ (by omega)]
    exact ⟨F', h5.keep fun x hx => hk x (hF x hx) (h7 x hx), ⟨by simpa [killAll] using h6.n, fun x hx hn => (hk x (by have := h6.n; omega) (.inl hx)).trans (h6.keep x hx hn), h6.own⟩⟩
  · intro j s' _ _ h; exact h.elim
end Go.Proofs.Ytmpoeamfcienoaa
end
section
namespace Go.Proofs.Ytmpoeamfcienoaa
open Go.Ab
set_option linter.unusedVariables false
set_option linter.unusedSimpArgs false
set_option maxRecDepth 100000
set_option maxHeartbeats 8000000
structure IsI (s : AState) (g : Grp) (k : Nat) (s' : AState) : Prop where
  b0 : s'.get s.n = .cells g.cells
  b1 : s'.get (s.n + 1) = .cells [.v (.bool false)]
  b2 : s'.get (s.n + 1 + 1) = .cells [.v (.int .i64 (g.fi + k))]
  b3 : s'.get (s.n + 1 + 1 + 1) = .cells [.sl (g.es.map Ent.av) .no]
  n : s.n + 6 ≤ s'.n
  old : ∀ x, x < s.n → s'.get x = s.get x
  dn : ∀ x (hx : x < k) (hx' : x < g.es.length), g.es[x].ix = g.fi + (x : Int)
theorem ct_group_Is {g : Grp} {s : AState} (h : Spar g) : Gives prog F_group_Is [g.av] s (.v (.bool (dense g))) s := by
  have hlen := h.len
  have hMI := MI_eq
  have h0 := okHead_iff.1 h.hd
  have hhd := h.hd
  refine Runs.gives (runs_e h_group_Is (Nat.le_of_ble_eq_true rfl) ?_) (.v _)
  refine st0 ?_
  refine gv (ct_slices_Values_Entry (xs := g.es.map Ent.av)) ?_
  refine st0 ?_
  have hit := it_slices_Values_Entry g.es (s.n + 1 + 1 + 1) (by omega)
  have hsn : ((((s.alloc (.cells g.cells)).alloc (.cells [.v (.bool false)])).alloc (.cells [.v (.int .i64 g.fi)])).alloc (.cells [.sl (g.es.map Ent.av) .no])).n = s.n + 4 := by simp
  refine w_rangeS (m := g.es.length) (by simp) hit (by intro x hx; obtain ⟨p, _, rfl⟩ := List.mem_map.1 hx; rfl) (by simp) (fun k s' => IsI s g k s')
    (fun j s' => j = .ret ∧ s'.get (s.n + 1) = .cells [.v (.bool false)] ∧ s.n + 6 ≤ s'.n ∧ (∀ x, x < s.n → s'.get x = s.get x) ∧ dense g = false) ?_ ?_ ?_ ?_ ?_ ?_ ?_
  · intro LR
    exact ⟨dz0, dz0, dz0, dz0, by simp, fun x hx => dz0, fun x hx => by omega⟩
  · intro k s' hI; exact hI.b3
  · rintro k s' o hn ⟨b0, b1, b2, b3, n, old, dn⟩
    exact ⟨dz1 b0, dz1 b1, dz1 b2, dz1 b3, by simp; omega, fun x hx => dz1 (old x hx), dn⟩
  · rintro j s' o hn ⟨rfl, b1, n, old, dn⟩
    exact ⟨rfl, dz1 b1, by simp; omega, fun x hx => dz1 (old x hx), dn⟩
  · intro LR LB LJ hLB hLR k hk s' hd hLL hln hI
    have hk' : k < g.es.length := by simpa using hk
    obtain ⟨b0, b1, b2, b3, n, old, dn⟩ := hI
    have hok := h.ok _ (List.getElem_mem hk')
    have hw : IntKind.wrap .i64 (g.fi + (k : Int) + 1) = g.fi + ((k + 1 : Nat) : Int) := by rw [wrap_i64 (by omega) (by omega)]; omega
    simp only [hsn, List.getElem_map] at *
    by_cases he : g.es[k].ix = g.fi + (k : Int)
    · refine st6c1 @ct_part_IsEntry hk' b2 hLL hok he hw ?_
      refine fins_n (fun d hd' => by cases hd'; simp (disch := first | omega | (simp <;> omega) | fail) [hd]) (dz0) ⟨dz1 b0, dz1 b1, dz0, dz1 b3, by simp; omega, fun x hx => dz1 (old x hx), fun x hx hx' => ?_⟩
      by_cases e : x = k
      · subst e; exact he
      · exact dn x (by omega) hx'
    · refine st6c1 @ct_part_IsEntry hk' b1 b2 hLL hok he ?_
      refine fins_j (fun d hd' => by cases hd'; simp (disch := first | omega | (simp <;> omega) | fail) [hd]) (dz0) ⟨rfl, dz0, by simp; omega, fun x hx => dz1 (old x hx), ?_⟩
      unfold dense
      rw [List.all_eq_false]
      exact ⟨k, by simpa using hk', by simp [hk', he]⟩
  · rintro s' hd hln ⟨b0, b1, b2, b3, n, old, dn⟩
    simp only [hsn] at *
    refine st3c1 @ct_group_Head hhd b0 b1 ?_
    refine ret_okD ?_ ?_ (by simp (disch := first | omega | (simp <;> omega) | fail) [killAll]; rfl) ⟨⟨?_, fun x hx => .inl ?_⟩, ?_⟩
    · simp (disch := first | omega | (simp <;> omega) | fail) [hd]
    · simp
    · simp [killAll]; omega
    · simp (disch := first | omega | (simp <;> omega) | fail) [killAll, old x hx]
    · have : dense g = true := by
        unfold dense
        rw [List.all_eq_true]
        intro x hx
        have hx := List.mem_range.1 hx
        have := dn x hx hx
        simpa [hx] using this
      rw [this]; exact .refl _
  · rintro j s' hd hln ⟨rfl, b1, n, old, dn⟩
    simp only [hsn] at *
    repeat (first | simp -dsimp -implicitDefEqProofs (disch := first | omega | (simp <;> omega) | fail) [AJump.exitOf] | ((with_reducible first | apply m_1 | apply m_0); (focus ((conv => lhs; simp -dsimp -implicitDefEqProofs (disch := first | omega | (simp <;> omega) | fail) [AJump.exitOf]); done))) | ((with_reducible first | apply i_T | apply g_T); (focus (simp -dsimp -implicitDefEqProofs (disch := first | omega | (simp <;> omega) | fail) [AJump.exitOf]; done))) | ((with_reducible first | apply i_F | apply g_F); (focus (simp -dsimp -implicitDefEqProofs (disch := first | omega | (simp <;> omega) | fail) [AJump.exitOf]; done))))
    refine ret_okD ?_ ?_ (by simp (disch := first | omega | (simp <;> omega) | fail) [killAll, b1]; rfl) ⟨⟨?_, fun x hx => .inl ?_⟩, ?_⟩
    · simp (disch := first | omega | (simp <;> omega) | fail) [hd]
    · simp
    · simp [killAll]; omega
    · simp (disch := first | omega | (simp <;> omega) | fail) [killAll, old x hx]
    · rw [dn]; exact .refl _
theorem ct_sparse_Dense {g : Grp} {s : AState} (h : Spar g) : Gives prog F_sparse_Dense [g.av] s (.v (.bool (dense g))) s := by
  refine Runs.gives' (runs_e h_sparse_Dense (Nat.le_of_ble_eq_true rfl) ?_) (.v _)
  repeat (first | simp -dsimp -implicitDefEqProofs (disch := first | omega | (simp <;> omega) | fail) | ((with_reducible first | apply m_1 | apply m_0); (focus ((conv => lhs; simp -dsimp -implicitDefEqProofs (disch := first | omega | (simp <;> omega) | fail)); done))) | ((with_reducible apply giv); (case hAR => ((conv => lhs; simp -dsimp -implicitDefEqProofs (disch := first | omega | (simp <;> omega) | fail)); done)); (case hCT => (first | (apply ct_group_Is <;> first | assumption | omega | decide)))) | ((with_reducible first | apply i_T | apply g_T); (focus (simp -dsimp -implicitDefEqProofs (disch := first | omega | (simp <;> omega) | fail); done))) | ((with_reducible first | apply i_F | apply g_F); (focus (simp -dsimp -implicitDefEqProofs (disch := first | omega | (simp <;> omega) | fail); done))))
  exact ret_ok rfl ⟨(Grows.refl _).alloc _, .refl _⟩
theorem ct_slices_Equal_Spot {l m : List Spt} {s : AState} (hl : (l.length : Int) < 9223372036854775808) : Gives prog F_slices_Equal_Spot [.sl (l.map Spt.av) .no, .sl (m.map Spt.av) .no] s (.v (.bool (decide (l = m)))) s := by
  refine runs_e h_slices_Equal_Spot (Nat.le_of_ble_eq_true rfl) ?_
  by_cases hlen : l.length = m.length
  · rw [← all_eq hlen]
    have hI : (m.length : Int) = l.length := by omega
    refine st1 hI ?_
    refine loop_ok [0, 1, 12, 13] (fun k a s1 => s = s1 ∧ ∃ i : Nat, i + k = l.length ∧ ((List.range i).all fun i => decide (l.getD i default = m.getD i default)) = true ∧ a = { t := den 26 [(0, .sl (l.map Spt.av) .no), (1, .sl (m.map Spt.av) .no), (12, .v (.int .i64 l.length)), (13, .v (.int .i64 i))], d := [] }) l.length ?_ ?_
    · exact ⟨rfl, 0, by simp, rfl, by simp⟩
    · rintro k a _ ⟨rfl, i, hik, hall, rfl⟩
      by_cases hlt : i < l.length
      · have hlt2 : i < m.length := by omega
        have hw : IntKind.wrap .i64 ((i : Int) + 1) = (i : Int) + 1 := wrap_i64 (by omega) (by omega)
        have e1 : l.getD i default = l[i] := by simp [hlt]
        have e2 : m.getD i default = m[i] := by simp [hlt2]
        by_cases he : l[i] = m[i]
        · repeat (first | simp -dsimp -implicitDefEqProofs (disch := first | omega | (simp <;> omega) | fail) [hlt, hlt2, he] | ((with_reducible first | apply m_1 | apply m_0); (focus ((conv => lhs; simp -dsimp -implicitDefEqProofs (disch := first | omega | (simp <;> omega) | fail) [hlt, hlt2, he]); done))) | ((with_reducible first | apply i_T | apply g_T); (focus (simp -dsimp -implicitDefEqProofs (disch := first | omega | (simp <;> omega) | fail) [hlt, hlt2, he]; done))) | ((with_reducible first | apply i_F | apply g_F); (focus (simp -dsimp -implicitDefEqProofs (disch := first | omega | (simp <;> omega) | fail) [hlt, hlt2, he]; done))))
          exact ⟨k - 1, by omega, rfl, i + 1, by omega, all_step hall (by simp only [e1, e2]; simp [he]), by simp [hw]⟩
        · repeat (first | simp -dsimp -implicitDefEqProofs (disch := first | omega | (simp <;> omega) | fail) [hlt, hlt2, he] | ((with_reducible first | apply m_1 | apply m_0); (focus ((conv => lhs; simp -dsimp -implicitDefEqProofs (disch := first | omega | (simp <;> omega) | fail) [hlt, hlt2, he]); done))) | ((with_reducible first | apply i_T | apply g_T); (focus (simp -dsimp -implicitDefEqProofs (disch := first | omega | (simp <;> omega) | fail) [hlt, hlt2, he]; done))) | ((with_reducible first | apply i_F | apply g_F); (focus (simp -dsimp -implicitDefEqProofs (disch := first | omega | (simp <;> omega) | fail) [hlt, hlt2, he]; done))))
          refine ret_ok rfl ⟨?_, rfl⟩
          rw [all_stop hlt (by simp only [e1, e2]; simp [he])]; rfl
      · refine st1 hlt ?_
        have : i = l.length := by omega
        subst this
        exact ret_ok rfl ⟨by rw [hall]; rfl, rfl⟩
  · have hI : ¬ (l.length : Int) = m.length := by omega
    refine st1 hI ?_
    refine ret_ok rfl ⟨?_, rfl⟩
    have : ¬ l = m := fun e => hlen (by rw [e])
    simp [this]
theorem ct_slices_EqualFunc_Group {l m : List Grp} {s : AState} (hl : (l.length : Int) < 9223372036854775808) (hes : ∀ g ∈ l, (g.es.length : Int) < 9223372036854775808) :
    Gives prog F_slices_EqualFunc_Group [.sl (l.map Grp.av) .no, .sl (m.map Grp.av) .no, .f (.func F_group_Same) [] []] s (.v (.bool (decide (l = m)))) s := by
  refine Runs.gives' (runs_e h_slices_EqualFunc_Group (Nat.le_of_ble_eq_true rfl) ?_) (.v _)
  by_cases hlen : l.length = m.length
  · rw [← all_eq hlen]
    have hI : (m.length : Int) = l.length := by omega
    refine st1 hI ?_
    refine loop_ok [0, 1, 2, 15, 16, 17] (fun k a s1 => Grows s s1 ∧ ∃ i : Nat, i + k = l.length ∧ ((List.range i).all fun i => decide (l.getD i default = m.getD i default)) = true ∧ a = { t := den 32 [(0, .sl (l.map Grp.av) .no), (1, .sl (m.map Grp.av) .no), (2, .f (.func F_group_Same) [] []), (15, .sl (l.map Grp.av) .no), (16, .v (.int .i64 l.length)), (17, .v (.int .i64 i))], d := [] }) l.length ?_ ?_
    · exact ⟨.refl s, 0, by simp, rfl, by simp⟩
    · rintro k a s1 ⟨hg, i, hik, hall, rfl⟩
      by_cases hlt : i < l.length
      · have hlt2 : i < m.length := by omega
        have hw : IntKind.wrap .i64 ((i : Int) + 1) = (i : Int) + 1 := wrap_i64 (by omega) (by omega)
        have e1 : l.getD i default = l[i] := by simp [hlt]
        have e2 : m.getD i default = m[i] := by simp [hlt2]
        have hG := hes _ (List.getElem_mem hlt)
        by_cases he : l[i] = m[i]
        · repeat (first | simp -dsimp -implicitDefEqProofs (disch := first | omega | (simp <;> omega) | fail) [hlt, hlt2] | ((with_reducible first | apply m_1 | apply m_0); (focus ((conv => lhs; simp -dsimp -implicitDefEqProofs (disch := first | omega | (simp <;> omega) | fail) [hlt, hlt2]); done))) | ((with_reducible first | apply i_T | apply g_T); (focus (simp -dsimp -implicitDefEqProofs (disch := first | omega | (simp <;> omega) | fail) [hlt, hlt2]; done))) | ((with_reducible first | apply i_F | apply g_F); (focus (simp -dsimp -implicitDefEqProofs (disch := first | omega | (simp <;> omega) | fail) [hlt, hlt2]; done))))
          refine gv (ct_group_Same (a := l[i]) (b := m[i]) hG) ?_
          refine st1 he ?_
          exact ⟨k - 1, by omega, (hg.alloc _).alloc _, i + 1, by omega, all_step hall (by simp only [e1, e2]; simp [he]), by simp [hw]⟩
        · repeat (first | simp -dsimp -implicitDefEqProofs (disch := first | omega | (simp <;> omega) | fail) [hlt, hlt2] | ((with_reducible first | apply m_1 | apply m_0); (focus ((conv => lhs; simp -dsimp -implicitDefEqProofs (disch := first | omega | (simp <;> omega) | fail) [hlt, hlt2]); done))) | ((with_reducible first | apply i_T | apply g_T); (focus (simp -dsimp -implicitDefEqProofs (disch := first | omega | (simp <;> omega) | fail) [hlt, hlt2]; done))) | ((with_reducible first | apply i_F | apply g_F); (focus (simp -dsimp -implicitDefEqProofs (disch := first | omega | (simp <;> omega) | fail) [hlt, hlt2]; done))))
          refine gv (ct_group_Same (a := l[i]) (b := m[i]) hG) ?_
          refine st1 he ?_
          refine ret_ok rfl ⟨(hg.alloc _).alloc _, ?_⟩
          rw [all_stop hlt (by simp only [e1, e2]; simp [he])]; exact .refl _
      · refine st1 hlt ?_
        have : i = l.length := by omega
        subst this
        exact ret_ok rfl ⟨hg, by rw [hall]; exact .refl _⟩
  · have hI : ¬ (l.length : Int) = m.length := by omega
    refine st1 hI ?_
    refine ret_ok rfl ⟨.refl s, ?_⟩
    have : ¬ l = m := fun e => hlen (by rw [e])
    simp [this, AV.le.refl]
end Go.Proofs.Ytmpoeamfcienoaa
end
section
namespace Go.Ab
set_option linter.unusedVariables false
structure TellI (s : AState) (b : Nat) (l : List AV) (s' : AState) : Prop where
  b0 : ∃ tk, s'.get s.n = .cells [.sl l tk] ∧ May (s.n + 4) s' l tk
  b1 : s'.get (s.n + 1) = .cells [.p b 0]
  n : s.n + 4 ≤ s'.n
  old : ∀ x, x < s.n → s'.get x = s.get x
theorem TellI.alloc {s : AState} {b : Nat} {l : List AV} {s' : AState} (h : TellI s b l s') (o : AObj) : TellI s b l (s'.alloc o) := by
  obtain ⟨⟨tk, g1, g2⟩, b1, n, old⟩ := h
  exact ⟨⟨tk, dz1 g1, g2.alloc o⟩, dz1 b1, by simp; omega, fun x hx => dz1 (old x hx)⟩
structure Small (M : List (Int × LogV)) : Prop where
  len : M.length ≤ 1000000
  es : ∀ x ∈ M, x.2.g.es.length * 32 ≤ 140737488355328
  sp : (spotsM M).length * 32 ≤ 140737488355328
theorem LogsAt.pre {s : AState} {B : List (Int × Nat)} {M : List (Int × LogV)} {F : List Nat} (h : LogsAt s B M F) (hM : MOk M) : ∀ x ∈ B, -9223372036854775808 ≤ x.1 ∧ x.1 < 9223372036854775808 := fun x hx => by
  have : x.1 ∈ M.map (·.1) := by rw [← h.keys]; exact List.mem_map_of_mem hx
  obtain ⟨y, hy, e⟩ := List.mem_map.1 this
  have := (hM.2 y hy).rng
  omega
theorem MOk.gok {M : List (Int × LogV)} (hM : MOk M) : GOk M := fun x hx => (hM.2 x hx).g
theorem spots_le {M : List (Int × LogV)} {x : Int × LogV} (hx : x ∈ M) : x.2.sp.length ≤ (spotsM M).length := by
  induction M with
  | nil => cases hx
  | cons y M ih =>
    simp only [spotsM, List.flatMap_cons, List.length_append, List.length_map] at ih ⊢
    rcases List.mem_cons.1 hx with rfl | hx
    · omega
    · have := ih hx; omega
theorem VOk.keys {i : Int} {v : LogV} (h : VOk i v) : ∀ x ∈ v.sp, -1 ≤ x.1 ∧ x.1 ≤ MI := fun x hx => by
  have hMI := MI_eq
  rcases h.key x hx with h1 | h1 | ⟨e, he, h1⟩
  · omega
  · omega
  · have := (okEnt_iff.1 (h.g.ok e he)).1; omega
theorem grps_le (M : List (Int × LogV)) (k : Nat) : (grpsL (M.take k)).length ≤ (grpsL M).length := by simp [grpsL]; omega
theorem spots_take (M : List (Int × LogV)) (k : Nat) : (spotsM (M.take k)).length ≤ (spotsM M).length := by
  have h := congrArg (fun l => (spotsM l).length) (List.take_append_drop k M)
  simp only [spotsM, List.flatMap_append, List.length_append] at h ⊢
  omega
theorem grps_snoc {M : List (Int × LogV)} {k : Nat} (h : k < M.length) : grpsL (M.take (k + 1)) = grpsL (M.take k) ++ [M[k].2.g] := by
  have e : M.take (k + 1) = M.take k ++ [M[k]] := (List.take_append_getElem h).symm
  rw [e]; simp only [grpsL, List.map_append, List.map_cons, List.map_nil]
theorem spots_snoc {M : List (Int × LogV)} {k : Nat} (h : k < M.length) : spotsM (M.take (k + 1)) = spotsM (M.take k) ++ spotsL M[k].2 := by
  have e : M.take (k + 1) = M.take k ++ [M[k]] := (List.take_append_getElem h).symm
  rw [e]; simp only [spotsM, spotsL, List.flatMap_append, List.flatMap_cons, List.flatMap_nil, List.append_nil]
end Go.Ab
namespace Go.Proofs.Ytmpoeamfcienoaa
open Go.Ab
set_option linter.unusedVariables false
set_option linter.unusedSimpArgs false
set_option maxRecDepth 100000
set_option maxHeartbeats 8000000
theorem ct_ledger_Ledger_Groups {b : Nat} {M : List (Int × LogV)} {F : List Nat} {s : AState} (hL : LedAt s b M F) (hM : MOk M) (hS : Small M) : Gives prog F_ledger_Ledger_Groups [.p b 0] s (.sl ((grpsL M).map Grp.av) .no) s := by
  have hlt := hL.lt
  have hb : b < s.n := hlt b hL.mem
  obtain ⟨hS1, hS2, hS3⟩ := hS
  obtain ⟨mb, A, B, F', rfl, e1, e2, e3, e4, e5⟩ := hL
  have hmb : mb < s.n := hlt mb (by simp)
  have hlB := e4.len
  have hMI := MI_eq
  have hsn : ((s.alloc (.cells [.sl [] .zero])).alloc (.cells [.p b 0])).n = s.n + 2 := by simp
  refine Runs.gives (runs_e h_ledger_Ledger_Groups (Nat.le_of_ble_eq_true rfl) ?_) (flat_sl Grp.row _)
  refine st0 ?_
  refine gv (ct_ledger_Ledger_logs (b := b)) ?_
  refine st0 ?_
  have hit := it_ledger_Ledger_logs (cb := s.n + 1) (b := b) (mb := mb) e3 (e4.pre hM) (by omega)
  have hTl := grps_le M
  have hbig : (grpsL M).length * 72 ≤ 140737488355328 := by simp only [grpsL, List.length_map]; omega
  refine w_rangeS (m := M.length) (by simp) hit (by intro x hx; obtain ⟨p, _, rfl⟩ := List.mem_map.1 hx; rfl) (by simp [pairA, hlB]) (fun k s' => TellI s b ((grpsL (M.take k)).map Grp.av) s') (fun _ _ => False) ?_ ?_ ?_ ?_ ?_ ?_ ?_
  · intro LR
    exact ⟨⟨.zero, by simp (disch := first | omega | (simp <;> omega) | fail) [grpsL, spotsM], trivial⟩, dz0, by simp, fun x hx => dz0⟩
  · intro k s' h; exact ⟨h.b1, (h.old b hb).trans e1, (h.old mb hmb).trans e2⟩
  · intro k s' o hn h; exact h.alloc o
  · intro j s' o hn h; exact h
  · intro LR LB LJ hLB hLR k hk s' hd hLL hln hI
    have hkB : k < B.length := by simpa [pairA] using hk
    have hk' : k < M.length := by omega
    obtain ⟨⟨tk, g1, g2⟩, b1, n, old⟩ := hI
    obtain ⟨-, Fi, f1, f2⟩ := e4.nth hkB hk'
    have f3 : LogAt (s'.set (s.n + 2 + 1) LB) B[k].2 M[k].2 Fi := f1.keep fun x hx => by
      have := hlt x (by simp [f2 x hx])
      simp (disch := first | omega | (simp <;> omega) | fail) [old x this]
    have hok := hM.2 _ (List.getElem_mem hk')
    have hTs := hTl (k + 1)
    have hTk : grpsL (M.take (k + 1)) = grpsL (M.take k) ++ [M[k].2.g] := grps_snoc hk'
    simp only [hsn, pairA, List.getElem_map, List.zip_cons_cons, List.zip_nil_right, List.reverse_cons, List.reverse_nil, List.nil_append, List.cons_append] at hd hLL hln ⊢
    refine sd2 hLL g1 ?_
    refine gv (ct_place_Log_Group f3 (hS2 _ (List.getElem_mem hk'))) ?_
    refine sd2 hLL g1 ?_
    refine q_appS (xs := (grpsL (M.take k)).map Grp.av) (tk := tk) (ys := ([M[k].2.g]).map Grp.av) (t2 := .zero) (N := s.n + 4) (by simp) (by simp) (by simp; omega) (g2.set _ (by omega)) (head_map Grp.row _) (by simp) (by have := congrArg List.length hTk; simp only [List.length_append, List.length_map] at this ⊢; omega) (by have := congrArg List.length hTk; simp only [List.length_append, List.length_map] at this ⊢; omega) ?_
    intro s2 tk2 hm2 hlow hext
    have k0 : s2.get s.n = .cells [.sl ((grpsL (M.take k)).map Grp.av) tk] := by rw [hlow _ (by omega)]; simp (disch := first | omega | (simp <;> omega) | fail) [g1]
    have k1 : s2.get (s.n + 1) = .cells [.p b 0] := by rw [hlow _ (by omega)]; simp (disch := first | omega | (simp <;> omega) | fail) [b1]
    have k2 : s2.get (s.n + 2) = .defd := by rw [hlow _ (by omega)]; simp (disch := first | omega | (simp <;> omega) | fail) [hd]
    have k3 : s2.get (s.n + 2 + 1) = LB := by rw [hlow _ (by omega)]; simp (disch := first | omega | (simp <;> omega) | fail)
    have k4 : ∀ x, x < s.n → s2.get x = s.get x := fun x hx => by rw [hlow _ (by omega)]; simp (disch := first | omega | (simp <;> omega) | fail) [old x hx]
    have hn2 : s.n + 4 ≤ s2.n := by have := hext.1; simp at this; omega
    clear hext hlow
    refine sd1 k0 ?_
    refine st2 k0 k3 ?_
    refine fins_n (fun d hd => by cases hd; simp (disch := first | omega | (simp <;> omega) | fail) [k2]) (dz0) ⟨⟨tk2, dz1 hTk, ?_⟩, dz1 k1, by simpa using hn2, fun x hx => dz1 (k4 x hx)⟩
    rw [hTk]
    simpa using (hm2.set _ (by omega)).set _ (by omega)
  · rintro s' hd hln ⟨⟨tk, g1, g2⟩, b1, n, old⟩
    rw [List.take_length] at g1 g2
    simp only [hsn] at hd hln ⊢
    refine st1 g1 ?_
    refine ret_okD ?_ ?_ rfl ⟨⟨?_, fun x hx => .inl ?_⟩, AV.le_no _ _⟩
    · simp (disch := first | omega | (simp <;> omega) | fail) [hd]
    · simp
    · simp [killAll]; omega
    · simp (disch := first | omega | (simp <;> omega) | fail) [killAll, old x hx]
  · intro j s' _ _ h; exact h.elim
theorem ct_ledger_Ledger_Spots {b : Nat} {M : List (Int × LogV)} {F : List Nat} {s : AState} (hL : LedAt s b M F) (hM : MOk M) (hS : Small M) : Gives prog F_ledger_Ledger_Spots [.p b 0] s (.sl ((spotsM M).map Spt.av) .no) s := by
  have hlt := hL.lt
  have hb : b < s.n := hlt b hL.mem
  obtain ⟨hS1, hS2, hS3⟩ := hS
  obtain ⟨mb, A, B, F', rfl, e1, e2, e3, e4, e5⟩ := hL
  have hmb : mb < s.n := hlt mb (by simp)
  have hlB := e4.len
  have hMI := MI_eq
  have hsn : ((s.alloc (.cells [.sl [] .zero])).alloc (.cells [.p b 0])).n = s.n + 2 := by simp
  refine Runs.gives (runs_e h_ledger_Ledger_Spots (Nat.le_of_ble_eq_true rfl) ?_) (flat_sl Spt.row _)
  refine st0 ?_
  refine gv (ct_ledger_Ledger_logs (b := b)) ?_
  refine st0 ?_
  have hit := it_ledger_Ledger_logs (cb := s.n + 1) (b := b) (mb := mb) e3 (e4.pre hM) (by omega)
  have hTl := spots_take M
  have hbig : (spotsM M).length * 32 ≤ 140737488355328 := hS3
  refine w_rangeS (m := M.length) (by simp) hit (by intro x hx; obtain ⟨p, _, rfl⟩ := List.mem_map.1 hx; rfl) (by simp [pairA, hlB]) (fun k s' => TellI s b ((spotsM (M.take k)).map Spt.av) s') (fun _ _ => False) ?_ ?_ ?_ ?_ ?_ ?_ ?_
  · intro LR
    exact ⟨⟨.zero, by simp (disch := first | omega | (simp <;> omega) | fail) [grpsL, spotsM], trivial⟩, dz0, by simp, fun x hx => dz0⟩
  · intro k s' h; exact ⟨h.b1, (h.old b hb).trans e1, (h.old mb hmb).trans e2⟩
  · intro k s' o hn h; exact h.alloc o
  · intro j s' o hn h; exact h
  · intro LR LB LJ hLB hLR k hk s' hd hLL hln hI
    have hkB : k < B.length := by simpa [pairA] using hk
    have hk' : k < M.length := by omega
    obtain ⟨⟨tk, g1, g2⟩, b1, n, old⟩ := hI
    obtain ⟨-, Fi, f1, f2⟩ := e4.nth hkB hk'
    have f3 : LogAt (s'.set (s.n + 2 + 1) LB) B[k].2 M[k].2 Fi := f1.keep fun x hx => by
      have := hlt x (by simp [f2 x hx])
      simp (disch := first | omega | (simp <;> omega) | fail) [old x this]
    have hok := hM.2 _ (List.getElem_mem hk')
    have hTs := hTl (k + 1)
    have hTk : spotsM (M.take (k + 1)) = spotsM (M.take k) ++ spotsL M[k].2 := spots_snoc hk'
    simp only [hsn, pairA, List.getElem_map, List.zip_cons_cons, List.zip_nil_right, List.reverse_cons, List.reverse_nil, List.nil_append, List.cons_append] at hd hLL hln ⊢
    refine sd2 hLL g1 ?_
    refine gv (ct_place_Log_Spots f3 (fun x hx => by have := hok.keys x hx; omega) (by have := spots_le (List.getElem_mem hk'); omega)) ?_
    refine sd2 hLL g1 ?_
    refine q_appS (xs := (spotsM (M.take k)).map Spt.av) (tk := tk) (ys := (spotsL M[k].2).map Spt.av) (t2 := .no) (N := s.n + 4) (by simp) (by simp) (by simp; omega) (g2.set _ (by omega)) (head_map Spt.row _) (by simp) (by have := congrArg List.length hTk; simp only [List.length_append, List.length_map] at this ⊢; omega) (by have := congrArg List.length hTk; simp only [List.length_append, List.length_map] at this ⊢; omega) ?_
    intro s2 tk2 hm2 hlow hext
    have k0 : s2.get s.n = .cells [.sl ((spotsM (M.take k)).map Spt.av) tk] := by rw [hlow _ (by omega)]; simp (disch := first | omega | (simp <;> omega) | fail) [g1]
    have k1 : s2.get (s.n + 1) = .cells [.p b 0] := by rw [hlow _ (by omega)]; simp (disch := first | omega | (simp <;> omega) | fail) [b1]
    have k2 : s2.get (s.n + 2) = .defd := by rw [hlow _ (by omega)]; simp (disch := first | omega | (simp <;> omega) | fail) [hd]
    have k3 : s2.get (s.n + 2 + 1) = LB := by rw [hlow _ (by omega)]; simp (disch := first | omega | (simp <;> omega) | fail)
    have k4 : ∀ x, x < s.n → s2.get x = s.get x := fun x hx => by rw [hlow _ (by omega)]; simp (disch := first | omega | (simp <;> omega) | fail) [old x hx]
    have hn2 : s.n + 4 ≤ s2.n := by have := hext.1; simp at this; omega
    clear hext hlow
    refine sd1 k0 ?_
    refine st2 k0 k3 ?_
    refine fins_n (fun d hd => by cases hd; simp (disch := first | omega | (simp <;> omega) | fail) [k2]) (dz0) ⟨⟨tk2, dz1 hTk, ?_⟩, dz1 k1, by simpa using hn2, fun x hx => dz1 (k4 x hx)⟩
    rw [hTk]
    simpa using (hm2.set _ (by omega)).set _ (by omega)
  · rintro s' hd hln ⟨⟨tk, g1, g2⟩, b1, n, old⟩
    rw [List.take_length] at g1 g2
    simp only [hsn] at hd hln ⊢
    refine st1 g1 ?_
    refine ret_okD ?_ ?_ rfl ⟨⟨?_, fun x hx => .inl ?_⟩, AV.le_no _ _⟩
    · simp (disch := first | omega | (simp <;> omega) | fail) [hd]
    · simp
    · simp [killAll]; omega
    · simp (disch := first | omega | (simp <;> omega) | fail) [killAll, old x hx]
  · intro j s' _ _ h; exact h.elim
end Go.Proofs.Ytmpoeamfcienoaa
end
section
namespace Go.Ab
structure TakI (s : AState) (b b2 : Nat) (M : List (Int × LogV)) (F : List Nat) (s' : AState) : Prop where
  b0 : s'.get s.n = .cells [.p b 0]
  b1 : s'.get (s.n + 1) = .cells [.p b2 0]
  n : s.n + 4 ≤ s'.n
  led : ∃ F', LedAt s' b M F' ∧ Mut F F' s s' ∧ ∀ x ∈ F', x < s.n ∨ s.n + 4 ≤ x
theorem TakI.keep {s : AState} {b b2 : Nat} {M : List (Int × LogV)} {F : List Nat} {s' s2 : AState} (h : TakI s b b2 M F s') (hn : s'.n ≤ s2.n) (hk : ∀ x, x < s'.n → x ≠ s.n + 3 → s2.get x = s'.get x) : TakI s b b2 M F s2 := by
  obtain ⟨h1, h2, h4, F', h5, h6, h7⟩ := h
  have hF := h5.lt
  refine ⟨(hk _ (by omega) (by omega)).trans h1, (hk _ (by omega) (by omega)).trans h2, by omega, F', h5.keep fun x hx => hk x (hF x hx) ?_, ⟨by have := h6.n; omega, fun x hx hn => (hk x (by have := h6.n; omega) (by omega)).trans (h6.keep x hx hn), h6.own⟩, h7⟩
  have := h7 x hx; omega
theorem AV.le_tup2 {x y x' y' : AV} (h : x.le x') (k : y.le y') : (AV.tup [x, y]).le (.tup [x', y']) := fun c v r => by
  cases r with
  | tup _ vs h0 hh =>
    refine .tup _ vs h0 fun j hj => ?_
    have := hh j hj
    match j, hj with
    | 0, _ => exact h _ _ this
    | 1, _ => exact k _ _ this
theorem takeL_snoc {M O : List (Int × LogV)} {k : Nat} (h : k < O.length) : takeL M (O.take (k + 1)) = if (lk (takeL M (O.take k)) O[k].1).isSome then takeL M (O.take k) else putL (takeL M (O.take k)) O[k].1 O[k].2 := by
  have e : O.take (k + 1) = O.take k ++ [O[k]] := (List.take_append_getElem h).symm
  rw [e]; simp only [takeL, List.foldl_append]; rfl
end Go.Ab
namespace Go.Proofs.Ytmpoeamfcienoaa
open Go.Ab
set_option linter.unusedVariables false
set_option linter.unusedSimpArgs false
set_option maxRecDepth 100000
set_option maxHeartbeats 1000000
theorem ct_ledger_Ledger_Get {b : Nat} {M : List (Int × LogV)} {F : List Nat} {i : Int} {s : AState} (hL : LedAt s b M F) (hS : Small M) :
    Gives prog F_ledger_Ledger_Get [.p b 0, .v (.int .i64 i)] s (.tup [(((lk M i).map (·.g)).getD zeroG).av, .v (.bool (lk M i).isSome)]) s := by
  have hlt := hL.lt
  have hb : b < s.n := hlt b hL.mem
  obtain ⟨mb, A, B, F', rfl, e1, e2, e3, e4, e5⟩ := hL
  have hmb : mb < s.n := hlt mb (by simp)
  refine Runs.gives' (runs_e h_ledger_Ledger_Get (Nat.le_of_ble_eq_true rfl) ?_) (Flat.tup (by simp; exact ⟨(Grp.row _).flat, .v _⟩))
  refine st1 e1 ?_
  refine m_look (κ := Int) (A := A) (k := i) (b := mb) (enc := ptr) (by simp) (dz1 e2) (by simp; rfl) ?_
  cases hl : lk A i with
  | none =>
    have hlv : lkV ptr A i (.v (.pointer none)) true = .tup [.v (.pointer none), .v (.bool false)] := by unfold lkV; rw [hl]; rfl
    rw [hlv]
    have hlM : lk M i = none := (e4.no i).1 (by rw [← e3.lk]; exact hl)
    rw [hlM]
    refine st0 ?_
    refine ret_ok (by simp; rfl) ⟨?_, ?_⟩
    · exact (Grows.refl s).alloc _
    · exact AV.le_tup2 ((AV.le_strip _).trans (by simp [Grp.av, Grp.cells, zeroG]; exact .refl _)) (.refl _)
  | some lb =>
    have hlv : lkV ptr A i (.v (.pointer none)) true = .tup [.p lb 0, .v (.bool true)] := by unfold lkV; rw [hl]; rfl
    rw [hlv]
    obtain ⟨v, Fi, f1, f2, f3⟩ := e4.at (by rw [← e3.lk]; exact hl)
    rw [f1]
    refine st0 ?_
    have f4 := f2.keep (s' := s.alloc (.cells [.v (.int .i64 0), .v (.int .i64 0), .v (.int .i64 0), .v (.int .i64 0), .v (.int .i64 0), .v (.int .i64 0), .sl [] .zero])) fun x hx => get_alloc_ne (by have := hlt x (by simp [f3 x hx]); omega)
    refine gv (ct_place_Log_Group f4 (hS.es (i, v) (lk_mem f1))) ?_
    refine st0 ?_
    refine ret_ok (by simp; rfl) ⟨(Grows.refl s).alloc _, ?_⟩
    exact .refl _
theorem ct_ledger_Ledger_Dense_1 {g : Grp} {s : AState} (h : Spar g) : Gives prog F_ledger_Ledger_Dense_1 [g.av] s (.v (.bool (!dense g))) s := by
  refine Runs.gives' (runs_e h_ledger_Ledger_Dense_1 (Nat.le_of_ble_eq_true rfl) ?_) (.v _)
  repeat (first | simp -dsimp -implicitDefEqProofs (disch := first | omega | (simp <;> omega) | fail) | ((with_reducible first | apply m_1 | apply m_0); (focus ((conv => lhs; simp -dsimp -implicitDefEqProofs (disch := first | omega | (simp <;> omega) | fail)); done))) | ((with_reducible apply giv); (case hAR => ((conv => lhs; simp -dsimp -implicitDefEqProofs (disch := first | omega | (simp <;> omega) | fail)); done)); (case hCT => (first | (apply ct_sparse_Dense <;> first | assumption | omega | decide)))) | ((with_reducible first | apply i_T | apply g_T); (focus (simp -dsimp -implicitDefEqProofs (disch := first | omega | (simp <;> omega) | fail); done))) | ((with_reducible first | apply i_F | apply g_F); (focus (simp -dsimp -implicitDefEqProofs (disch := first | omega | (simp <;> omega) | fail); done))))
  exact ret_ok rfl ⟨(Grows.refl _).alloc _, .refl _⟩
theorem ct_ledger_Ledger_Dense {b : Nat} {M : List (Int × LogV)} {F : List Nat} {s : AState} (hL : LedAt s b M F) (hM : MOk M) (hS : Small M) : Gives prog F_ledger_Ledger_Dense [.p b 0] s (.v (.bool ((grpsL M).all dense))) s := by
  have hS1 := hS.len
  refine runs_e h_ledger_Ledger_Dense (Nat.le_of_ble_eq_true rfl) ?_
  refine st0 ?_
  refine gv (ct_ledger_Ledger_Groups hL hM hS) ?_
  refine st0 ?_
  refine gv (ct_slices_ContainsFunc_Group (l := grpsL M) (g := F_ledger_Ledger_Dense_1) (fs := []) (caps := []) (p := fun g => !dense g) (by simp [grpsL]; omega) (fun e he => ct_ledger_Ledger_Dense_1 (by obtain ⟨x, hx, rfl⟩ := List.mem_map.1 he; exact hM.gok x hx))) ?_
  refine st0 ?_
  refine ret_ok rfl ⟨?_, rfl⟩
  rw [List.all_eq_not_any_not]; rfl
theorem rn_ledger_Ledger_Take {b b2 : Nat} {M M2 : List (Int × LogV)} {F F2 : List Nat} {s : AState} (hL : LedAt s b M F) (hL2 : LedAt s b2 M2 F2) (hd : ∀ x ∈ F2, x ∉ F) (hM2 : MOk M2) (hS2 : M2.length ≤ 1000000) :
    Runs (compCode prog) prog F_ledger_Ledger_Take [.p b 0, .p b2 0] s (fun _ s' => ∃ F', LedAt s' b (takeL M M2) F' ∧ Mut F F' s s') := by
  have hlt := hL.lt
  have hlt2 := hL2.lt
  have hb : b < s.n := hlt b hL.mem
  have hb2 : b2 < s.n := hlt2 b2 hL2.mem
  have hL2' := hL2
  obtain ⟨mb2, A2, B2, F2', rfl, d1, d2, d3, d4, d5⟩ := hL2
  have hmb2 : mb2 < s.n := hlt2 mb2 (by simp)
  have hlB := d4.len
  have hsn : ((s.alloc (.cells [.p b 0])).alloc (.cells [.p b2 0])).n = s.n + 2 := by simp
  refine runs_e h_ledger_Ledger_Take (Nat.le_of_ble_eq_true rfl) ?_
  refine st0 ?_
  refine gv (ct_ledger_Ledger_logs (b := b2)) ?_
  refine st0 ?_
  have hit := it_ledger_Ledger_logs (cb := s.n + 1) (b := b2) (mb := mb2) d3 (d4.pre hM2) (by omega)
  refine w_rangeS (m := M2.length) (by simp) hit (by intro x hx; obtain ⟨p, _, rfl⟩ := List.mem_map.1 hx; rfl) (by simp [pairA, hlB]) (fun k s' => TakI s b b2 (takeL M (M2.take k)) F s') (fun _ _ => False) ?_ ?_ ?_ ?_ ?_ ?_ ?_
  · intro LR
    refine ⟨dz0, dz0, by simp, F, hL.keep fun x hx => by have := hlt x hx; simp (disch := first | omega | (simp <;> omega) | fail), .grows ?_, fun x hx => .inl (hlt x hx)⟩
    exact ((((Grows.refl s).alloc _).alloc _).alloc _).alloc _
  · rintro k s' ⟨h1, h2, h4, F', h5, h6, h7⟩; exact ⟨h2, (h6.keep b2 hb2 (hd b2 (by simp))).trans d1, (h6.keep mb2 hmb2 (hd mb2 (by simp))).trans d2⟩
  · intro k s' o hn h
    exact h.keep (by simp) fun x hx _ => get_alloc_ne (by omega)
  · intro j s' o hn h; exact h
  · intro LR LB LJ hLB hLR k hk s' hdd hLL hln hI
    have hkB : k < B2.length := by simpa [pairA] using hk
    have hk' : k < M2.length := by omega
    rw [takeL_snoc hk']
    obtain ⟨hk1, Fi, f1, f2⟩ := d4.nth hkB hk'
    generalize takeL M (M2.take k) = M1 at hI ⊢
    simp only [hsn, pairA, List.getElem_map, List.zip_cons_cons, List.zip_nil_right, List.reverse_cons, List.reverse_nil, List.nil_append, List.cons_append] at hdd hLL hln ⊢
    rw [hk1]
    generalize hx : M2[k].1 = i at hk1 ⊢
    generalize hy : M2[k].2 = v at f1 ⊢
    generalize B2[k].2 = lb2 at f1 ⊢
    have f3 : LogAt (s'.set (s.n + 2 + 1) LB) lb2 v Fi := f1.keep fun x hx => by
      have := hlt2 x (by simp [f2 x hx])
      obtain ⟨h1, h2, h4, F', h5, h6, h7⟩ := hI
      simp (disch := first | omega | (simp <;> omega) | fail) [h6.keep x this (hd x (by simp [f2 x hx]))]
    have hI2 : TakI s b b2 M1 F (s'.set (s.n + 2 + 1) LB) := hI.keep (by simp) fun x hx hn => dz1 hn
    obtain ⟨h1, h2, h4, F', h5, h6, h7⟩ := hI2
    have k2 : (s'.set (s.n + 2 + 1) LB).get (s.n + 2 + 1) = LB := dz0
    have k4 : (s'.set (s.n + 2 + 1) LB).get (s.n + 2) = .defd := dz1 hdd
    have h5' := h5
    have hF1 := h5.lt
    obtain ⟨mb, A, B, G, rfl, e1, e2, e3, e4, e5⟩ := h5
    have e1s : s'.get b = .cells [.m mb] := by rw [← e1, AState.get_set_ne _ _ (by have := h6.own b (by simp); omega)]
    have h1s := hI.b0
    refine st3 hLL h1s e1s ?_
    clear h1s e1s hI hLL hdd hln
    generalize s'.set (s.n + 2 + 1) LB = s1 at k2 k4 f3 h1 h2 h4 h5' h6 hF1 e1 e2 e4 ⊢
    have hb1 : b < s1.n := hF1 b (by simp)
    have hmb1 : mb < s1.n := hF1 mb (by simp)
    have hmbG : mb ∉ G := (List.nodup_cons.1 (List.nodup_cons.1 e5).2).1
    have hbG : b ∉ G := fun h => (List.nodup_cons.1 e5).1 (by simp [h])
    have hbmb : b ≠ mb := fun e => (List.nodup_cons.1 e5).1 (by simp [e])
    have hGn : G.Nodup := (List.nodup_cons.1 (List.nodup_cons.1 e5).2).2
    have hSM : Srt M1 := h5'.srt
    have close : ∀ M3 s2, s2.get (s.n + 2) = .defd → TakI s b b2 M3 F s2 → Lfi (FinS (some (s.n + 2)) (s.n + 2 + 1) LR LJ (TakI s b b2 M3 F) fun _ _ => False) none (s2.set (s.n + 2 + 1) LR) .a := fun M3 s2 g1 g2 => by
      have := g2.n
      exact fins_n (fun d hd => by cases hd; simp (disch := first | omega | (simp <;> omega) | fail) [g1]) (dz0) (g2.keep (by simp) fun x hx hn => dz1 hn)
    have hlk : (lk M1 i).isSome = (lk A i).isSome := by
      have := e4.no i
      rw [← e3.lk] at this
      cases h1 : lk A i <;> cases h2 : lk M1 i <;> simp_all
    rw [hlk]
    refine m_look (κ := Int) (A := A) (k := i) (b := mb) (enc := ptr) (by simp) e2 (by simp; rfl) ?_
    cases hl : lk A i with
    | some lb =>
      have hlv : lkV ptr A i (.v (.pointer none)) false = .p lb 0 := by unfold lkV; rw [hl]; rfl
      rw [hlv]
      refine st1 k2 ?_
      exact close _ s1 k4 ⟨h1, h2, h4, _, h5', h6, h7⟩
    | none =>
      have hlv : lkV ptr A i (.v (.pointer none)) false = .v (.pointer none) := by unfold lkV; rw [hl]; rfl
      rw [hlv]
      refine sd2 h1 e1 ?_
      refine run (rn_place_Log_Copy f3) (by simp) ?_
      rintro _ s2 ⟨lb, Fi', rfl, g1, g2, g3⟩
      refine ⟨m_ext g2.ext, ?_⟩
      refine sd0 ?_
      have gn := g2.n
      have gk := fun x (h : x < s1.n) => g2.get h
      refine q_mset (κ := Int) (A := A) (k := i) (v := lb) (b := mb) (enc := ptr) (by simp) ((gk mb hmb1).trans e2) (by simp; rfl) (by simp [ptr]) ?_
      obtain ⟨G2, r1, r2, r3⟩ := e4.add (i := i) g1 (.new g2 g3) hGn (by rw [← e3.lk]; exact hl)
      have hg2 : ∀ x ∈ G2, x ∉ [b, mb] := fun x hx hm => r2.apart (G := [b, mb]) (by simp [hbG, hmbG]) (by simp [hb1, hmb1]) x hm hx
      have r4 : LogsAt (s2.set mb (.map (encM ptr (setM A i lb)))) (putL B i lb) (putL M1 i v) G2 := r1.keep fun x hx => AState.get_set_ne _ _ (fun e => hg2 x hx (by simp [e]))
      have j2 : (s2.set mb (.map (encM ptr (setM A i lb)))).get (s.n + 2 + 1) = LB := by
        have := h7 mb (by simp)
        simp (disch := first | omega | (simp <;> omega) | fail) [gk, k2]
      refine sd0 ?_
      refine st1 j2 ?_
      have hmb2 := h7 mb (by simp)
      have m9 : ∀ x, x < s1.n → x ≠ mb → (s2.set mb (.map (encM ptr (setM A i lb)))).get x = s1.get x := fun x hx hn => by rw [AState.get_set_ne _ _ hn]; exact gk x hx
      have m6 : (s2.set mb (.map (encM ptr (setM A i lb)))).get mb = .map (encM ptr (setM A i lb)) := dz0
      have m10 : (s2.set mb (.map (encM ptr (setM A i lb)))).n = s2.n := rfl
      generalize s2.set mb (.map (encM ptr (setM A i lb))) = s3 at m6 m9 m10 r4 j2 ⊢
      refine close _ s3 ((m9 _ (by omega) (by omega)).trans k4) ?_
      have q5 : Mut (b :: mb :: G) (b :: mb :: G2) s1 s3 := by
        refine ⟨by omega, fun x hx hn => m9 x hx (fun e => hn (by simp [e])), fun x hx => ?_⟩
        rcases List.mem_cons.1 hx with rfl | hx
        · exact .inl (by simp)
        rcases List.mem_cons.1 hx with rfl | hx
        · exact .inl (by simp)
        rcases r2.own x hx with h8 | h8
        · exact .inl (by simp [h8])
        · exact .inr h8
      refine ⟨(m9 _ (by omega) (by omega)).trans h1, (m9 _ (by omega) (by omega)).trans h2, by omega, b :: mb :: G2, ⟨mb, _, _, G2, rfl, (m9 _ hb1 hbmb).trans e1, m6, e3.set i lb, r4, ?_⟩, h6.trans q5, fun x hx => ?_⟩
      · rw [List.nodup_cons, List.nodup_cons]
        exact ⟨by simp [hbmb]; exact fun h => hg2 b h (by simp), fun h => hg2 mb h (by simp), r3⟩
      · rcases q5.own x hx with h8 | h8
        · exact h7 x h8
        · exact .inr (by omega)
  · rintro s' hdd hln hI
    rw [List.take_length] at hI
    simp only [hsn] at hdd hln ⊢
    refine st0 ?_
    refine end_okD ?_ ?_ rfl ?_
    · simp (disch := first | omega | (simp <;> omega) | fail) [hdd]
    · simp
    obtain ⟨h1, h2, h4, F', h5, h6, h7⟩ := hI
    have hF := h5.lt
    have hk : ∀ x, x < s'.n → (x < s.n ∨ s.n + 4 ≤ x) → (killAll [s.n + 2] (s'.set (s.n + 2 + 1) .dead)).get x = s'.get x := fun x hx h8 => by
      simp only [killAll, List.foldl]
      rw [AState.get_set_ne _ _ (by omega), AState.get_set_ne _ _ (by omega)]
    exact ⟨F', h5.keep fun x hx => hk x (hF x hx) (h7 x hx), ⟨by simpa [killAll] using h6.n, fun x hx hn => (hk x (by have := h6.n; omega) (.inl hx)).trans (h6.keep x hx hn), h6.own⟩⟩
  · intro j s' _ _ h; exact h.elim
end Go.Proofs.Ytmpoeamfcienoaa
end
section
namespace Go.Ab
theorem srt_snoc {β : Type} {A : List (Int × β)} {i : Int} {v : β} (h : ∀ x ∈ A, x.1 < i) : putL A i v = A ++ [(i, v)] := by
  induction A with
  | nil => rfl
  | cons x A ih =>
    have hx := h x (by simp)
    rw [putL, if_neg (by show ¬ i < x.1; omega), if_neg (by omega), ih (fun y hy => h y (by simp [hy]))]; rfl
theorem takeL_nil {M : List (Int × LogV)} (hS : Srt M) : takeL [] M = M := by
  have h : ∀ k, k ≤ M.length → takeL [] (M.take k) = M.take k := by
    intro k
    induction k with
    | zero => intro _; simp [takeL]
    | succ k ih =>
      intro hk
      have hk' : k < M.length := hk
      rw [takeL_snoc hk', ih (by omega)]
      have hlt : ∀ x ∈ M.take k, x.1 < M[k].1 := fun x hx => by
        obtain ⟨j, hj, rfl⟩ := List.getElem_of_mem hx
        simp only [List.length_take] at hj
        rw [List.getElem_take]
        exact List.pairwise_iff_getElem.1 hS j k (by omega) hk' (by omega)
      rw [if_neg, srt_snoc hlt]
      · exact List.take_append_getElem hk'
      · have : lk (M.take k) M[k].1 = none := lk_none1.2 fun x hx e => by have := hlt x hx; omega
        rw [this]; simp
  have := h M.length (Nat.le_refl _)
  simpa using this
end Go.Ab
namespace Go.Proofs.Ytmpoeamfcienoaa
open Go.Ab
set_option linter.unusedVariables false
set_option linter.unusedSimpArgs false
set_option maxRecDepth 100000
set_option maxHeartbeats 1000000
theorem rn_ledger_Ledger_Copy {b : Nat} {M : List (Int × LogV)} {F : List Nat} {s : AState} (hL : LedAt s b M F) (hM : MOk M) (hS : M.length ≤ 1000000) :
    Runs (compCode prog) prog F_ledger_Ledger_Copy [.p b 0] s (fun x s' => ∃ b' F', x = .p b' 0 ∧ LedAt s' b' M F' ∧ Mut [] F' s s') := by
  have hlt := hL.lt
  refine runs_e h_ledger_Ledger_Copy (Nat.le_of_ble_eq_true rfl) ?_
  refine st0 ?_
  refine rn0 (rn_ledger_New) ?_
  rintro _ s1 ⟨b1, F1, rfl, h1, h2, h3⟩
  refine st0 ?_
  refine run (rn_ledger_Ledger_Take h1 (hL.keep fun x hx => h2.get (hlt x hx)) (fun x hx hx' => by have := hlt x hx; have := h3 x hx'; omega) hM hS) (by simp) ?_
  rintro _ s2 ⟨F2, k1, k2⟩
  rw [takeL_nil hL.srt] at k1
  refine st0 ?_
  exact ret_ok rfl ⟨b1, F2, rfl, k1, (Mut.new h2 h3).trans k2⟩
theorem ct_ledger_Same {b b2 : Nat} {M M2 : List (Int × LogV)} {F F2 : List Nat} {s : AState} (hL : LedAt s b M F) (hL2 : LedAt s b2 M2 F2) (hM : MOk M) (hM2 : MOk M2) (hS : Small M) (hS2 : Small M2) :
    Gives prog F_ledger_Same [.p b 0, .p b2 0] s (.v (.bool (decide (grpsL M = grpsL M2) && decide (spotsM M = spotsM M2)))) s := by
  have z1 := hS.len
  have z2 := hS.sp
  refine runs_e h_ledger_Same (Nat.le_of_ble_eq_true rfl) ?_
  refine st0 ?_
  refine gv (ct_ledger_Ledger_Groups hL hM hS) ?_
  refine st0 ?_
  refine gv (ct_ledger_Ledger_Groups hL2 hM2 hS2) ?_
  refine st0 ?_
  refine gv (ct_slices_EqualFunc_Group (l := grpsL M) (m := grpsL M2) (by simp [grpsL]; omega) (fun g hg => by obtain ⟨x, hx, rfl⟩ := List.mem_map.1 hg; have := (hM.gok x hx).len; have := MI_eq; omega)) ?_
  by_cases h : grpsL M = grpsL M2
  · refine st1 h ?_
    refine gv (ct_ledger_Ledger_Spots hL hM hS) ?_
    refine st0 ?_
    refine gv (ct_ledger_Ledger_Spots hL2 hM2 hS2) ?_
    refine st0 ?_
    refine gv (ct_slices_Equal_Spot (l := spotsM M) (m := spotsM M2) (by omega)) ?_
    refine st1 h ?_
    exact ret_ok rfl ⟨by simp [retVal, h], rfl⟩
  · refine st1 h ?_
    exact ret_ok rfl ⟨by simp [retVal, h], rfl⟩
end Go.Proofs.Ytmpoeamfcienoaa
end
section
namespace Go.Ab
set_option linter.unusedVariables false
set_option linter.unusedSimpArgs false
theorem part_gr {p : Prt} (h : isPart p = true) : 0 ≤ p.gr ∧ p.gr ≤ 999 := by
  simp only [isPart, Bool.and_eq_true] at h; simpa [btw] using h.1.1
theorem doS_id (g : Grp) (p : Prt) : (doS g p).id = g.id := by
  have h1 : ∀ (g : Grp) i t, (goneS g i t).id = g.id := fun g i t => by unfold goneS; split <;> rfl
  have h2 : ∀ (l : List Ent) (g : Grp), (l.foldl putS g).id = g.id := fun l => by
    induction l with
    | nil => intro g; rfl
    | cons e l ih => intro g; rw [List.foldl_cons, ih]; unfold putS; split <;> rfl
  unfold doS
  split
  · split
    · rfl
    split
    · rfl
    split
    · exact h1 _ _ _
    split
    · rw [h1]; split <;> rfl
    split
    · unfold fwdS; rw [h2]; split <;> split <;> first | rfl | exact h1 _ _ _
    · rfl
  · rfl
section
variable {look : Int → Option Plc} {p : Prt} {at_ : Plc}
theorem lk_nx0 (k : Int) (c : List (Int × Plc)) (i : Int) : lk (nx0 putL look k c) i = if i = k then (match look k with | some x => some x | none => lk c i) else lk c i := by
  unfold nx0
  cases look k with
  | none => simp
  | some x => simp [lk_put]
theorem lk_nx1s : ∀ {es : List Ent} (c : List (Int × Plc)) (i : Int), (es.Pairwise fun a b => a.ix < b.ix) →
    lk (es.foldl (nx1 putL look p at_) c) i = match es.find? (fun e => decide (e.ix = i)) with | some e => some (if broughtS p e = true then at_ else (look i).getD ⟨0, 0⟩) | none => lk c i
  | [], c, i, _ => rfl
  | e :: es, c, i, h => by
    obtain ⟨h1, h2⟩ := List.pairwise_cons.1 h
    rw [List.foldl_cons, lk_nx1s _ _ h2, List.find?_cons]
    have hc : lk (nx1 putL look p at_ c e) i = if i = e.ix then some (if broughtS p e = true then at_ else (look e.ix).getD ⟨0, 0⟩) else lk c i := by
      unfold nx1
      split
      · rw [lk_put, lk_put]; by_cases a : i = e.ix <;> simp [a]
      · rw [lk_put]
    by_cases a : e.ix = i
    · have : es.find? (fun e => decide (e.ix = i)) = none := List.find?_eq_none.2 fun x hx => by have := h1 x hx; simp; omega
      rw [this]
      simp only [hc, a]
      simp [a]
    · have : ¬ i = e.ix := fun e => a e.symm
      rw [hc, if_neg this]
      simp [a]
theorem lk_next (old now : Grp) (i : Int) (h : now.es.Pairwise fun a b => a.ix < b.ix) :
    lk (nextW putL look p at_ old now) i = if marksS p old now = true ∧ i = 0 then some at_ else if (p.kd = 2 ∨ p.he = true) ∧ i = -1 then some at_ else
      match now.es.find? (fun e => decide (e.ix = i)) with | some e => some (if broughtS p e = true then at_ else (look i).getD ⟨0, 0⟩) | none => if i = 0 ∨ i = -1 then look i else none := by
  unfold nextW
  have hI : lk (nxI putL look p at_ now.es) i = match now.es.find? (fun e => decide (e.ix = i)) with | some e => some (if broughtS p e = true then at_ else (look i).getD ⟨0, 0⟩) | none => if i = 0 ∨ i = -1 then look i else none := by
    unfold nxI
    rw [lk_nx1s _ _ h, lk_nx0, lk_nx0]
    cases now.es.find? (fun e => decide (e.ix = i)) with
    | some e => rfl
    | none =>
      by_cases a : i = 0
      · subst a; cases look 0 <;> simp
      · by_cases b : i = -1
        · subst b; cases look (-1) <;> simp
        · simp [a, b]
  unfold nxM nxH
  by_cases hm : marksS p old now = true
  · rw [if_pos hm, lk_put]
    by_cases a : i = 0
    · simp [hm, a]
    · rw [if_neg a, if_neg (fun h : marksS p old now = true ∧ i = 0 => a h.2)]
      by_cases hh : p.kd = 2 ∨ p.he = true
      · rw [if_pos hh, lk_put]
        by_cases b : i = -1
        · simp [hh, b]
        · rw [if_neg b, if_neg (fun h : (p.kd = 2 ∨ p.he = true) ∧ i = -1 => b h.2)]; exact hI
      · rw [if_neg hh, if_neg (fun h : (p.kd = 2 ∨ p.he = true) ∧ i = -1 => hh h.1)]; exact hI
  · rw [if_neg hm, if_neg (fun h : marksS p old now = true ∧ i = 0 => hm h.1)]
    by_cases hh : p.kd = 2 ∨ p.he = true
    · rw [if_pos hh, lk_put]
      by_cases b : i = -1
      · simp [hh, b]
      · rw [if_neg b, if_neg (fun h : (p.kd = 2 ∨ p.he = true) ∧ i = -1 => b h.2)]; exact hI
    · rw [if_neg hh, if_neg (fun h : (p.kd = 2 ∨ p.he = true) ∧ i = -1 => hh h.1)]; exact hI
end
theorem next_srt (look : Int → Option Plc) (p : Prt) (at_ : Plc) (old now : Grp) : Srt (nextW putL look p at_ old now) := (nextW_rep (look := look) (look' := look) (fun _ => rfl) p at_ old now).srt
end Go.Ab
end
section
namespace Go.Ab
set_option linter.unusedVariables false
set_option linter.unusedSimpArgs false
theorem has_of {es : List Ent} (h : es.Pairwise fun a b => a.ix < b.ix) {i : Int} {e : Ent} (he : e ∈ es) (hi : e.ix = i) : es.find? (fun e => decide (e.ix = i)) = some e := by
  induction es with
  | nil => cases he
  | cons x es ih =>
    obtain ⟨h1, h2⟩ := List.pairwise_cons.1 h
    rw [List.find?_cons]
    rcases List.mem_cons.1 he with rfl | he
    · simp [hi]
    · have := h1 e he
      have hx : ¬ x.ix = i := by omega
      simp only [hx, decide_false]
      exact ih h2 he
theorem VOk.new {id : Int} (h : 0 ≤ id ∧ id ≤ 999) : VOk id ⟨newG id, []⟩ := ⟨rfl, h, newG_spar h, .nil, by simp, by simp [newG]⟩
theorem VOk.do {i : Int} {v : LogV} (h : VOk i v) (p : Prt) (at_ : Plc) : VOk i (logDo v p at_) := by
  unfold logDo
  split
  case isFalse => exact h
  case isTrue hok =>
    have hS := h.g.doS p
    refine ⟨by rw [doS_id]; exact h.id, h.rng, hS, next_srt _ _ _ _ _, fun x hx => ?_, fun e he => ?_⟩
    · have hl := (next_srt (lk v.sp) p at_ v.g (doS v.g p)).lk_mem hx
      rw [lk_next _ _ _ hS.srt] at hl
      split at hl
      · next hc => exact .inr (.inl hc.2)
      split at hl
      · next hc => exact .inl hc.2
      split at hl
      · next e hf =>
        have := List.find?_some hf
        exact .inr (.inr ⟨e, List.mem_of_find?_eq_some hf, by simpa using (by simpa using this : e.ix = x.1).symm⟩)
      split at hl
      · next hc => rcases hc with hc | hc
                   · exact .inr (.inl hc)
                   · exact .inl hc
      · cases hl
    · have hl := lk_next (look := lk v.sp) (p := p) (at_ := at_) v.g (doS v.g p) e.ix hS.srt
      have hpos := (okEnt_iff.1 (hS.ok e he)).1
      rw [if_neg (fun hc => by have := hc.2; omega), if_neg (fun hc => by have := hc.2; omega), has_of hS.srt he rfl] at hl
      exact ⟨_, lk_mem hl, rfl⟩
theorem MOk.at {M : List (Int × LogV)} (hM : MOk M) {i : Int} (hi : 0 ≤ i ∧ i ≤ 999) : VOk i ((lk M i).getD ⟨newG i, []⟩) := by
  cases h : lk M i with
  | none => exact .new hi
  | some v => exact hM.2 _ (lk_mem h)
theorem MOk.doP {M : List (Int × LogV)} (hM : MOk M) (at_ : Plc) (p : Prt) : MOk (doP at_ M p) := by
  unfold Ab.doP
  split
  · next hp =>
    split
    · exact ⟨hM.1.del _, fun x hx => hM.2 x (List.mem_filter.1 hx).1⟩
    · refine ⟨hM.1.put _ _, fun x hx => ?_⟩
      rcases put_mem hx with rfl | hx
      · exact (hM.at (part_gr hp)).do p at_
      · exact hM.2 x hx
  · exact hM
theorem MOk.doL {M : List (Int × LogV)} (hM : MOk M) (l : List Prt) (at_ : Plc) : MOk (doL M l at_) := by
  unfold Ab.doL
  induction l generalizing M with
  | nil => exact hM
  | cons p l ih => exact ih (hM.doP at_ p)
end Go.Ab
end
section
namespace Go.Ab
open Go.RowKit Go.Proofs
set_option linter.unusedVariables false
set_option linter.unusedSimpArgs false
@[ext] structure Stp where
  l : List Prt
  sg : Int
  at_ : Int
  deriving DecidableEq, Inhabited
end Go.Ab
end
section
namespace Go.Ab
set_option linter.unusedVariables false
theorem srt_len2 {α : Type} : ∀ {l : List (Int × α)} {lo hi : Int}, Srt l → (∀ x ∈ l, lo ≤ x.1 ∧ x.1 ≤ hi) → lo ≤ hi + 1 → (l.length : Int) ≤ hi - lo + 1
  | [], lo, hi, _, _, h => by simp; omega
  | x :: l, lo, hi, hs, hr, h => by
    obtain ⟨h1, h2⟩ := List.pairwise_cons.1 hs
    have hx := hr x (by simp)
    have := srt_len2 (lo := x.1 + 1) (hi := hi) h2 (fun y hy => ⟨by have : x.1 < y.1 := h1 y hy; omega, (hr y (by simp [hy])).2⟩) (by omega)
    simp only [List.length_cons]; omega
theorem MOk.len {M : List (Int × LogV)} (h : MOk M) : M.length ≤ 1000 := by
  have := srt_len2 (lo := 0) (hi := 999) h.1 (fun x hx => (h.2 x hx).rng) (by omega)
  omega
theorem MOk.nil : MOk [] := ⟨.nil, by simp⟩
theorem MOk.small {M : List (Int × LogV)} (h : MOk M) (hs : (spotsM M).length ≤ 4000000000) : Small M :=
  ⟨by have := h.len; omega, fun x hx => by have := (h.2 x hx).g.len; have := MI_eq; omega, by omega⟩
section
variable {P : Program} {g : FuncId} {args : List AV} {s : AState} {R K : AV → AState → Prop}
theorem runS (h : Runs (compCode P) P g (args.map AV.strip) s R) (k : ∀ x s', R x s' → K x s') : Lruns (compCode P) P g args s K .a := run (Runs.strip h) rfl k
end
def kA : List Prt := [⟨3, 2, [], 2, 0, 0, 0, 0, false, false⟩, ⟨1, 1, [⟨4, 1, ⟨#[]⟩⟩], 0, 0, 0, 0, 0, false, false⟩]
def kB : List Prt := [⟨1, 5, [], 0, 0, 0, 0, 0, false, false⟩]
def kM : List (Int × LogV) := doL [] kA ⟨1, 16⟩
def kN : List (Int × LogV) := doL kM kB ⟨2, 0⟩
theorem kM_ok : MOk kM := MOk.nil.doL _ _
theorem kN_ok : MOk kN := kM_ok.doL _ _
theorem kM_sp : spotsM kM = [⟨1, 4, 1, 16⟩, ⟨3, -1, 1, 16⟩] := by kernel_rfl
theorem kM_g : (lk kM 3).map (·.g) = some ⟨3, 1, 0, 2, 0, 0, []⟩ := by kernel_rfl
theorem kN_sp : spotsM kN = [⟨3, -1, 1, 16⟩] := by kernel_rfl
theorem kM_l : (grpsL kM).length = 2 := by kernel_rfl
theorem kN_l : (grpsL kN).length = 1 := by kernel_rfl
theorem kM_s : Small kM := kM_ok.small (by rw [kM_sp]; simp)
theorem kN_s : Small kN := kN_ok.small (by rw [kN_sp]; simp)
end Go.Ab
namespace Go.Proofs.Ytmpoeamfcienoaa
open Go.Ab
set_option linter.unusedVariables false
set_option linter.unusedSimpArgs false
set_option maxRecDepth 100000
set_option maxHeartbeats 1000000
theorem kM_d : (grpsL kM).all dense = false := by kernel_rfl
theorem kN_d : (grpsL kN).all dense = true := by kernel_rfl
theorem ct_ladelaw14_known {s : AState} : Gives prog F_ladelaw14_known [] s (.v (.bool true)) s := by
  refine Runs.gives (runs_e h_ladelaw14_known (Nat.le_of_ble_eq_true rfl) ?_) (.v _)
  refine st0 ?_
  refine rn0 (rn_ledger_New) ?_
  rintro _ s1 ⟨b, F, rfl, h1, h2, h3⟩
  refine st0 ?_
  refine runS (rn_ledger_Ledger_Do (l := kA) (at_ := ⟨1, 16⟩) h1 MOk.nil.gok (by decide) (by decide)) ?_
  rintro _ s2 ⟨F2, h4, h5⟩
  refine st0 ?_
  refine gv (ct_ledger_Ledger_Spots (M := kM) h4 kM_ok kM_s) ?_
  rw [kM_sp]
  refine st0 ?_
  refine gv (ct_ledger_Ledger_Get (M := kM) (i := 3) h4 kM_s) ?_
  have hg : ((lk kM 3).map (·.g)).getD zeroG = ⟨3, 1, 0, 2, 0, 0, []⟩ := by rw [kM_g]; rfl
  have hg2 : (lk kM 3).isSome = true := by have := congrArg Option.isSome kM_g; simpa using this
  rw [hg, hg2]
  refine st0 ?_
  have hb2 := h4.lt
  have c3 : (s2.alloc (.cells (⟨3, 1, 0, 2, 0, 0, []⟩ : Grp).cells)).get s2.n = .cells [.v (.int .i64 3), .v (.int .i64 1), .v (.int .i64 0), .v (.int .i64 2), .v (.int .i64 0), .v (.int .i64 0), .sl [] .no] := get_alloc_eq rfl
  have n3 : (s2.alloc (.cells (⟨3, 1, 0, 2, 0, 0, []⟩ : Grp).cells)).n = s2.n + 1 := rfl
  have h6 : LedAt (s2.alloc (.cells (⟨3, 1, 0, 2, 0, 0, []⟩ : Grp).cells)) b kM F2 := h4.keep fun x hx => get_alloc_ne (by have := hb2 x hx; omega)
  have m3 : Mut [] F2 s (s2.alloc (.cells (⟨3, 1, 0, 2, 0, 0, []⟩ : Grp).cells)) := ((Mut.new h2 h3).trans h5).trans (.grows ((Grows.refl s2).alloc _))
  generalize s2.alloc (.cells (⟨3, 1, 0, 2, 0, 0, []⟩ : Grp).cells) = s3 at c3 n3 h6 m3 ⊢
  refine run (rn_ledger_Ledger_Copy h6 kM_ok (by have := kM_ok.len; omega)) (by simp) ?_
  rintro _ s4 ⟨b', F', rfl, k1, k2⟩
  have hb3 := h6.lt
  have d1 : ∀ x ∈ F2, x ∉ F' := k2.apart (by simp) hb3
  have h7 : LedAt s4 b kM F2 := h6.keep (k2.get (by simp) hb3)
  have c4 : s4.get s2.n = _ := (k2.keep _ (by omega) (by simp)).trans c3
  have m4 : Mut [] (F' ++ F2) s s4 := m3.trans (by simpa using k2.more F2)
  have o4 : s2.n ∉ F' := fun hx => by
    rcases k2.own _ hx with h | h
    · cases h
    · omega
  refine st0 ?_
  refine gv (ct_ledger_Ledger_Dense (M := kM) h7 kM_ok kM_s) ?_
  rw [kM_d]
  refine st0 ?_
  refine runS (rn_ledger_Ledger_Do (l := kB) (at_ := ⟨2, 0⟩) k1 kM_ok.gok (by decide) (by decide)) ?_
  rintro _ s5 ⟨F'', k3, k4⟩
  have hb4 := h7.lt
  have h8 : LedAt s5 b kM F2 := h7.keep (k4.get d1 hb4)
  have c5 : s5.get s2.n = _ := (k4.keep _ (by have := k2.n; omega) o4).trans c4
  have m5 : Mut [] (F'' ++ F2) s s5 := m4.trans (k4.more F2)
  refine st1 c5 ?_
  refine gv (ct_ledger_Ledger_Dense (M := kN) k3 kN_ok kN_s) ?_
  rw [kN_d]
  refine st0 ?_
  refine gv (ct_ledger_Ledger_Groups (M := kN) k3 kN_ok kN_s) ?_
  refine st1 kN_l ?_
  refine gv (ct_ledger_Ledger_Groups (M := kM) h8 kM_ok kM_s) ?_
  refine st1 kM_l ?_
  refine run (rn_ledger_Ledger_Copy h8 kM_ok (by have := kM_ok.len; omega)) (by simp) ?_
  rintro _ s6 ⟨b6, F6, rfl, j1, j2⟩
  refine st0 ?_
  have h9 : LedAt s6 b kM F2 := h8.keep (j2.get (by simp) h8.lt)
  have k5 : LedAt s6 b' kN F'' := k3.keep (j2.get (by simp) k3.lt)
  refine gv (ct_ledger_Same h9 j1 kM_ok kM_ok kM_s kM_s) ?_
  refine st0 ?_
  refine gv (ct_ledger_Same h9 k5 kM_ok kN_ok kM_s kN_s) ?_
  have e6 : decide (spotsM kM = spotsM kN) = false := by rw [kM_sp, kN_sp]; decide
  rw [e6]
  refine st0 ?_
  have m6 : Mut [] _ s s6 := m5.trans (by simpa using j2.more (F'' ++ F2))
  exact ret_ok rfl ⟨⟨m6.n, fun x hx => .inl (m6.keep x hx (by simp)).symm⟩, .refl _⟩
end Go.Proofs.Ytmpoeamfcienoaa
end
section
namespace Go.Proofs.Ytmpoeamfcienoaa
open Go.Ab
set_option linter.unusedVariables false
set_option linter.unusedSimpArgs false
set_option maxRecDepth 100000
set_option maxHeartbeats 1000000
def held (n : Int) : Int := if n < 1 then 1 else if 64 < n then 64 else n
def ofG (g n : Int) : Int := (if g < 0 then 0 else g).tmod (held n)
end Go.Proofs.Ytmpoeamfcienoaa
end
section
namespace Go.Proofs.Ytmpoeamfcienoaa
open Go.Ab
set_option linter.unusedVariables false
set_option linter.unusedSimpArgs false
set_option maxRecDepth 100000
set_option maxHeartbeats 4000000
def mineP (i n : Int) (p : Prt) : Bool := decide (ofG p.gr n = i)
def pickF (i n : Int) (f : Fnd) : Fnd := { f with ps := f.ps.filter (mineP i n) }
def splitI (l : List Fnd) (i n : Int) : List Fnd := (l.map (pickF i n)).filter fun f => !f.ps.isEmpty
def split (l : List Fnd) (n : Int) : List (List Fnd) := (List.range (held n).toNat).map fun i : Nat => splitI l (i : Int) n
end Go.Proofs.Ytmpoeamfcienoaa
end
section
namespace Go.Ab
set_option linter.unusedVariables false
set_option linter.unusedSimpArgs false
def stG (g : Int) (o : Option LogV) (x : Prt × Plc) : Option LogV :=
  if isPart x.1 = true ∧ x.1.gr = g then (if x.1.kd = 5 then none else some (logDo (o.getD ⟨newG g, []⟩) x.1 x.2)) else o
theorem lk_doP (M : List (Int × LogV)) (at_ : Plc) (p : Prt) (g : Int) : lk (doP at_ M p) g = stG g (lk M g) (p, at_) := by
  unfold doP stG
  by_cases hp : isPart p = true
  · rw [if_pos hp]
    by_cases e : p.gr = g
    · subst e
      rw [if_pos (show isPart (p, at_).1 = true ∧ _ from ⟨hp, rfl⟩)]
      by_cases h5 : p.kd = 5
      · rw [if_pos h5, if_pos h5, lk_del, if_pos rfl]
      · rw [if_neg h5, if_neg h5, lk_put, if_pos rfl]
    · rw [if_neg (show ¬ (isPart (p, at_).1 = true ∧ (p, at_).1.gr = g) from fun h => e h.2)]
      by_cases h5 : p.kd = 5
      · rw [if_pos h5, lk_del, if_neg (Ne.symm e)]
      · rw [if_neg h5, lk_put, if_neg (Ne.symm e)]
  · rw [if_neg hp, if_neg (show ¬ (isPart (p, at_).1 = true ∧ (p, at_).1.gr = g) from fun h => hp h.1)]
theorem lk_doL (l : List Prt) (at_ : Plc) (g : Int) : ∀ (M : List (Int × LogV)), lk (doL M l at_) g = (l.map fun p => (p, at_)).foldl (stG g) (lk M g) := by
  unfold doL
  induction l with
  | nil => intro M; rfl
  | cons p l ih => intro M; rw [List.foldl_cons, List.map_cons, List.foldl_cons, ih, lk_doP]
theorem stG_other {g : Int} {o : Option LogV} {x : Prt × Plc} (h : x.1.gr ≠ g) : stG g o x = o := by unfold stG; rw [if_neg fun k => h k.2]
theorem fold_none (g : Int) : ∀ (l : List (Prt × Plc)) (o : Option LogV), (∀ x ∈ l, x.1.gr ≠ g) → l.foldl (stG g) o = o := by
  intro l
  induction l with
  | nil => intro o _; rfl
  | cons x l ih => intro o h; rw [List.foldl_cons, stG_other (h x (by simp)), ih _ fun y hy => h y (by simp [hy])]
def runL (M : List (Int × LogV)) (l : List (List Prt × Plc)) : List (Int × LogV) := l.foldl (fun M x => doL M x.1 x.2) M
def flatP (l : List (List Prt × Plc)) : List (Prt × Plc) := l.flatMap fun x => x.1.map fun p => (p, x.2)
theorem MOk.runL {M : List (Int × LogV)} (hM : MOk M) (l : List (List Prt × Plc)) : MOk (runL M l) := by
  unfold Ab.runL
  induction l generalizing M with
  | nil => exact hM
  | cons x l ih => exact ih (hM.doL _ _)
theorem lk_runL (g : Int) (l : List (List Prt × Plc)) : ∀ (M : List (Int × LogV)), lk (runL M l) g = (flatP l).foldl (stG g) (lk M g) := by
  unfold runL flatP
  induction l with
  | nil => intro M; rfl
  | cons x l ih => intro M; rw [List.foldl_cons, ih, lk_doL, List.flatMap_cons, List.foldl_append]
theorem MOk.nil' : MOk [] := ⟨.nil, by simp⟩
end Go.Ab
end
section
namespace Go.Ab
set_option linter.unusedVariables false
set_option linter.unusedSimpArgs false
def nextF (L : List (List Fnd)) (i : Int) : Option (Fnd × List Fnd) := if i < 0 then none else match L[i.toNat]? with | some (f :: r) => some (f, r) | _ => none
def stepL (L : List (List Fnd)) (i : Int) : List (List Fnd) := match nextF L i with | some (_, r) => L.set i.toNat r | none => L
def stepM (L : List (List Fnd)) (Ms : List (List (Int × LogV))) (i : Int) : List (List (Int × LogV)) := match nextF L i with | some (f, _) => Ms.set i.toNat (doL (Ms.getD i.toNat []) f.ps ⟨f.sg, f.at_⟩) | none => Ms
end Go.Ab
end
section
namespace Go.Ab
set_option linter.unusedVariables false
set_option linter.unusedSimpArgs false
def fpl (l : List Fnd) : List (List Prt × Plc) := l.map fun f => (f.ps, ⟨f.sg, f.at_⟩)
def outs (L : List (List Fnd)) (Ms : List (List (Int × LogV))) : List (List (Int × LogV)) := (L.zip Ms).map fun x => runL x.2 (fpl x.1)
end Go.Ab
end
section
namespace Go.Proofs.Ytmpoeamfcienoaa
open Go.Ab
set_option linter.unusedVariables false
set_option linter.unusedSimpArgs false
set_option maxRecDepth 100000
set_option maxHeartbeats 1000000
def rl0 : List Fnd := [⟨4, [⟨1, 2, [], 0, 0, 0, 0, 0, false, false⟩, ⟨2, 2, [], 0, 0, 0, 0, 0, false, false⟩], 3, 16⟩]
def rL0 : List (List Fnd) := split rl0 2
def rM0 : List (List (Int × LogV)) := List.replicate (held 2).toNat []
def rL1 : List (List Fnd) := stepL rL0 1
def rM1 : List (List (Int × LogV)) := stepM rL0 rM0 1
def rL2 : List (List Fnd) := stepL rL1 1
def rM2 : List (List (Int × LogV)) := stepM rL1 rM1 1
def rL3 : List (List Fnd) := stepL rL2 2
def rM3 : List (List (Int × LogV)) := stepM rL2 rM2 2
def rM4 : List (List (Int × LogV)) := outs rL3 rM3
theorem rs : (spotsM (rM4.getD 1 [])).length = 1 := by kernel_rfl
end Go.Proofs.Ytmpoeamfcienoaa
end
section
namespace Go.Proofs.Ytmpoeamfcienoaa
open Go.Ab
set_option linter.unusedVariables false
set_option linter.unusedSimpArgs false
set_option maxRecDepth 100000
set_option maxHeartbeats 1000000
theorem rem_u8 {n m : Int} (hn : 0 ≤ n) (hm : 0 < m) : 0 ≤ n.tmod m ∧ n.tmod m < m := ⟨Int.tmod_nonneg _ hn, Int.tmod_lt_of_pos _ hm⟩
end Go.Proofs.Ytmpoeamfcienoaa
end
section
namespace Go.Ab
set_option linter.unusedVariables false
set_option linter.unusedSimpArgs false
def ldP (k : Int) (tm : Int) (i : Nat) : Prt := ⟨k, 1, [⟨(i : Int) + 1, tm, ⟨#[]⟩⟩], 0, 0, 0, 0, 0, false, false⟩
def ldL (k tm sg : Int) (j : Nat) : List (List Prt × Plc) := (List.range j).map fun i : Nat => ([ldP k tm i], ⟨sg, (i : Int) + 1⟩)
def ldH (k : Int) : Prt := ⟨k, 2, [], 0, 0, 0, 0, 0, false, false⟩
def ldD (k : Int) : Prt := ⟨k, 5, [], 0, 0, 0, 0, 0, false, false⟩
def ldM1 : List (Int × LogV) := doL [] [ldH 300] ⟨2, 0⟩
def ldM2 (k : Int) (b : Nat) : List (Int × LogV) := runL ldM1 (ldL k 2 4 b)
theorem ldL_snoc (k tm sg : Int) (j : Nat) (M : List (Int × LogV)) : runL M (ldL k tm sg (j + 1)) = doL (runL M (ldL k tm sg j)) [ldP k tm j] ⟨sg, (j : Int) + 1⟩ := by
  unfold ldL; rw [List.range_succ, List.map_append, runL, List.foldl_append]; rfl
theorem ldM1_ok : MOk ldM1 := MOk.nil'.doL _ _
theorem ldM1_sp : (spotsM ldM1).length = 1 := by kernel_rfl
theorem ldM2_ok (k : Int) (b : Nat) : MOk (ldM2 k b) := ldM1_ok.runL _
theorem ldD_part {k : Int} (h : 0 ≤ k ∧ k ≤ 999) : isPart (ldD k) = true := by
  simp [isPart, ldD, btw, core, h]
theorem ld_gone {k : Int} (h : 0 ≤ k ∧ k < 256) (a : Nat) : doL (doL (runL [] (ldL k 1 1 a)) [ldH k, ldH 300] ⟨2, 0⟩) [ldD k] ⟨3, 0⟩ = ldM1 := by
  have ok0 : MOk (doL (doL (runL [] (ldL k 1 1 a)) [ldH k, ldH 300] ⟨2, 0⟩) [ldD k] ⟨3, 0⟩) := ((MOk.nil'.runL _).doL _ _).doL _ _
  refine ok0.1.ext ldM1_ok.1 fun g => ?_
  have e1 : lk ldM1 g = [((ldH 300), (⟨2, 0⟩ : Plc))].foldl (stG g) none := by
    show lk (doL [] [ldH 300] ⟨2, 0⟩) g = _
    rw [lk_doL]; rfl
  rw [e1, lk_doL, lk_doL, lk_runL]
  simp only [List.map_cons, List.map_nil, List.foldl_cons, List.foldl_nil]
  have hap : ∀ x ∈ flatP (ldL k 1 1 a), x.1.gr = k := fun x hx => by
    obtain ⟨y, hy, hx⟩ := List.mem_flatMap.1 hx
    obtain ⟨i, _, rfl⟩ := List.mem_map.1 hy
    simp at hx
    subst hx; rfl
  by_cases hg : g = k
  · subst hg
    have h1 : ∀ o, stG g o (ldD g, (⟨3, 0⟩ : Plc)) = none := fun o => by
      unfold stG; rw [if_pos ⟨ldD_part (by omega), rfl⟩]; exact if_pos rfl
    rw [h1, stG_other (show (ldH 300).gr ≠ g from by simp [ldH]; omega)]
  · have h2 := fold_none g (flatP (ldL k 1 1 a)) none (fun x hx e => hg (by rw [← e, hap x hx]))
    have e0 : lk ([] : List (Int × LogV)) g = none := rfl
    rw [e0, h2, stG_other (x := (ldH k, (⟨2, 0⟩ : Plc))) (fun e => hg e.symm), stG_other (x := (ldD k, (⟨3, 0⟩ : Plc))) (fun e => hg e.symm)]
def ldChk (k b : Nat) : Bool :=
  decide ((spotsM (ldM2 k b)).length = b + 1) && (List.range b).all (fun i => decide ((spotsM (ldM2 k b)).getD i default = (⟨k, (i : Int) + 1, 4, (i : Int) + 1⟩ : Spt))) && decide (((spotsM (ldM2 k b)).getD b default).gr = 300) &&
  decide ((grpsL (ldM2 k b)).length = 1 + min b 1)
end Go.Ab
namespace Go.Proofs.Ytmpoeamfcienoaa
open Go.Ab
set_option linter.unusedVariables false
set_option linter.unusedSimpArgs false
set_option maxRecDepth 100000
set_option maxHeartbeats 1000000
theorem ld_chk : ∀ k < 256, ∀ b < 6, (ldChk k b && (grpsL (ldM2 k b)).all dense) = true := by decide +kernel
theorem ld_none {k : Int} (h : 0 ≤ k ∧ k < 256) : lk ldM1 k = none := by
  have e1 : lk ldM1 k = [((ldH 300), (⟨2, 0⟩ : Plc))].foldl (stG k) none := by
    show lk (doL [] [ldH 300] ⟨2, 0⟩) k = _
    rw [lk_doL]; rfl
  rw [e1, List.foldl_cons, stG_other (show (ldH 300).gr ≠ k from by simp [ldH]; omega)]; rfl
end Go.Proofs.Ytmpoeamfcienoaa
end
section
namespace Go.Ab
@[simp] theorem Spt.eqF (x : Spt) (a b c d : Int) : eqAV (.agg [.i, .i, .i, .i]) x.av (.agg [.v (.int .i64 a), .v (.int .i64 b), .v (.int .i64 c), .v (.int .i64 d)]) = some (decide (x = ⟨a, b, c, d⟩)) := Spt.eq x ⟨a, b, c, d⟩
end Go.Ab
namespace Go.Proofs.Ytmpoeamfcienoaa
open Go.Ab
set_option linter.unusedVariables false
set_option linter.unusedSimpArgs false
set_option maxRecDepth 100000
set_option maxHeartbeats 1000000
theorem ct_ladelaw14_LedgerDestroys {id n m : Int} {s : AState} (hid : 0 ≤ id ∧ id < 256) (hn : 0 ≤ n ∧ n < 256) (hm : 0 ≤ m ∧ m < 256) : Gives prog F_ladelaw14_LedgerDestroys [.v (.int .u8 id), .v (.int .u8 n), .v (.int .u8 m)] s (.v (.bool true)) s := by
  refine Runs.gives (runs_e h_ladelaw14_LedgerDestroys (Nat.le_of_ble_eq_true rfl) ?_) (.v _)
  obtain ⟨k, rfl⟩ : ∃ k : Nat, id = k := ⟨id.toNat, by omega⟩
  have hk : k < 256 := by omega
  have hr1 := rem_u8 hn.1 (show (0 : Int) < 6 by omega)
  have hr2 := rem_u8 hm.1 (show (0 : Int) < 6 by omega)
  obtain ⟨a, ha⟩ : ∃ a : Nat, (a : Int) = n.tmod 6 := ⟨(n.tmod 6).toNat, by omega⟩
  obtain ⟨b, hb⟩ : ∃ b : Nat, (b : Int) = m.tmod 6 := ⟨(m.tmod 6).toNat, by omega⟩
  have wk : IntKind.wrap .i64 (k : Int) = k := wrap_i64 (by omega) (by omega)
  have wa : IntKind.wrap .i64 (n.tmod 6) = a := by rw [wrap_i64 (by omega) (by omega), ha]
  have wb : IntKind.wrap .i64 (m.tmod 6) = b := by rw [wrap_i64 (by omega) (by omega), hb]
  have hb6 : b < 6 := by omega
  have chk := ld_chk k hk b hb6
  simp only [ldChk, Bool.and_eq_true, decide_eq_true_eq, List.all_eq_true, List.mem_range] at chk
  obtain ⟨⟨⟨⟨c1, c2⟩, c3⟩, c4⟩, c5⟩ := chk
  have ok2 := ldM2_ok k b
  have sm2 : Small (ldM2 k b) := ok2.small (by omega)
  have sm1 : Small ldM1 := ldM1_ok.small (by rw [ldM1_sp]; omega)
  have hnone := ld_none (k := (k : Int)) (by omega)
  refine st0 ?_
  refine giv (ct_ladelaw14_known) (by first | (simp; done) | rfl | (simp; rfl)) ?_
  refine st0 ?_
  refine run (rn_ledger_New) (by first | (simp; done) | rfl | (simp; rfl)) ?_
  rintro _ s1 ⟨g, F0, rfl, h1, h2, h3⟩
  refine st0 ?_
  refine loop_ok [7, 8, 9, 10, 11] (fun r x s3 => ∃ (j : Nat) (F : List Nat), j + r = a ∧ LedAt s3 g (runL [] (ldL k 1 1 j)) F ∧ Mut [] F s s3 ∧
    x = { t := den 132 [(7, .p g 0), (8, .v (.int .i64 k)), (9, .v (.int .i64 a)), (10, .v (.int .i64 b)), (11, .v (.int .i64 ((j : Int) + 1)))], d := [] }) a ?_ ?_
  · exact ⟨0, F0, by simp, h1, .new h2 h3, by simp [wk, wa, wb, ha, hb]⟩
  clear h1 h2 h3
  rintro r x s3 ⟨j, F, hjr, led, mt, rfl⟩
  by_cases hlt : (j : Int) + 1 ≤ a
  · have w3 : IntKind.wrap .i64 ((j : Int) + 1 + 1) = (j : Int) + 1 + 1 := wrap_i64 (by omega) (by omega)
    refine st1 hlt ?_
    refine runS (rn_ledger_Ledger_Do (l := [ldP k 1 j]) (at_ := ⟨1, (j : Int) + 1⟩) led (MOk.nil'.runL _).gok (by simp) (by simp [ldP])) ?_
    rintro _ s4 ⟨F4, h4, m4⟩
    rw [← ldL_snoc] at h4
    refine st0 ?_
    exact ⟨r - 1, by omega, j + 1, F4, by omega, h4, mt.trans m4, by simp [w3]⟩
  have hja : j = a := by omega
  subst hja
  refine st1 hlt ?_
  refine runS (rn_ledger_Ledger_Do (l := [ldH k, ldH 300]) (at_ := ⟨2, 0⟩) led (MOk.nil'.runL _).gok (by simp) (by simp [ldH])) ?_
  rintro _ s4 ⟨F4, h4, m4⟩
  repeat (first | simp -dsimp -implicitDefEqProofs (disch := first | omega | (simp <;> omega) | fail) | ((with_reducible first | apply m_1 | apply m_0); (focus ((conv => lhs; simp -dsimp -implicitDefEqProofs (disch := first | omega | (simp <;> omega) | fail)); done))) | ((with_reducible first | apply i_T | apply g_T); (focus (simp -dsimp -implicitDefEqProofs (disch := first | omega | (simp <;> omega) | fail); done))) | ((with_reducible first | apply i_F | apply g_F); (focus (simp -dsimp -implicitDefEqProofs (disch := first | omega | (simp <;> omega) | fail); done))))
  refine runS (rn_ledger_Ledger_Do (l := [ldD k]) (at_ := ⟨3, 0⟩) h4 ((MOk.nil'.runL _).doL _ _).gok (by simp) (by simp [ldD])) ?_
  rintro _ s5 ⟨F5, h5, m5⟩
  rw [ld_gone (by omega)] at h5
  have mt5 := (mt.trans m4).trans m5
  repeat (first | simp -dsimp -implicitDefEqProofs (disch := first | omega | (simp <;> omega) | fail) | ((with_reducible first | apply m_1 | apply m_0); (focus ((conv => lhs; simp -dsimp -implicitDefEqProofs (disch := first | omega | (simp <;> omega) | fail)); done))) | ((with_reducible first | apply i_T | apply g_T); (focus (simp -dsimp -implicitDefEqProofs (disch := first | omega | (simp <;> omega) | fail); done))) | ((with_reducible first | apply i_F | apply g_F); (focus (simp -dsimp -implicitDefEqProofs (disch := first | omega | (simp <;> omega) | fail); done))))
  refine giv (ct_ledger_Ledger_Get (i := (k : Int)) h5 sm1) (by first | (simp; done) | rfl | (simp; rfl)) ?_
  rw [hnone]
  repeat (first | simp -dsimp -implicitDefEqProofs (disch := first | omega | (simp <;> omega) | fail) | ((with_reducible first | apply m_1 | apply m_0); (focus ((conv => lhs; simp -dsimp -implicitDefEqProofs (disch := first | omega | (simp <;> omega) | fail)); done))) | ((with_reducible first | apply i_T | apply g_T); (focus (simp -dsimp -implicitDefEqProofs (disch := first | omega | (simp <;> omega) | fail); done))) | ((with_reducible first | apply i_F | apply g_F); (focus (simp -dsimp -implicitDefEqProofs (disch := first | omega | (simp <;> omega) | fail); done))))
  have h6 : LedAt (s5.alloc (.cells ((Option.map (fun x : LogV => x.g) none).getD zeroG).cells)) g ldM1 F5 := h5.keep fun x hx => get_alloc_ne (by have := h5.lt x hx; omega)
  refine giv (ct_ledger_Ledger_Spots h6 ldM1_ok sm1) (by first | (simp; done) | rfl | (simp; rfl)) ?_
  repeat (first | simp -dsimp -implicitDefEqProofs (disch := first | omega | (simp <;> omega) | fail) [ldM1_sp] | ((with_reducible first | apply m_1 | apply m_0); (focus ((conv => lhs; simp -dsimp -implicitDefEqProofs (disch := first | omega | (simp <;> omega) | fail) [ldM1_sp]); done))) | ((with_reducible first | apply i_T | apply g_T); (focus (simp -dsimp -implicitDefEqProofs (disch := first | omega | (simp <;> omega) | fail) [ldM1_sp]; done))) | ((with_reducible first | apply i_F | apply g_F); (focus (simp -dsimp -implicitDefEqProofs (disch := first | omega | (simp <;> omega) | fail) [ldM1_sp]; done))))
  have mt6 : Mut [] F5 s (s5.alloc (.cells zeroG.cells)) := mt5.trans (.grows ((Grows.refl _).alloc _))
  have h6 : LedAt (s5.alloc (.cells zeroG.cells)) g ldM1 F5 := h6
  generalize s5.alloc (.cells zeroG.cells) = s6 at h6 mt6 ⊢
  refine loop_ok [7, 8, 10, 13, 14, 15] (fun r x s7 => ∃ (q : Nat) (F : List Nat), q + r = b ∧ LedAt s7 g (ldM2 k q) F ∧ Mut [] F s s7 ∧
    x = { t := den 132 [(7, .p g 0), (8, .v (.int .i64 k)), (10, .v (.int .i64 b)), (13, .v (.bool false)), (14, .v (.int .i64 1)), (15, .v (.int .i64 ((q : Int) + 1)))], d := [] }) b ?_ ?_
  · exact ⟨0, F5, by simp, h6, mt6, by simp⟩
  clear h6 mt6 h5 mt5 m5 m4 h4 mt led
  rintro r2 x s7 ⟨q, F7, hqr, led, mt, rfl⟩
  by_cases hlt2 : (q : Int) + 1 ≤ b
  · have w3 : IntKind.wrap .i64 ((q : Int) + 1 + 1) = (q : Int) + 1 + 1 := wrap_i64 (by omega) (by omega)
    repeat (first | simp -dsimp -implicitDefEqProofs (disch := first | omega | (simp <;> omega) | fail) [hlt2] | ((with_reducible first | apply m_1 | apply m_0); (focus ((conv => lhs; simp -dsimp -implicitDefEqProofs (disch := first | omega | (simp <;> omega) | fail) [hlt2]); done))) | ((with_reducible first | apply i_T | apply g_T); (focus (simp -dsimp -implicitDefEqProofs (disch := first | omega | (simp <;> omega) | fail) [hlt2]; done))) | ((with_reducible first | apply i_F | apply g_F); (focus (simp -dsimp -implicitDefEqProofs (disch := first | omega | (simp <;> omega) | fail) [hlt2]; done))))
    refine runS (rn_ledger_Ledger_Do (l := [ldP k 2 q]) (at_ := ⟨4, (q : Int) + 1⟩) led (ldM2_ok _ _).gok (by simp) (by simp [ldP])) ?_
    rintro _ s8 ⟨F8, h8, m8⟩
    have e8 : doL (ldM2 k q) [ldP k 2 q] ⟨4, (q : Int) + 1⟩ = ldM2 k (q + 1) := (ldL_snoc k 2 4 q ldM1).symm
    rw [e8] at h8
    repeat (first | simp -dsimp -implicitDefEqProofs (disch := first | omega | (simp <;> omega) | fail) | ((with_reducible first | apply m_1 | apply m_0); (focus ((conv => lhs; simp -dsimp -implicitDefEqProofs (disch := first | omega | (simp <;> omega) | fail)); done))) | ((with_reducible first | apply i_T | apply g_T); (focus (simp -dsimp -implicitDefEqProofs (disch := first | omega | (simp <;> omega) | fail); done))) | ((with_reducible first | apply i_F | apply g_F); (focus (simp -dsimp -implicitDefEqProofs (disch := first | omega | (simp <;> omega) | fail); done))))
    exact ⟨r2 - 1, by omega, q + 1, F8, by omega, h8, mt.trans m8, by simp [w3]⟩
  have hqb : q = b := by omega
  subst hqb
  have wb1 : IntKind.wrap .i64 ((q : Int) + 1) = (q : Int) + 1 := wrap_i64 (by omega) (by omega)
  have hlen : ((spotsM (ldM2 k q)).length : Int) = (q : Int) + 1 := by omega
  have hden : (grpsL (ldM2 k q)).all dense = true := List.all_eq_true.2 c5
  repeat (first | simp -dsimp -implicitDefEqProofs (disch := first | omega | (simp <;> omega) | fail) [hlt2] | ((with_reducible first | apply m_1 | apply m_0); (focus ((conv => lhs; simp -dsimp -implicitDefEqProofs (disch := first | omega | (simp <;> omega) | fail) [hlt2]); done))) | ((with_reducible first | apply i_T | apply g_T); (focus (simp -dsimp -implicitDefEqProofs (disch := first | omega | (simp <;> omega) | fail) [hlt2]; done))) | ((with_reducible first | apply i_F | apply g_F); (focus (simp -dsimp -implicitDefEqProofs (disch := first | omega | (simp <;> omega) | fail) [hlt2]; done))))
  refine gv (ct_ledger_Ledger_Spots led ok2 sm2) ?_
  repeat (first | simp -dsimp -implicitDefEqProofs (disch := first | omega | (simp <;> omega) | fail) [wb1, hlen] | ((with_reducible first | apply m_1 | apply m_0); (focus ((conv => lhs; simp -dsimp -implicitDefEqProofs (disch := first | omega | (simp <;> omega) | fail) [wb1, hlen]); done))) | ((with_reducible first | apply i_T | apply g_T); (focus (simp -dsimp -implicitDefEqProofs (disch := first | omega | (simp <;> omega) | fail) [wb1, hlen]; done))) | ((with_reducible first | apply i_F | apply g_F); (focus (simp -dsimp -implicitDefEqProofs (disch := first | omega | (simp <;> omega) | fail) [wb1, hlen]; done))))
  refine gv (ct_ledger_Ledger_Dense led ok2 sm2) ?_
  rw [hden]
  repeat (first | simp -dsimp -implicitDefEqProofs (disch := first | omega | (simp <;> omega) | fail) | ((with_reducible first | apply m_1 | apply m_0); (focus ((conv => lhs; simp -dsimp -implicitDefEqProofs (disch := first | omega | (simp <;> omega) | fail)); done))) | ((with_reducible first | apply i_T | apply g_T); (focus (simp -dsimp -implicitDefEqProofs (disch := first | omega | (simp <;> omega) | fail); done))) | ((with_reducible first | apply i_F | apply g_F); (focus (simp -dsimp -implicitDefEqProofs (disch := first | omega | (simp <;> omega) | fail); done))))
  refine loop_ok [7, 8, 10, 16, 17] (fun r x s8 => ∃ i : Nat, i + r = q ∧ s8 = s7 ∧ x = { t := den 132 [(7, .p g 0), (8, .v (.int .i64 k)), (10, .v (.int .i64 q)), (16, .sl ((spotsM (ldM2 k q)).map Spt.av) .no), (17, .v (.int .i64 i))], d := [] }) q ?_ ?_
  · exact ⟨0, by simp, rfl, by simp⟩
  rintro r3 x s8 ⟨i, hir, rfl, rfl⟩
  have hil : i < (spotsM (ldM2 k q)).length := by omega
  by_cases hi3 : i < q
  · have w3 : IntKind.wrap .i64 ((i : Int) + 1) = (i : Int) + 1 := wrap_i64 (by omega) (by omega)
    have hsp := c2 i hi3
    rw [List.getD_eq_getElem?_getD, List.getElem?_eq_getElem hil, Option.getD_some] at hsp
    repeat (first | simp -dsimp -implicitDefEqProofs (disch := first | omega | (simp <;> omega) | fail) [hi3, hil, w3, hsp] | ((with_reducible first | apply m_1 | apply m_0); (focus ((conv => lhs; simp -dsimp -implicitDefEqProofs (disch := first | omega | (simp <;> omega) | fail) [hi3, hil, w3, hsp]); done))) | ((with_reducible first | apply i_T | apply g_T); (focus (simp -dsimp -implicitDefEqProofs (disch := first | omega | (simp <;> omega) | fail) [hi3, hil, w3, hsp]; done))) | ((with_reducible first | apply i_F | apply g_F); (focus (simp -dsimp -implicitDefEqProofs (disch := first | omega | (simp <;> omega) | fail) [hi3, hil, w3, hsp]; done))))
    exact ⟨r3 - 1, by omega, i + 1, by omega, rfl, by simp [w3]⟩
  · have hiq : i = q := by omega
    subst hiq
    rw [List.getD_eq_getElem?_getD, List.getElem?_eq_getElem hil, Option.getD_some] at c3
    repeat (first | simp -dsimp -implicitDefEqProofs (disch := first | omega | (simp <;> omega) | fail) [hi3, hil, c3] | ((with_reducible first | apply m_1 | apply m_0); (focus ((conv => lhs; simp -dsimp -implicitDefEqProofs (disch := first | omega | (simp <;> omega) | fail) [hi3, hil, c3]); done))) | ((with_reducible first | apply i_T | apply g_T); (focus (simp -dsimp -implicitDefEqProofs (disch := first | omega | (simp <;> omega) | fail) [hi3, hil, c3]; done))) | ((with_reducible first | apply i_F | apply g_F); (focus (simp -dsimp -implicitDefEqProofs (disch := first | omega | (simp <;> omega) | fail) [hi3, hil, c3]; done))))
    refine gv (ct_ledger_Ledger_Groups led ok2 sm2) ?_
    by_cases hi0 : i = 0
    · subst hi0
      have c4' : (grpsL (ldM2 k 0)).length = 1 := c4
      refine st1 c4' ?_
      exact ret_ok rfl ⟨⟨mt.n, fun x hx => .inl (mt.keep x hx (by simp)).symm⟩, .refl _⟩
    · have c4' : (grpsL (ldM2 k i)).length = 2 := by omega
      have hmm : (if (1 : Int) < (i : Int) then (1 : Int) else (i : Int)) = 1 := by split <;> omega
      refine st2 c4' hmm ?_
      exact ret_ok rfl ⟨⟨mt.n, fun x hx => .inl (mt.keep x hx (by simp)).symm⟩, .refl _⟩
end Go.Proofs.Ytmpoeamfcienoaa
end
