/- Going on. -/
import Derived.Shelf.SlGeneric
import Derived.Ground.GgzProg
import Derived.Ground.SlgmProg
import Derived.Ground.SlmcProg
import Derived.Shelf.SlIterI.Nil
import Derived.Shelf.SlMaps.Clone
import Derived.Shelf.SortM.Plain
import Derived.Shelf.SortM.SortNone
import Derived.Test.YtmpoeamfcienoaaKPL15
section
namespace Go.Proofs
open Go.Shelf
def Try.sh_maps_Clone_Place_ren : Go.Shelf.Ren := ⟨fun | 5 => 45 | 7 => 81 | n => n, fun | 23 => 92 | 25 => 3 | 3 => 41 | 4 => 4 | 20 => 20 | n => n, fun | n => n⟩
theorem Try.sh_maps_Clone_Place : Go.Proofs.SlLaysW.n5 Try.prog Try.sh_maps_Clone_Place_ren := {
  mixed := by kernel_rfl
  f5 := ⟨Try.f45.name, by decide, Try.func45.trans (congrArg some (by kernel_rfl))⟩
  f7 := Try.func81.trans (congrArg some (by kernel_rfl))
  t4 := Try.underlying4
  a4 := Try.isAgg4
  z4 := Try.sizeOf4
  v4 := Try.zeroValue4
  t20 := Try.underlying20
  a20 := Try.isAgg20
  z20 := Try.sizeOf20
  v20 := Try.zeroValue20
  t23 := Try.underlying92
  a23 := Try.isAgg92
  z23 := Try.sizeOf92
  v23 := Try.zeroValue92 }
def Try.sh_slices_Sorted_int_ren : Go.Shelf.Ren := ⟨fun | 6 => 60 | 8 => 106 | 9 => 107 | 11 => 131 | 13 => 133 | 12 => 132 | 23 => 150 | 24 => 151 | 14 => 141 | 15 => 142 | 16 => 143 | 17 => 144 | 18 => 145 | 19 => 146 | 20 => 147 | 21 => 148 | 22 => 149 | 25 => 153 | 26 => 154 | 27 => 155 | 28 => 156 | 29 => 157 | 30 => 158 | 31 => 159 | n => n, fun | 26 => 3 | 28 => 112 | 24 => 114 | 0 => 0 | 3 => 3 | 37 => 60 | 48 => 195 | 50 => 197 | 4 => 4 | 40 => 187 | 39 => 186 | 45 => 192 | 5 => 5 | 9 => 9 | 51 => 199 | 55 => 203 | 57 => 205 | 58 => 206 | 33 => 86 | n => n, fun | n => n⟩
theorem Try.sh_slices_Sorted_int : Go.Proofs.SlLaysZI.n6 Try.prog Try.sh_slices_Sorted_int_ren := {
  mixed := by kernel_rfl
  f6 := ⟨Try.f60.name, by decide, Try.func60.trans (congrArg some (by kernel_rfl))⟩
  f8 := ⟨Try.f106.name, by decide, Try.func106.trans (congrArg some (by kernel_rfl))⟩
  f11 := ⟨Try.f131.name, by decide, Try.func131.trans (congrArg some (by kernel_rfl))⟩
  t0 := Try.underlying0
  a0 := Try.isAgg0
  z0 := Try.sizeOf0
  v0 := Try.zeroValue0
  t24 := Try.underlying114
  a24 := Try.isAgg114
  z24 := Try.sizeOf114
  v24 := Try.zeroValue114
  t26 := Try.underlying3
  a26 := Try.isAgg3
  z26 := Try.sizeOf3
  v26 := Try.zeroValue3
  t28 := Try.underlying112
  a28 := Try.isAgg112
  z28 := Try.sizeOf112
  v28 := Try.zeroValue112
  i26 := by kernel_rfl }
def Try.sh_maps_Keys_Place_ren : Go.Shelf.Ren := ⟨fun | 7 => 61 | 10 => 108 | n => n, fun | 23 => 92 | 26 => 3 | 3 => 41 | 28 => 112 | 0 => 0 | 27 => 111 | 33 => 86 | 4 => 4 | n => n, fun | n => n⟩
theorem Try.sh_maps_Keys_Place : Go.Proofs.SlLaysZI.n7 Try.prog Try.sh_maps_Keys_Place_ren := {
  mixed := by kernel_rfl
  f7 := ⟨Try.f61.name, by decide, Try.func61.trans (congrArg some (by kernel_rfl))⟩
  f10 := ⟨Try.f108.name, by decide, Try.func108.trans (congrArg some (by kernel_rfl))⟩
  t0 := Try.underlying0
  a0 := Try.isAgg0
  z0 := Try.sizeOf0
  v0 := Try.zeroValue0
  t4 := Try.underlying4
  a4 := Try.isAgg4
  z4 := Try.sizeOf4
  v4 := Try.zeroValue4
  t23 := Try.underlying92
  a23 := Try.isAgg92
  z23 := Try.sizeOf92
  v23 := Try.zeroValue92
  t26 := Try.underlying3
  a26 := Try.isAgg3
  z26 := Try.sizeOf3
  v26 := Try.zeroValue3
  t27 := Try.underlying111
  a27 := Try.isAgg111
  z27 := Try.sizeOf111
  v27 := Try.zeroValue111
  t28 := Try.underlying112
  a28 := Try.isAgg112
  z28 := Try.sizeOf112
  v28 := Try.zeroValue112
  t33 := Try.underlying86
  a33 := Try.isAgg86
  z33 := Try.sizeOf86
  v33 := Try.zeroValue86 }
def Try.sh_slices_Sort_int_ren : Go.Shelf.Ren := ⟨fun | 5 => 107 | 8 => 133 | 7 => 132 | 19 => 150 | 20 => 151 | 10 => 141 | 11 => 142 | 12 => 143 | 13 => 144 | 14 => 145 | 15 => 146 | 16 => 147 | 17 => 148 | 18 => 149 | 30 => 153 | 31 => 154 | 32 => 155 | 33 => 156 | 34 => 157 | 35 => 158 | 40 => 159 | n => n, fun | 23 => 114 | 25 => 3 | 3 => 3 | 32 => 60 | 22 => 114 | 0 => 0 | 44 => 195 | 46 => 197 | 4 => 4 | 36 => 187 | 35 => 186 | 41 => 192 | 5 => 5 | 9 => 9 | 53 => 199 | 57 => 203 | 63 => 205 | 64 => 206 | n => n, fun | n => n⟩
theorem Try.sh_slices_Sort_int : Go.Proofs.SlLaysM.n5 Try.prog Try.sh_slices_Sort_int_ren := {
  mixed := by kernel_rfl
  f5 := ⟨Try.f107.name, by decide, Try.func107.trans (congrArg some (by kernel_rfl))⟩
  f7 := ⟨Try.f132.name, by decide, Try.func132.trans (congrArg some (by kernel_rfl))⟩
  f8 := Try.func133.trans (congrArg some (by kernel_rfl))
  f10 := ⟨Try.f141.name, by decide, Try.func141.trans (congrArg some (by kernel_rfl))⟩
  f11 := ⟨Try.f142.name, by decide, Try.func142.trans (congrArg some (by kernel_rfl))⟩
  f12 := ⟨Try.f143.name, by decide, Try.func143.trans (congrArg some (by kernel_rfl))⟩
  f13 := ⟨Try.f144.name, by decide, Try.func144.trans (congrArg some (by kernel_rfl))⟩
  f14 := ⟨Try.f145.name, by decide, Try.func145.trans (congrArg some (by kernel_rfl))⟩
  f15 := ⟨Try.f146.name, by decide, Try.func146.trans (congrArg some (by kernel_rfl))⟩
  f16 := ⟨Try.f147.name, by decide, Try.func147.trans (congrArg some (by kernel_rfl))⟩
  f17 := ⟨Try.f148.name, by decide, Try.func148.trans (congrArg some (by kernel_rfl))⟩
  f18 := ⟨Try.f149.name, by decide, Try.func149.trans (congrArg some (by kernel_rfl))⟩
  f19 := Try.func150.trans (congrArg some (by kernel_rfl))
  f20 := Try.func151.trans (congrArg some (by kernel_rfl))
  f30 := ⟨Try.f153.name, by decide, Try.func153.trans (congrArg some (by kernel_rfl))⟩
  f31 := Try.func154.trans (congrArg some (by kernel_rfl))
  f32 := Try.func155.trans (congrArg some (by kernel_rfl))
  f33 := ⟨Try.f156.name, by decide, Try.func156.trans (congrArg some (by kernel_rfl))⟩
  f34 := ⟨Try.f157.name, by decide, Try.func157.trans (congrArg some (by kernel_rfl))⟩
  f35 := ⟨Try.f158.name, by decide, Try.func158.trans (congrArg some (by kernel_rfl))⟩
  f40 := ⟨Try.f159.name, by decide, Try.func159.trans (congrArg some (by kernel_rfl))⟩
  t0 := Try.underlying0
  a0 := Try.isAgg0
  z0 := Try.sizeOf0
  v0 := Try.zeroValue0
  t3 := Try.underlying3
  a3 := Try.isAgg3
  z3 := Try.sizeOf3
  v3 := Try.zeroValue3
  t4 := Try.underlying4
  a4 := Try.isAgg4
  z4 := Try.sizeOf4
  v4 := Try.zeroValue4
  t5 := Try.underlying5
  a5 := Try.isAgg5
  z5 := Try.sizeOf5
  v5 := Try.zeroValue5
  t9 := Try.underlying9
  a9 := Try.isAgg9
  z9 := Try.sizeOf9
  v9 := Try.zeroValue9
  t22 := Try.underlying114
  a22 := Try.isAgg114
  z22 := Try.sizeOf114
  v22 := Try.zeroValue114
  t23 := Try.underlying114
  a23 := Try.isAgg114
  z23 := Try.sizeOf114
  v23 := Try.zeroValue114
  t25 := Try.underlying3
  a25 := Try.isAgg3
  z25 := Try.sizeOf3
  v25 := Try.zeroValue3
  t32 := Try.underlying60
  a32 := Try.isAgg60
  z32 := Try.sizeOf60
  v32 := Try.zeroValue60
  t35 := Try.underlying186
  a35 := Try.isAgg186
  z35 := Try.sizeOf186
  v35 := Try.zeroValue186
  t36 := Try.underlying187
  a36 := Try.isAgg187
  z36 := Try.sizeOf187
  v36 := Try.zeroValue187
  t41 := Try.underlying192
  a41 := Try.isAgg192
  z41 := Try.sizeOf192
  v41 := Try.zeroValue192
  t44 := Try.underlying195
  a44 := Try.isAgg195
  z44 := Try.sizeOf195
  v44 := Try.zeroValue195
  t46 := Try.underlying197
  a46 := Try.isAgg197
  z46 := Try.sizeOf197
  v46 := Try.zeroValue197
  t53 := Try.underlying199
  a53 := Try.isAgg199
  z53 := Try.sizeOf199
  v53 := Try.zeroValue199
  t57 := Try.underlying203
  a57 := Try.isAgg203
  z57 := Try.sizeOf203
  v57 := Try.zeroValue203
  t63 := Try.underlying205
  a63 := Try.isAgg205
  z63 := Try.sizeOf205
  v63 := Try.zeroValue205
  t64 := Try.underlying206
  a64 := Try.isAgg206
  z64 := Try.sizeOf206
  v64 := Try.zeroValue206 }
end Go.Proofs
end
section
namespace Go.Proofs.Ytmpoeamfcienoaa
open Go.Ab Go.Maps
set_option linter.unusedVariables false
set_option linter.unusedSimpArgs false
set_option maxRecDepth 100000
set_option maxHeartbeats 4000000
theorem sortsI (m : Nat) : AnyZI.SortsIn Try.prog Try.sh_slices_Sorted_int_ren Fence.wide m :=
  ⟨fun blk off cap ss W hH hblk hsz => callsIn_wide.2 (AnyM.slices_Sort_int Try.sh_slices_Sort_int blk off cap ss W hH hblk hsz),
   fun p cap W => callsIn_wide.2 (AnyM.slices_Sort_int_none Try.sh_slices_Sort_int p cap W)⟩
theorem ct_sorted_Place {β : Type} {s : AState} {cb b : Nat} {enc : β → AV} {A B : List (Int × β)} (hcb : s.get cb = .cells [.m b]) (hb : s.get b = .map (encM enc A)) (hAB : Rep A B)
    (hw : ∀ x ∈ B, -9223372036854775808 ≤ x.1 ∧ x.1 < 9223372036854775808) (hlen : B.length * 8 ≤ 140737488355328) :
    Gives prog F_slices_Sorted_int [.f (.func F_maps_Keys_Place_1) [] [.p cb 0]] s (.sl ((B.map (·.1)).map fun n => .v (.int .i64 n)) .no) s := by
  refine Runs.sorted (kt := Try.sh_maps_Keys_Place_ren.t 26) (T := Try.sh_slices_Sorted_int_ren.t 26) (enters_of Try.func60 (by kernel_rfl) rfl) hcb hb hAB hw Try.sh_maps_Keys_Place.t26 hlen ?_
  intro w Bm r D0 hc hlt hown hsz
  have hseq := AnyZI.keys_gives (ρ := Try.sh_maps_Keys_Place_ren) { Try.sh_maps_Keys_Place with } Fence.wide 2 trivial rfl (by omega) Bm r _ D0 w hlt hc hown
  have := AnyZI.sorted_in Try.sh_slices_Sorted_int Fence.wide 5 trivial trivial trivial trivial rfl (by omega) (sortsI _) (enters_of Try.func107 (by kernel_rfl) rfl) F_maps_Keys_Place_1 #[.pointer (some ⟨Bm, 0, none⟩)] trivial (enters_of Try.func108 (by kernel_rfl) rfl) _ (Maps.size D0)
    (by have e : maxLen = 9223372036854775807 := rfl; omega) (by omega) w hseq
  exact (callsIn_wide (n := 5)).1 this
theorem ct_maps_Keys_Place {b : Nat} {s : AState} : Gives prog F_maps_Keys_Place [.m b] s (.f (.func F_maps_Keys_Place_1) [] [.p s.n 0]) (s.alloc (.cells [.m b])) := by
  refine runs_e h_maps_Keys_Place (Nat.le_of_ble_eq_true rfl) ?_
  refine st0 ?_
  exact ret_ok rfl ⟨rfl, rfl⟩
theorem ct_maps_Clone_Place {κ β : Type} [DecidableEq κ] [KE κ] {s : AState} {b : Nat} {enc : β → AV} {A : List (κ × β)} (hb : s.get b = .map (encM enc A)) : Gives prog F_maps_Clone_Place [.m b] s (.m s.n) (s.alloc (.map (encM enc A))) :=
  Runs.clone (enters_of Try.func45 (by kernel_rfl) rfl) hb fun w r es clock h => AnyW.maps_Clone Try.sh_maps_Clone_Place r es clock w h
theorem ct_slices_Clone_Entry {es : List Ent} {s : AState} (hlen : es.length * 32 ≤ 140737488355328) : Gives prog F_slices_Clone_Entry [.sl (es.map Ent.av) .no] s (.sl (es.map Ent.av) .no) s := by
  refine Runs.gives' (runs_e h_slices_Clone_Entry (Nat.le_of_ble_eq_true rfl) ?_) (flat_sl Ent.row _)
  refine st0 ?_
  refine i_N (fun hne => ?_) (fun hne b => ?_)
  · refine st0 ?_
    refine m_app (xs := []) (tk := .zero) (B := s) (N := s.n) (by simp) (by simp; exact ⟨rfl, rfl⟩) (Grows.refl s) (Nat.le_refl _) (Nat.le_refl _) trivial (by simp) (by simp) (by simp; omega) (by simp; omega) ?_
    intro s' tk2 hg hm _ _
    refine st0 ?_
    exact ret_ok rfl ⟨hg, by simpa using AV.le_no _ _⟩
  · have : es = [] := by simpa using hne
    subst this
    cases b
    · refine st0 ?_
      exact ret_ok rfl ⟨Grows.refl _, AV.le_no _ _⟩
    · refine st0 ?_
      exact ret_ok rfl ⟨Grows.refl _, AV.le_no _ _⟩
end Go.Proofs.Ytmpoeamfcienoaa
end
section
namespace Go.Proofs.Ytmpoeamfcienoaa
open Go.Ab
set_option linter.unusedVariables false
set_option linter.unusedSimpArgs false
set_option maxRecDepth 100000
set_option maxHeartbeats 4000000
def Ones (xs : List AV) : Prop := ∀ x ∈ xs, x.cells = [x] ∧ x.one = true ∧ x.strip = x
theorem Ones.ints {k : IntKind} (l : List Int) : Ones (l.map fun n => .v (.int k n)) := by intro x hx; obtain ⟨n, _, rfl⟩ := List.mem_map.1 hx; exact ⟨rfl, rfl, rfl⟩
theorem ct_slices_Values_int {xs : List AV} {s : AState} : Gives prog F_slices_Values_int [.sl xs .no] s (.f (.func F_slices_Values_int_1) [] [.p s.n 0]) (s.alloc (.cells [.sl xs .no])) := by
  refine runs_e h_slices_Values_int (Nat.le_of_ble_eq_true rfl) ?_
  refine st0 ?_
  exact ret_ok rfl ⟨rfl, rfl⟩
theorem it_slices_Values_int (xs : List AV) (hx : Ones xs) (b : Nat) (hlen : xs.length < 9223372036854775808) : Iter prog F_slices_Values_int_1 [] [.p b 0] (xs.map fun e => [e]) (fun s => s.get b = .cells [.sl xs .no]) := by
  intro l s I J hp ha hj hy h0
  refine runs_e h_slices_Values_int_1 (Nat.le_of_ble_eq_true rfl) ?_
  refine st1 (hp 0 s h0) ?_
  refine loop_ok [0, 5, 6, 7] (fun m a s1 => ∃ j : Nat, j + m = xs.length ∧ I j s1 ∧ a = { t := den 16 [(0, .y l), (5, .sl xs .no), (6, .v (.int .i64 xs.length)), (7, .v (.int .i64 j))], d := [] }) xs.length ?_ ?_
  · exact ⟨0, by simp, h0, by simp⟩
  · rintro m a s1 ⟨j, hjm, hI, rfl⟩
    by_cases hlt : j < xs.length
    · have hw : IntKind.wrap .i64 ((j : Int) + 1) = ((j + 1 : Nat) : Int) := by rw [wrap_i64 (by omega) (by omega)]; omega
      obtain ⟨hc, ho, _⟩ := hx _ (List.getElem_mem hlt)
      refine st3 hlt hc ho ?_
      have hy' := hy j (by simpa using hlt) _ hI
      simp only [List.getElem_map] at hy'
      refine yr0 (hy') ?_
      rintro _ s2 (⟨rfl, hI2⟩ | ⟨rfl, hJ⟩)
      · refine st1 hw ?_
        exact ⟨m - 1, by omega, j + 1, by omega, hI2, by simp⟩
      · refine st0 ?_
        exact ret_ok rfl (.inr hJ)
    · refine st1 hlt ?_
      have : j = xs.length := by omega
      subst this
      exact end_ok rfl (.inl (by simpa using hI))
end Go.Proofs.Ytmpoeamfcienoaa
end
section
namespace Go.Ab
def spotsL (v : LogV) : List Spt := v.sp.map fun x => ⟨v.g.id, x.1, x.2.sg, x.2.at_⟩
end Go.Ab
namespace Go.Proofs.Ytmpoeamfcienoaa
open Go.Ab
set_option linter.unusedVariables false
set_option linter.unusedSimpArgs false
set_option maxRecDepth 100000
set_option maxHeartbeats 8000000
theorem ct_place_Log_Group {lb : Nat} {v : LogV} {F : List Nat} {s : AState} (hL : LogAt s lb v F) (hl : v.g.es.length * 32 ≤ 140737488355328) : Gives prog F_place_Log_Group [.p lb 0] s v.g.av s := by
  have hlt := hL.lt
  obtain ⟨tk, mb, A, rfl, h1, h2, h3⟩ := hL
  have hlb : lb < s.n := hlt lb (by simp)
  unfold logC at h1
  refine Runs.gives' (runs_e h_place_Log_Group (Nat.le_of_ble_eq_true rfl) ?_) (Grp.row _).flat
  refine st1 h1 ?_
  refine gv (ct_slices_Clone_Entry (es := v.g.es) hl) ?_
  refine st0 ?_
  exact ret_ok (by simp; rfl) ⟨((Grows.refl _).alloc _).alloc _, (AV.le_strip _).trans (by simp [Grp.av, Grp.cells, retVal]; exact .refl _)⟩
theorem rn_place_Log_Copy {lb : Nat} {v : LogV} {F : List Nat} {s : AState} (hL : LogAt s lb v F) :
    Runs (compCode prog) prog F_place_Log_Copy [.p lb 0] s (fun x s' => ∃ lb' F', x = .p lb' 0 ∧ LogAt s' lb' v F' ∧ Grows s s' ∧ ∀ x ∈ F', s.n ≤ x) := by
  have hlt := hL.lt
  obtain ⟨tk, mb, A, rfl, h1, h2, h3⟩ := hL
  have hlb : lb < s.n := hlt lb (by simp)
  unfold logC at h1
  refine runs_e h_place_Log_Copy (Nat.le_of_ble_eq_true rfl) ?_
  refine sd1 h1 ?_
  refine gv (ct_maps_Clone_Place h2) ?_
  refine ⟨m_ext (AState.ext_alloc _ _), ?_⟩
  refine sd1 h1 ?_
  refine ret_ok rfl ⟨s.n + 1, [s.n + 1, s.n], rfl, ⟨tk, s.n, A, rfl, ?_, ?_, h3⟩, ((Grows.refl s).alloc _).alloc _, by simp⟩
  · simp [logC]
  · simp (disch := first | omega | (simp <;> omega) | fail)
theorem ct_place_Log_Spots {lb : Nat} {v : LogV} {F : List Nat} {s : AState} (hL : LogAt s lb v F) (hk : ∀ x ∈ v.sp, -9223372036854775808 ≤ x.1 ∧ x.1 < 9223372036854775808) (hlen : v.sp.length * 32 ≤ 140737488355328) :
    Gives prog F_place_Log_Spots [.p lb 0] s (.sl ((spotsL v).map Spt.av) .no) s := by
  have hlt := hL.lt
  obtain ⟨tk, mb, A, rfl, h1, h2, h3⟩ := hL
  have hlb : lb < s.n := hlt lb (by simp)
  have hmb : mb < s.n := hlt mb (by simp)
  unfold logC at h1
  refine Runs.gives' (runs_e h_place_Log_Spots (Nat.le_of_ble_eq_true rfl) ?_) (flat_sl Spt.row _)
  refine st1 h1 ?_
  refine gv (ct_maps_Keys_Place) ?_
  refine st0 ?_
  refine giv (ct_sorted_Place (cb := s.n + 1 + 1) (b := mb) (enc := Plc.av) (A := A) (B := v.sp) (dz0) (dz1 h2) h3 hk (by omega)) (by simp) ?_
  refine st0 ?_
  refine gv (ct_slices_Values_int (xs := (v.sp.map (·.1)).map fun n => .v (.int .i64 n))) ?_
  refine st0 ?_
  have hit := it_slices_Values_int ((v.sp.map (·.1)).map fun n => .v (.int .i64 n)) (.ints _) (s.n + 1 + 1 + 1) (by simp; omega)
  refine w_rangeG (α := Tok) (β := Unit) (m := v.sp.length) (by simp) hit (by intro x hx; obtain ⟨p, _, rfl⟩ := List.mem_map.1 hx; rfl) (by simp) (fun k tk => (((s.alloc (.cells [.p lb 0])).alloc (.cells [.sl (((spotsL v).map Spt.av).take k) tk])).alloc (.cells [.m mb])).alloc (.cells [.sl ((v.sp.map (·.1)).map fun n => .v (.int .i64 n)) .no]))
    (fun k tk s' => May (s.n + 6) s' (((spotsL v).map Spt.av).take k) tk) (fun _ _ => s) (fun _ _ _ => False) .zero (by simp) (fun s' h => trivial) ?_ (fun k a s' o h => h.alloc o) (fun _ _ _ _ h => h) ?_ ?_ (fun _ _ _ _ _ h => h.elim)
  · intro k a s' _ h1 hg
    refine (hg.get (by simp)).trans ?_
    exact get_alloc_eq (by simp)
  · rintro LR LB LJ _ k hkk tk1 g' h1' hm
    have hk' : k < v.sp.length := by simpa using hkk
    have hTk : ((spotsL v).map Spt.av).take (k + 1) = ((spotsL v).map Spt.av).take k ++ [Spt.av ⟨v.g.id, v.sp[k].1, v.sp[k].2.sg, v.sp[k].2.at_⟩] := by
      have hk2 : k < (spotsL v).length := by simpa [spotsL] using hk'
      rw [take_snoc hk2]; simp [spotsL]
    refine st1 h1 ?_
    refine m_look (κ := Int) (A := A) (k := v.sp[k].1) (b := mb) (enc := Plc.av) (by simp) (dz1 h2) (by simp; rfl) ?_
    have hlk : lk A v.sp[k].1 = some v.sp[k].2 := by rw [h3.lk]; exact h3.srt.lk_mem (List.getElem_mem hk')
    have hlv : lkV Plc.av A v.sp[k].1 (.agg [.v (.int .i64 0), .v (.int .i64 0)]) false = v.sp[k].2.av := by unfold lkV; rw [hlk]; rfl
    rw [hlv]
    have hlS : (spotsL v).length = v.sp.length := by simp [spotsL]
    repeat (first | simp -dsimp -implicitDefEqProofs (disch := first | omega | (simp <;> omega) | fail) [Plc.cells] | ((with_reducible first | apply m_1 | apply m_0); (focus ((conv => lhs; simp -dsimp -implicitDefEqProofs (disch := first | omega | (simp <;> omega) | fail) [Plc.cells]); done))) | ((with_reducible first | apply i_T | apply g_T); (focus (simp -dsimp -implicitDefEqProofs (disch := first | omega | (simp <;> omega) | fail) [Plc.cells]; done))) | ((with_reducible first | apply i_F | apply g_F); (focus (simp -dsimp -implicitDefEqProofs (disch := first | omega | (simp <;> omega) | fail) [Plc.cells]; done))))
    refine m_app (xs := ((spotsL v).map Spt.av).take k) (tk := tk1) (ys := [Spt.av ⟨v.g.id, v.sp[k].1, v.sp[k].2.sg, v.sp[k].2.at_⟩]) (t2 := .zero) (B := _) (N := s.n + 6)
      (by simp) (by simp; rfl) ⟨g', rfl⟩ (by simp) (by simp) (hm.swap (by simp) (by simp)) (by rw [← List.map_take]; exact head_map Spt.row _) (by simp) (by simp; omega) (by simp; omega) ?_
    rintro s' tk2 hg2 hm2 _ _
    obtain ⟨g2, rfl⟩ := hg2
    refine st0 ?_
    refine ⟨tk2, by simp, ?_, ?_⟩
    · rw [hTk]; simp; exact ⟨_, rfl⟩
    · rw [hTk]; exact (by simpa using hm2 : May _ _ _ _).swap (by simp) (by simp)
  · rintro LR tk1 g2 h1' hm
    rw [List.take_of_length_le (by simp [spotsL])] at *
    refine st0 ?_
    refine ret_okD (by simp) (by simp) (by simp; rfl) ⟨?_, by simp [retVal]; exact AV.le_no _ _⟩
    simp only [killAll, List.foldl]
    simp
    exact (((((Grows.refl s).alloc _).alloc _).alloc _).alloc _).alloc _ |>.alloc _ |>.allocs _
end Go.Proofs.Ytmpoeamfcienoaa
end
section
namespace Go.Ab
set_option linter.unusedVariables false
theorem VOk.keys {i : Int} {v : LogV} (h : VOk i v) : ∀ x ∈ v.sp, -1 ≤ x.1 ∧ x.1 ≤ MI := fun x hx => by
  have hMI := MI_eq
  rcases h.key x hx with h1 | h1 | ⟨e, he, h1⟩
  · omega
  · omega
  · have := (okEnt_iff.1 (h.g.ok e he)).1; omega
end Go.Ab
end
section
namespace Go.Ab
def ACode.tl : ACode → ACode
  | .seq _ y => y
  | x => x
theorem layS_len (S : List Spt) (x : Spt) : (layS S x).length ≤ S.length + 1 := by
  have h := insRun_len (fun y : Spt => !lessS y x) (fun y : Spt => !decide (y.gr = x.gr) || !decide (y.ix = x.ix)) x S S.length
  rw [List.take_length] at h
  unfold layS insL insEnd
  split
  · exact h.1
  · next hn => have := h.2 (by simpa using hn); simp; omega
end Go.Ab
end
section
namespace Go.Ab
theorem withS_len (l : List Grp) (g : Grp) : (withS l g).length ≤ l.length + 1 := by
  have h := insRun_len (fun x : Grp => decide (g.id ≤ x.id)) (fun x : Grp => !decide (x.id = g.id)) g l l.length
  rw [List.take_length] at h
  unfold withS insL insEnd
  split
  · exact h.1
  · next hn => have := h.2 (by simpa using hn); simp; omega
theorem ins_mem {α : Type} (le ne : α → Bool) (g : α) {l : List α} {x : α} (h : x ∈ insL le ne g l) : x = g ∨ x ∈ l := by
  rw [ins_eq] at h
  induction l with
  | nil => simp [insR] at h; exact .inl h
  | cons y l ih =>
    unfold insR at h
    split at h
    · rcases List.mem_cons.1 h with rfl | h
      · exact .inl rfl
      · exact .inr (List.mem_filter.1 h).1
    split at h
    · rcases List.mem_cons.1 h with rfl | h
      · exact .inr (by simp)
      · exact (ih h).imp id (by intro h; simp [h])
    · exact (ih h).imp id (by intro h; simp [h])
theorem refS_len (at_ : Plc) (p : Prt) (was now : Grp) (S : List Spt) : (refS at_ p was now S).length ≤ S.length + (p.es.length + 2) := by
  have h1 : (S.filter (keepS p.gr now true)).length ≤ S.length := List.length_filter_le ..
  have h2 : ∀ (es : List Ent) (S : List Spt), (es.foldl (fun S e => if lhas now e = true then layS S ⟨p.gr, e.ix, at_.sg, at_.at_⟩ else S) S).length ≤ S.length + es.length := by
    intro es
    induction es with
    | nil => intro S; simp
    | cons e es ih =>
      intro S
      rw [List.foldl_cons]
      refine Nat.le_trans (ih _) ?_
      have := layS_len S ⟨p.gr, e.ix, at_.sg, at_.at_⟩
      split <;> simp <;> omega
  have h3 := h2 p.es (S.filter (keepS p.gr now true))
  unfold refS
  simp only
  generalize p.es.foldl (fun S e => if lhas now e = true then layS S ⟨p.gr, e.ix, at_.sg, at_.at_⟩ else S) (S.filter (keepS p.gr now true)) = S2 at h3 ⊢
  have h4 := layS_len S2 ⟨p.gr, -1, at_.sg, at_.at_⟩
  have h5 := layS_len S2 ⟨p.gr, 0, at_.sg, at_.at_⟩
  have h6 := layS_len (layS S2 ⟨p.gr, -1, at_.sg, at_.at_⟩) ⟨p.gr, 0, at_.sg, at_.at_⟩
  split <;> split <;> omega
theorem getG_spar {L : List Grp} (hL : ∀ g ∈ L, Spar g) {p : Prt} (hp : isPart p = true) : Spar ((getG L p.gr).getD (newG p.gr)) := by
  have hpg : 0 ≤ p.gr ∧ p.gr ≤ 999 := by simp only [isPart, Bool.and_eq_true] at hp; simpa [btw] using hp.1.1
  cases h : getG L p.gr with
  | none => exact newG_spar hpg
  | some g => exact hL g (List.mem_of_find?_eq_some h)
theorem refP_ok (at_ : Plc) (x : List Grp × List Spt) (p : Prt) (h : ∀ g ∈ x.1, Spar g) : (∀ g ∈ (refP at_ x p).1, Spar g) ∧ (refP at_ x p).1.length ≤ x.1.length + 1 ∧ (refP at_ x p).2.length ≤ x.2.length + (p.es.length + 2) := by
  unfold refP
  split
  · next hp =>
    split
    · exact ⟨fun g hg => h g (List.mem_filter.1 hg).1, Nat.le_succ_of_le (List.length_filter_le ..), Nat.le_trans (List.length_filter_le ..) (by omega)⟩
    · refine ⟨fun g hg => ?_, withS_len _ _, refS_len _ _ _ _ _⟩
      rcases ins_mem _ _ _ hg with rfl | hg
      · exact (getG_spar h hp).doS p
      · exact h g hg
  · exact ⟨h, by omega, by omega⟩
end Go.Ab
end
section
namespace Go.Ab
set_option linter.unusedVariables false
set_option linter.unusedSimpArgs false
theorem ins_put {α β κ : Type} [DecidableEq κ] [Key κ] (key : α → κ) (val : α → β) (le ne : α → Bool) (g : α) (hle : ∀ x, le x = !decide (Key.lt (key x) (key g))) (hne : ∀ x, ne x = !decide (key x = key g)) :
    ∀ {l : List α}, Srt (l.map fun x => (key x, val x)) → (insL le ne g l).map (fun x => (key x, val x)) = putL (l.map fun x => (key x, val x)) (key g) (val g) := by
  intro l h
  rw [ins_eq]
  induction l with
  | nil => rfl
  | cons x l ih =>
    rw [List.map_cons] at h
    obtain ⟨h1, h2⟩ := List.pairwise_cons.1 h
    unfold insR
    rw [hle, hne, List.map_cons, putL]
    by_cases a : Key.lt (key x) (key g)
    · rw [if_neg (by simp [a]), if_pos (by simp [Key.ne a]), if_neg (Key.asymm a), if_neg (Key.ne a).symm, List.map_cons, ih h2]
    · rw [if_pos (by simp [a])]
      have hrest : ∀ y ∈ l, Key.lt (key x) (key y) := fun y hy => h1 _ (List.mem_map_of_mem hy)
      by_cases b : key x = key g
      · rw [if_neg (by rw [b]; exact Key.irrefl _), if_pos b.symm]
        rw [List.filter_cons_of_neg (by rw [hne]; simp [b])]
        have : l.filter ne = l := List.filter_eq_self.2 fun y hy => by rw [hne]; have := Key.ne (hrest y hy); rw [b] at this; simp [Ne.symm this]
        rw [this, List.map_cons]
      · have hlt : Key.lt (key g) (key x) := Key.tri a b
        rw [if_pos hlt]
        have : (x :: l).filter ne = x :: l := List.filter_eq_self.2 fun y hy => by
          rw [hne]
          rcases List.mem_cons.1 hy with rfl | hy
          · simp [b]
          · have := Key.ne (Key.trans hlt (hrest y hy)); simp [Ne.symm this]
        rw [this, List.map_cons, List.map_cons]
def spK (s : Spt) : (Int × Int) × Plc := ((s.gr, s.ix), ⟨s.sg, s.at_⟩)
def ofK (x : (Int × Int) × Plc) : Spt := ⟨x.1.1, x.1.2, x.2.sg, x.2.at_⟩
def kv (S : List Spt) : List ((Int × Int) × Plc) := S.map spK
theorem ofK_kv (S : List Spt) : (kv S).map ofK = S := by
  unfold kv; rw [List.map_map]
  have : ofK ∘ spK = id := rfl
  rw [this, List.map_id]
theorem kv_inj {a b : List Spt} (h : kv a = kv b) : a = b := by rw [← ofK_kv a, h, ofK_kv]
theorem kv_lay {S : List Spt} {x : Spt} (h : Srt (kv S)) : kv (layS S x) = putL (kv S) (x.gr, x.ix) ⟨x.sg, x.at_⟩ := by
  refine ins_put (fun s : Spt => (s.gr, s.ix)) (fun s => (⟨s.sg, s.at_⟩ : Plc)) _ _ x (fun y => ?_) (fun y => ?_) h
  · have : decide (Key.lt (y.gr, y.ix) (x.gr, x.ix)) = lessS y x := by
      unfold lessS
      have e : Key.lt (y.gr, y.ix) (x.gr, x.ix) ↔ y.gr < x.gr ∨ y.gr = x.gr ∧ y.ix < x.ix := Iff.rfl
      have e3 : decide (Key.lt (y.gr, y.ix) (x.gr, x.ix)) = decide (y.gr < x.gr ∨ y.gr = x.gr ∧ y.ix < x.ix) := decide_eq_decide.2 e
      rw [e3]
      by_cases h1 : y.gr < x.gr <;> by_cases h2 : y.gr = x.gr <;> by_cases h3 : y.ix < x.ix <;> simp [h1, h2, h3]
    rw [this]
  · by_cases h1 : y.gr = x.gr <;> by_cases h2 : y.ix = x.ix <;> simp [h1, h2]
def keepK (id : Int) (x : Grp) (there : Bool) (k : Int × Int) : Bool := !decide (k.1 = id) || there && (decide (k.2 ≤ 0) || hasIx x.es k.2)
theorem kv_keep (id : Int) (x : Grp) (th : Bool) (S : List Spt) : kv (S.filter (keepS id x th)) = (kv S).filter fun y => keepK id x th y.1 := by
  unfold kv
  rw [List.filter_map]
  rfl
theorem lk_spots {M : List (Int × LogV)} (hM : MOk M) (g i : Int) : lk (kv (spotsM M)) (g, i) = (lk M g).bind fun v => lk v.sp i := by
  induction M with
  | nil => rfl
  | cons x M ih =>
    obtain ⟨h1, h2⟩ := hM
    obtain ⟨h3, h4⟩ := List.pairwise_cons.1 h1
    have ih := ih ⟨h4, fun y hy => h2 y (by simp [hy])⟩
    have hid := (h2 x (by simp)).id
    have e : kv (spotsM (x :: M)) = (x.2.sp.map fun y => ((x.1, y.1), y.2)) ++ kv (spotsM M) := by
      simp only [kv, spotsM, List.flatMap_cons, List.map_append, List.map_map]
      congr 1
      apply List.map_congr_left
      intro y _
      simp [spK, hid]
    rw [e, lk_append, ih, lk_cons]
    have e2 : ∀ (sp : List (Int × Plc)), lk (sp.map fun y => ((x.1, y.1), y.2)) (g, i) = if g = x.1 then lk sp i else none := by
      intro sp
      induction sp with
      | nil => simp
      | cons y sp ih2 =>
        rw [List.map_cons, lk_cons, ih2, lk_cons]
        by_cases a : g = x.1 <;> by_cases b : i = y.1 <;> simp [a, b]
    rw [e2]
    by_cases a : g = x.1
    · rw [if_pos a, if_pos a]
      have : lk M g = none := lk_none1.2 fun y hy e => by have := h3 y hy; rw [e, a] at this; exact Key.irrefl _ this
      rw [this]; simp
    · rw [if_neg a, if_neg a]; rfl
theorem spots_srt {M : List (Int × LogV)} (hM : MOk M) : Srt (kv (spotsM M)) := by
  induction M with
  | nil => exact List.Pairwise.nil
  | cons x M ih =>
    obtain ⟨h1, h2⟩ := hM
    obtain ⟨h3, h4⟩ := List.pairwise_cons.1 h1
    have ih := ih ⟨h4, fun y hy => h2 y (by simp [hy])⟩
    have hx := h2 x (by simp)
    simp only [kv, spotsM, List.flatMap_cons, List.map_append] at ih ⊢
    refine List.pairwise_append.2 ⟨?_, ih, ?_⟩
    · rw [List.pairwise_map, List.pairwise_map]
      exact hx.srt.imp fun h => .inr ⟨rfl, h⟩
    · intro a ha b hb
      obtain ⟨a1, ha1, rfl⟩ := List.mem_map.1 ha
      obtain ⟨a2, ha2, rfl⟩ := List.mem_map.1 ha1
      obtain ⟨b1, hb1, rfl⟩ := List.mem_map.1 hb
      obtain ⟨b2, hb2, hb3⟩ := List.mem_flatMap.1 hb1
      obtain ⟨b3, hb4, rfl⟩ := List.mem_map.1 hb3
      refine .inl ?_
      show x.2.g.id < b2.2.g.id
      rw [hx.id, (h2 b2 (by simp [hb2])).id]
      exact h3 b2 hb2
def kvG (L : List Grp) : List (Int × Grp) := L.map fun g => (g.id, g)
theorem kvG_inj {a b : List Grp} (h : kvG a = kvG b) : a = b := by
  have e : ∀ L, (kvG L).map (·.2) = L := fun L => by unfold kvG; rw [List.map_map]; exact List.map_id _
  rw [← e a, h, e]
theorem kvG_M {M : List (Int × LogV)} (hM : ∀ x ∈ M, x.2.g.id = x.1) : kvG (grpsL M) = M.map fun x => (x.1, x.2.g) := by
  unfold kvG grpsL
  rw [List.map_map]
  exact List.map_congr_left fun x hx => by simp [hM x hx]
theorem getG_lk (L : List Grp) (i : Int) : getG L i = lk (kvG L) i := by
  induction L with
  | nil => rfl
  | cons g L ih =>
    show (g :: L).find? (fun g => decide (g.id = i)) = lk ((g.id, g) :: kvG L) i
    rw [lk_cons, List.find?_cons, ← ih]
    by_cases h : g.id = i
    · simp [h]
    · have : ¬ i = g.id := fun e => h e.symm
      simp [h, this, getG]
theorem getG_M {M : List (Int × LogV)} (hM : ∀ x ∈ M, x.2.g.id = x.1) (i : Int) : getG (grpsL M) i = (lk M i).map (·.g) := by
  rw [getG_lk, kvG_M hM, lk_map (fun v : LogV => v.g)]
theorem put_ids {M : List (Int × LogV)} (hM : ∀ x ∈ M, x.2.g.id = x.1) {i : Int} {v : LogV} (hv : v.g.id = i) : ∀ x ∈ putL M i v, x.2.g.id = x.1 := fun x hx => by
  rcases put_mem hx with rfl | hx
  · exact hv
  · exact hM x hx
theorem with_M {M : List (Int × LogV)} (hS : Srt M) (hM : ∀ x ∈ M, x.2.g.id = x.1) {v : LogV} : withS (grpsL M) v.g = grpsL (putL M v.g.id v) := by
  apply kvG_inj
  have hS1 : Srt (kvG (grpsL M)) := by rw [kvG_M hM]; exact hS.map fun v => v.g
  have e1 : kvG (withS (grpsL M) v.g) = putL (kvG (grpsL M)) v.g.id v.g := by
    refine ins_put (fun g : Grp => g.id) (fun g => g) _ _ v.g (fun y => ?_) (fun y => rfl) hS1
    have : Key.lt y.id v.g.id ↔ y.id < v.g.id := Iff.rfl
    by_cases h : y.id < v.g.id
    · simp [this, h]
    · simp [this, h]; omega
  rw [e1, kvG_M (put_ids hM rfl)]
  refine Srt.ext (hS1.put _ _) ((hS.put _ _).map fun v => v.g) fun k => ?_
  rw [lk_put, lk_map (fun v : LogV => v.g), lk_put, kvG_M hM, lk_map (fun v : LogV => v.g)]
  split <;> rfl
theorem del_M {M : List (Int × LogV)} (hM : ∀ x ∈ M, x.2.g.id = x.1) (i : Int) : (grpsL M).filter (fun g => !decide (g.id = i)) = grpsL (delL M i) := by
  unfold grpsL delL
  rw [List.filter_map]
  congr 1
  exact List.filter_congr fun x hx => by simp [hM x hx]
end Go.Ab
end
section
namespace Go.Ab
set_option linter.unusedVariables false
set_option linter.unusedSimpArgs false
theorem part_core {p : Prt} (h : isPart p = true) : p = core p := by
  simp only [isPart, Bool.and_eq_true, decide_eq_true_eq] at h; exact h.1.2
theorem part_es {p : Prt} (h : isPart p = true) (h1 : p.kd ≠ 1) (h6 : p.kd ≠ 6) : p.es = [] := by
  have e := congrArg Prt.es (part_core h)
  unfold core at e
  simp only at e
  rw [if_neg h1] at e
  split at e
  · exact e
  split at e
  · exact e
  first | exact e | (split at e <;> first | exact e | exact absurd ‹_› h6)
theorem part_mr {p : Prt} (h : isPart p = true) (h6 : p.kd ≠ 6) : p.mr = false := by
  have e := congrArg Prt.mr (part_core h)
  unfold core at e
  simp only at e
  split at e
  · exact e
  split at e
  · exact e
  split at e
  · exact e
  first | exact e | (split at e <;> first | exact e | exact absurd ‹_› h6)
theorem part_gr {p : Prt} (h : isPart p = true) : 0 ≤ p.gr ∧ p.gr ≤ 999 := by
  simp only [isPart, Bool.and_eq_true] at h; simpa [btw] using h.1.1
theorem marks_ref {p : Prt} (h : isPart p = true) (was now : Grp) : refMark p was now = marksS p was now := by
  unfold refMark marksS
  by_cases h3 : p.kd = 3 ∨ p.kd = 4
  · rw [if_pos h3]
    have h6 : p.kd ≠ 6 := by omega
    rw [part_mr h h6]
    have : (decide (p.kd = 3) || decide (p.kd = 4)) = true := by simpa using h3
    rw [this]; simp
  · rw [if_neg h3]
    have : (decide (p.kd = 3) || decide (p.kd = 4)) = false := by simpa using h3
    rw [this]
    by_cases h6 : p.kd = 6
    · rw [if_pos h6]
      have e1 : decide (now.fi - 1 = p.ix) = decide (p.ix = now.fi - 1) := decide_eq_decide.2 ⟨Eq.symm, Eq.symm⟩
      have e2 : decide (now.tm = p.tm) = decide (p.tm = now.tm) := decide_eq_decide.2 ⟨Eq.symm, Eq.symm⟩
      rw [e1, e2]; simp
    · rw [if_neg h6, part_mr h h6]; simp
theorem put_sub {g : Grp} {e x : Ent} (h : x ∈ (putS g e).es) : x ∈ g.es ∨ x = e := by
  unfold putS at h
  split at h
  · exact .inl h
  · simp only [List.mem_append, List.mem_cons, List.mem_filter] at h
    rcases h with h | h | h
    · exact .inl h.1
    · exact .inr h
    · exact .inl h.1
theorem puts_sub {l : List Ent} {g : Grp} {x : Ent} (h : x ∈ (l.foldl putS g).es) : x ∈ g.es ∨ x ∈ l := by
  induction l generalizing g with
  | nil => exact .inl h
  | cons e l ih =>
    rcases ih h with h | h
    · rcases put_sub h with h | h
      · exact .inl h
      · exact .inr (by simp [h])
    · exact .inr (by simp [h])
theorem gone_sub {g : Grp} {i t : Int} {x : Ent} (h : x ∈ (goneS g i t).es) : x ∈ g.es := by
  unfold goneS at h
  split at h
  · exact h
  · exact (List.mem_filter.1 h).1
theorem doS_sub {g : Grp} {p : Prt} {x : Ent} (h : x ∈ (doS g p).es) : x ∈ g.es ∨ x ∈ p.es := by
  unfold doS at h
  split at h
  · split at h
    · simp only [List.mem_append, List.mem_filter] at h
      exact h.imp And.left And.left
    split at h
    · exact .inl h
    split at h
    · exact .inl (gone_sub h)
    split at h
    · have := gone_sub h
      split at this
      · cases this
      · exact .inl this
    split at h
    · unfold fwdS at h
      simp only at h
      rcases puts_sub h with h | h
      · left
        split at h <;> split at h <;> first | exact gone_sub h | exact h
      · exact .inr h
    · exact .inl h
  · exact .inl h
theorem doS_id (g : Grp) (p : Prt) : (doS g p).id = g.id := by
  have h1 : ∀ (g : Grp) i t, (goneS g i t).id = g.id := fun g i t => by unfold goneS; split <;> rfl
  have h2 : ∀ (l : List Ent) (g : Grp), (l.foldl putS g).id = g.id := fun l => by
    induction l with
    | nil => intro g; rfl
    | cons e l ih => intro g; rw [List.foldl_cons, ih]; unfold putS; split <;> rfl
  unfold doS
  split
  · split
    · rfl
    split
    · rfl
    split
    · exact h1 _ _ _
    split
    · rw [h1]; split <;> rfl
    split
    · unfold fwdS; rw [h2]; split <;> split <;> first | rfl | exact h1 _ _ _
    · rfl
  · rfl
section
variable {look : Int → Option Plc} {p : Prt} {at_ : Plc}
theorem lk_nx0 (k : Int) (c : List (Int × Plc)) (i : Int) : lk (nx0 putL look k c) i = if i = k then (match look k with | some x => some x | none => lk c i) else lk c i := by
  unfold nx0
  cases look k with
  | none => simp
  | some x => simp [lk_put]
theorem lk_nx1s : ∀ {es : List Ent} (c : List (Int × Plc)) (i : Int), (es.Pairwise fun a b => a.ix < b.ix) →
    lk (es.foldl (nx1 putL look p at_) c) i = match es.find? (fun e => decide (e.ix = i)) with | some e => some (if broughtS p e = true then at_ else (look i).getD ⟨0, 0⟩) | none => lk c i
  | [], c, i, _ => rfl
  | e :: es, c, i, h => by
    obtain ⟨h1, h2⟩ := List.pairwise_cons.1 h
    rw [List.foldl_cons, lk_nx1s _ _ h2, List.find?_cons]
    have hc : lk (nx1 putL look p at_ c e) i = if i = e.ix then some (if broughtS p e = true then at_ else (look e.ix).getD ⟨0, 0⟩) else lk c i := by
      unfold nx1
      split
      · rw [lk_put, lk_put]; by_cases a : i = e.ix <;> simp [a]
      · rw [lk_put]
    by_cases a : e.ix = i
    · have : es.find? (fun e => decide (e.ix = i)) = none := List.find?_eq_none.2 fun x hx => by have := h1 x hx; simp; omega
      rw [this]
      simp only [hc, a]
      simp [a]
    · have : ¬ i = e.ix := fun e => a e.symm
      rw [hc, if_neg this]
      simp [a]
theorem lk_next (old now : Grp) (i : Int) (h : now.es.Pairwise fun a b => a.ix < b.ix) :
    lk (nextW putL look p at_ old now) i = if marksS p old now = true ∧ i = 0 then some at_ else if (p.kd = 2 ∨ p.he = true) ∧ i = -1 then some at_ else
      match now.es.find? (fun e => decide (e.ix = i)) with | some e => some (if broughtS p e = true then at_ else (look i).getD ⟨0, 0⟩) | none => if i = 0 ∨ i = -1 then look i else none := by
  unfold nextW
  have hI : lk (nxI putL look p at_ now.es) i = match now.es.find? (fun e => decide (e.ix = i)) with | some e => some (if broughtS p e = true then at_ else (look i).getD ⟨0, 0⟩) | none => if i = 0 ∨ i = -1 then look i else none := by
    unfold nxI
    rw [lk_nx1s _ _ h, lk_nx0, lk_nx0]
    cases now.es.find? (fun e => decide (e.ix = i)) with
    | some e => rfl
    | none =>
      by_cases a : i = 0
      · subst a; cases look 0 <;> simp
      · by_cases b : i = -1
        · subst b; cases look (-1) <;> simp
        · simp [a, b]
  unfold nxM nxH
  by_cases hm : marksS p old now = true
  · rw [if_pos hm, lk_put]
    by_cases a : i = 0
    · simp [hm, a]
    · rw [if_neg a, if_neg (fun h : marksS p old now = true ∧ i = 0 => a h.2)]
      by_cases hh : p.kd = 2 ∨ p.he = true
      · rw [if_pos hh, lk_put]
        by_cases b : i = -1
        · simp [hh, b]
        · rw [if_neg b, if_neg (fun h : (p.kd = 2 ∨ p.he = true) ∧ i = -1 => b h.2)]; exact hI
      · rw [if_neg hh, if_neg (fun h : (p.kd = 2 ∨ p.he = true) ∧ i = -1 => hh h.1)]; exact hI
  · rw [if_neg hm, if_neg (fun h : marksS p old now = true ∧ i = 0 => hm h.1)]
    by_cases hh : p.kd = 2 ∨ p.he = true
    · rw [if_pos hh, lk_put]
      by_cases b : i = -1
      · simp [hh, b]
      · rw [if_neg b, if_neg (fun h : (p.kd = 2 ∨ p.he = true) ∧ i = -1 => b h.2)]; exact hI
    · rw [if_neg hh, if_neg (fun h : (p.kd = 2 ∨ p.he = true) ∧ i = -1 => hh h.1)]; exact hI
end
theorem next_srt (look : Int → Option Plc) (p : Prt) (at_ : Plc) (old now : Grp) : Srt (nextW putL look p at_ old now) := (nextW_rep (look := look) (look' := look) (fun _ => rfl) p at_ old now).srt
theorem srt_lay {S : List Spt} (h : Srt (kv S)) (x : Spt) : Srt (kv (layS S x)) := by rw [kv_lay h]; exact h.put _ _
theorem lk_lay {S : List Spt} (h : Srt (kv S)) (x : Spt) (k : Int × Int) : lk (kv (layS S x)) k = if k = (x.gr, x.ix) then some ⟨x.sg, x.at_⟩ else lk (kv S) k := by rw [kv_lay h, lk_put]
theorem lk_lays {now : Grp} {gr : Int} {at_ : Plc} : ∀ (es : List Ent) {S : List Spt}, Srt (kv S) → Srt (kv (es.foldl (fun S e => if lhas now e = true then layS S ⟨gr, e.ix, at_.sg, at_.at_⟩ else S) S)) ∧
    ∀ i, lk (kv (es.foldl (fun S e => if lhas now e = true then layS S ⟨gr, e.ix, at_.sg, at_.at_⟩ else S) S)) (gr, i) = (if es.any (fun e => lhas now e && decide (e.ix = i)) = true then some at_ else lk (kv S) (gr, i))
  | [], S, h => ⟨h, fun i => rfl⟩
  | e :: es, S, h => by
    rw [List.foldl_cons]
    cases hl : lhas now e with
    | false =>
      rw [if_neg (by simp)]
      obtain ⟨k1, k2⟩ := lk_lays es h
      exact ⟨k1, fun i => by rw [k2, List.any_cons, hl]; simp⟩
    | true =>
      rw [if_pos rfl]
      obtain ⟨k1, k2⟩ := lk_lays es (srt_lay h ⟨gr, e.ix, at_.sg, at_.at_⟩)
      refine ⟨k1, fun i => ?_⟩
      rw [k2, List.any_cons, hl, lk_lay h]
      by_cases a : e.ix = i
      · subst a; simp
      · have : ¬ i = e.ix := fun e => a e.symm
        simp [a, this]
theorem lk_lays_other {now : Grp} {gr : Int} {at_ : Plc} : ∀ (es : List Ent) {S : List Spt}, Srt (kv S) → ∀ g i, g ≠ gr →
    lk (kv (es.foldl (fun S e => if lhas now e = true then layS S ⟨gr, e.ix, at_.sg, at_.at_⟩ else S) S)) (g, i) = lk (kv S) (g, i)
  | [], S, h => fun _ _ _ => rfl
  | e :: es, S, h => fun g i hg => by
    rw [List.foldl_cons]
    cases hl : lhas now e with
    | false => rw [if_neg (by simp)]; exact lk_lays_other es h g i hg
    | true =>
      rw [if_pos rfl, lk_lays_other es (srt_lay h _) g i hg, lk_lay h]
      simp [hg]
theorem refS_srt (at_ : Plc) (p : Prt) (was now : Grp) {S : List Spt} (h : Srt (kv S)) : Srt (kv (refS at_ p was now S)) := by
  unfold refS
  have h1 : Srt (kv (S.filter (keepS p.gr now true))) := by rw [kv_keep]; exact h.filter _
  have h2 := (lk_lays (now := now) (gr := p.gr) (at_ := at_) p.es h1).1
  simp only
  split <;> split
  · exact srt_lay (srt_lay h2 _) _
  · exact srt_lay h2 _
  · exact srt_lay h2 _
  · exact h2
theorem lk_refS (at_ : Plc) (p : Prt) (was now : Grp) {S : List Spt} (h : Srt (kv S)) (g i : Int) : lk (kv (refS at_ p was now S)) (g, i) =
    if g = p.gr then (if refMark p was now = true ∧ i = 0 then some at_ else if (p.kd = 2 ∨ p.he = true) ∧ i = -1 then some at_ else
      if p.es.any (fun e => lhas now e && decide (e.ix = i)) = true then some at_ else if i ≤ 0 ∨ hasIx now.es i = true then lk (kv S) (g, i) else none) else lk (kv S) (g, i) := by
  have h1 : Srt (kv (S.filter (keepS p.gr now true))) := by rw [kv_keep]; exact h.filter _
  have hk : lk (kv (S.filter (keepS p.gr now true))) (g, i) = if keepK p.gr now true (g, i) = true then lk (kv S) (g, i) else none := by rw [kv_keep, lk_filter]
  obtain ⟨h2, k2⟩ := lk_lays (now := now) (gr := p.gr) (at_ := at_) p.es h1
  have k3 := lk_lays_other (now := now) (gr := p.gr) (at_ := at_) p.es h1 g i
  unfold refS
  simp only
  generalize p.es.foldl (fun S e => if lhas now e = true then layS S ⟨p.gr, e.ix, at_.sg, at_.at_⟩ else S) (S.filter (keepS p.gr now true)) = S2 at h2 k2 k3 ⊢
  have key : lk (kv (if refMark p was now = true then layS (if p.kd = 2 ∨ p.he = true then layS S2 ⟨p.gr, -1, at_.sg, at_.at_⟩ else S2) ⟨p.gr, 0, at_.sg, at_.at_⟩ else if p.kd = 2 ∨ p.he = true then layS S2 ⟨p.gr, -1, at_.sg, at_.at_⟩ else S2)) (g, i) =
      if refMark p was now = true ∧ (g, i) = (p.gr, 0) then some at_ else if (p.kd = 2 ∨ p.he = true) ∧ (g, i) = (p.gr, -1) then some at_ else lk (kv S2) (g, i) := by
    by_cases hm : refMark p was now = true <;> by_cases hh : p.kd = 2 ∨ p.he = true
    · rw [if_pos hm, if_pos hh, lk_lay (srt_lay h2 _), lk_lay h2]
      by_cases a : (g, i) = (p.gr, 0) <;> by_cases b : (g, i) = (p.gr, -1) <;> simp [hm, hh, a, b]
    · rw [if_pos hm, if_neg hh, lk_lay h2]
      by_cases a : (g, i) = (p.gr, 0) <;> simp [hm, hh, a]
    · rw [if_neg hm, if_pos hh, lk_lay h2]
      by_cases b : (g, i) = (p.gr, -1) <;> simp [hm, hh, b]
    · rw [if_neg hm, if_neg hh]
      simp [hm, hh]
  rw [key]
  by_cases hg : g = p.gr
  · subst hg
    rw [k2, hk]
    simp [keepK]
  · rw [k3 hg, hk]
    simp [hg, keepK]
end Go.Ab
end
section
namespace Go.Ab
set_option linter.unusedVariables false
set_option linter.unusedSimpArgs false
theorem has_of {es : List Ent} (h : es.Pairwise fun a b => a.ix < b.ix) {i : Int} {e : Ent} (he : e ∈ es) (hi : e.ix = i) : es.find? (fun e => decide (e.ix = i)) = some e := by
  induction es with
  | nil => cases he
  | cons x es ih =>
    obtain ⟨h1, h2⟩ := List.pairwise_cons.1 h
    rw [List.find?_cons]
    rcases List.mem_cons.1 he with rfl | he
    · simp [hi]
    · have := h1 e he
      have hx : ¬ x.ix = i := by omega
      simp only [hx, decide_false]
      exact ih h2 he
theorem hasIx_find (es : List Ent) (i : Int) : hasIx es i = (es.find? fun e => decide (e.ix = i)).isSome := by
  unfold hasIx; rw [Bool.eq_iff_iff, List.find?_isSome, List.any_eq_true]
theorem VOk.new {id : Int} (h : 0 ≤ id ∧ id ≤ 999) : VOk id ⟨newG id, []⟩ := ⟨rfl, h, newG_spar h, .nil, by simp, by simp [newG]⟩
theorem VOk.do {i : Int} {v : LogV} (h : VOk i v) (p : Prt) (at_ : Plc) : VOk i (logDo v p at_) := by
  unfold logDo
  split
  case isFalse => exact h
  case isTrue hok =>
    have hS := h.g.doS p
    refine ⟨by rw [doS_id]; exact h.id, h.rng, hS, next_srt _ _ _ _ _, fun x hx => ?_, fun e he => ?_⟩
    · have hl := (next_srt (lk v.sp) p at_ v.g (doS v.g p)).lk_mem hx
      rw [lk_next _ _ _ hS.srt] at hl
      split at hl
      · next hc => exact .inr (.inl hc.2)
      split at hl
      · next hc => exact .inl hc.2
      split at hl
      · next e hf =>
        have := List.find?_some hf
        exact .inr (.inr ⟨e, List.mem_of_find?_eq_some hf, by simpa using (by simpa using this : e.ix = x.1).symm⟩)
      split at hl
      · next hc => rcases hc with hc | hc
                   · exact .inr (.inl hc)
                   · exact .inl hc
      · cases hl
    · have hl := lk_next (look := lk v.sp) (p := p) (at_ := at_) v.g (doS v.g p) e.ix hS.srt
      have hpos := (okEnt_iff.1 (hS.ok e he)).1
      rw [if_neg (fun hc => by have := hc.2; omega), if_neg (fun hc => by have := hc.2; omega), has_of hS.srt he rfl] at hl
      exact ⟨_, lk_mem hl, rfl⟩
theorem MOk.at {M : List (Int × LogV)} (hM : MOk M) {i : Int} (hi : 0 ≤ i ∧ i ≤ 999) : VOk i ((lk M i).getD ⟨newG i, []⟩) := by
  cases h : lk M i with
  | none => exact .new hi
  | some v => exact hM.2 _ (lk_mem h)
theorem MOk.doP {M : List (Int × LogV)} (hM : MOk M) (at_ : Plc) (p : Prt) : MOk (doP at_ M p) := by
  unfold Ab.doP
  split
  · next hp =>
    split
    · exact ⟨hM.1.del _, fun x hx => hM.2 x (List.mem_filter.1 hx).1⟩
    · refine ⟨hM.1.put _ _, fun x hx => ?_⟩
      rcases put_mem hx with rfl | hx
      · exact (hM.at (part_gr hp)).do p at_
      · exact hM.2 x hx
  · exact hM
theorem ref_doP {M : List (Int × LogV)} (hM : MOk M) (at_ : Plc) (p : Prt) : refP at_ (grpsL M, spotsM M) p = (grpsL (doP at_ M p), spotsM (doP at_ M p)) := by
  have hM' := hM.doP at_ p
  have hid : ∀ x ∈ M, x.2.g.id = x.1 := fun x hx => (hM.2 x hx).id
  have hS := spots_srt hM
  have hS' := spots_srt hM'
  unfold refP
  by_cases hp : isPart p = true
  · rw [if_pos hp]
    by_cases hk5 : p.kd = 5
    · rw [if_pos hk5]
      have hd : doP at_ M p = delL M p.gr := by unfold doP; rw [if_pos hp, if_pos hk5]
      rw [hd] at hM' hS' ⊢
      refine Prod.ext (del_M hid _) (kv_inj ?_)
      refine Srt.ext (by rw [kv_keep]; exact hS.filter _) hS' fun k => ?_
      obtain ⟨g, i⟩ := k
      simp only
      rw [kv_keep, lk_filter, lk_spots hM, lk_spots hM', lk_del]
      by_cases hg : g = p.gr <;> simp [keepK, hg]
    · rw [if_neg hk5]
      have hd : doP at_ M p = putL M p.gr (logDo ((lk M p.gr).getD ⟨newG p.gr, []⟩) p at_) := by unfold doP; rw [if_pos hp, if_neg hk5]
      have hv := hM.at (part_gr hp)
      have hw : (getG (grpsL M) p.gr).getD (newG p.gr) = ((lk M p.gr).getD ⟨newG p.gr, []⟩).g := by
        rw [getG_M hid]; cases lk M p.gr <;> rfl
      have hold : ∀ i, (lk M p.gr).bind (fun v => lk v.sp i) = lk ((lk M p.gr).getD ⟨newG p.gr, []⟩).sp i := fun i => by cases lk M p.gr <;> rfl
      rw [hd] at hM' hS' ⊢
      simp only
      rw [hw]
      generalize (lk M p.gr).getD ⟨newG p.gr, []⟩ = v at hv hold hM' hS' ⊢
      have hlog : logDo v p at_ = ⟨doS v.g p, nextW putL (lk v.sp) p at_ v.g (doS v.g p)⟩ := by
        unfold logDo; rw [if_pos]; unfold okDo; simp [hp, hv.id, hk5]
      have hN := hv.g.doS p
      have hsub : ∀ e ∈ (doS v.g p).es, e ∈ v.g.es ∨ e ∈ p.es := fun e he => doS_sub he
      have hgid : (doS v.g p).id = p.gr := by rw [doS_id]; exact hv.id
      rw [hlog] at hM' hS' ⊢
      have hW := with_M hM.1 hid (v := ⟨doS v.g p, nextW putL (lk v.sp) p at_ v.g (doS v.g p)⟩)
      simp only [hgid] at hW
      refine Prod.ext hW (kv_inj ?_)
      have hmr := marks_ref hp v.g (doS v.g p)
      refine Srt.ext (refS_srt _ _ _ _ hS) hS' fun k => ?_
      obtain ⟨g, i⟩ := k
      rw [lk_refS _ _ _ _ hS, lk_spots hM', lk_put, lk_spots hM]
      by_cases hg : g = p.gr
      · subst hg
        rw [if_pos rfl, if_pos rfl, hold, hmr]
        simp only [Option.bind_some]
        rw [lk_next _ _ _ hN.srt]
        generalize hnow : doS v.g p = now at hN hsub ⊢
        split
        · rfl
        split
        · rfl
        have hposE : ∀ e ∈ now.es, 1 ≤ e.ix := fun e he => (okEnt_iff.1 (hN.ok e he)).1.1
        have hlh : ∀ e ∈ p.es, (lhas now e && decide (e.ix = i)) = true ↔ e ∈ now.es ∧ e.ix = i := fun e he => by
          rw [Bool.and_eq_true, decide_eq_true_eq]
          refine and_congr_left fun hi => ?_
          unfold lhas
          constructor
          · intro h
            split at h
            · next x hx =>
              have : x = e := by simpa using h
              subst this
              exact List.mem_of_find?_eq_some hx
            · cases h
          · intro h
            rw [has_of hN.srt h rfl]
            simp
        cases hf : now.es.find? (fun e => decide (e.ix = i)) with
        | none =>
          have hno : p.es.any (fun e => lhas now e && decide (e.ix = i)) = false := by
            rw [List.any_eq_false]
            intro e he h
            obtain ⟨h1, h2⟩ := (hlh e he).1 h
            have := List.find?_eq_none.1 hf e h1
            simp [h2] at this
          rw [hno, hasIx_find, hf]
          by_cases h0 : i = 0 ∨ i = -1
          · rw [if_neg (by simp), if_pos (.inl (by omega)), if_pos h0]
          · rw [if_neg (by simp), if_neg h0]
            by_cases hi : i ≤ 0
            · rw [if_pos (.inl hi)]
              cases hl : lk v.sp i with
              | none => rfl
              | some x =>
                rcases hv.key _ (lk_mem hl) with h | h | ⟨e, he, h⟩
                · exact absurd (.inr h) h0
                · exact absurd (.inl h) h0
                · have := (okEnt_iff.1 (hv.g.ok e he)).1.1
                  simp only at h; omega
            · rw [if_neg (by simp; omega)]
        | some e =>
          have he := List.mem_of_find?_eq_some hf
          have hi : e.ix = i := by simpa using List.find?_some hf
          have h1 := hposE e he
          have hbr : p.es.any (fun e => lhas now e && decide (e.ix = i)) = broughtS p e := by
            unfold broughtS
            by_cases hk : p.kd = 1 ∨ p.kd = 6
            · have hk' : (decide (p.kd = 1) || decide (p.kd = 6)) = true := by simpa using hk
              rw [hk', Bool.true_and, Bool.eq_iff_iff, List.any_eq_true, List.any_eq_true]
              constructor
              · rintro ⟨x, hx, h⟩
                obtain ⟨h2, h3⟩ := (hlh x hx).1 h
                have := has_of hN.srt h2 h3
                rw [hf] at this
                exact ⟨x, hx, by simpa using this⟩
              · rintro ⟨x, hx, h⟩
                have : e = x := by simpa using h
                subst this
                exact ⟨e, hx, (hlh e hx).2 ⟨he, hi⟩⟩
            · rw [part_es hp (fun h => hk (.inl h)) (fun h => hk (.inr h))]; simp
          rw [hbr, hasIx_find, hf]
          simp only [Option.isSome_some, or_true, if_true]
          cases hb : broughtS p e with
          | true => simp
          | false =>
            simp only [if_false, Bool.false_eq_true]
            have hin : e ∈ v.g.es := by
              rcases hsub e he with h | h
              · exact h
              · exfalso
                have hk : p.kd = 1 ∨ p.kd = 6 := by
                  by_cases h1 : p.kd = 1
                  · exact .inl h1
                  by_cases h6 : p.kd = 6
                  · exact .inr h6
                  rw [part_es hp h1 h6] at h; cases h
                have hk' : (decide (p.kd = 1) || decide (p.kd = 6)) = true := by simpa using hk
                unfold broughtS at hb
                rw [hk', Bool.true_and, List.any_eq_false] at hb
                exact hb e h (by simp)
            obtain ⟨x, hx, hxi⟩ := hv.has e hin
            have : lk v.sp i = some x.2 := hv.srt.lk_mem (by rw [← hi, ← hxi]; exact hx)
            rw [this]; rfl
      · rw [if_neg hg, if_neg hg]
  · rw [if_neg hp]
    have hd : doP at_ M p = M := by unfold doP; rw [if_neg hp]
    rw [hd]
end Go.Ab
end
section
namespace Go.Ab
open Go.RowKit Go.Proofs
set_option linter.unusedVariables false
set_option linter.unusedSimpArgs false
@[ext] structure Stp where
  l : List Prt
  sg : Int
  at_ : Int
  deriving DecidableEq, Inhabited
end Go.Ab
end
section
namespace Go.Proofs.Ytmpoeamfcienoaa
open Go.Ab
set_option linter.unusedVariables false
set_option linter.unusedSimpArgs false
set_option maxRecDepth 100000
set_option maxHeartbeats 4000000
def fewPart (p : Prt) : Bool := ((List.range p.es.length).all fun j => !decide ((60 : Int) < ((p.es.getD j default).da.size : Int))) && decide ((p.es.length : Int) ≤ 8)
theorem ct_ladelaw13_fewPart {x : Prt} {s : AState} (hl : (x.es.length : Int) < 9223372036854775808)  : Gives prog F_ladelaw13_fewPart [x.av] s (.v (.bool (fewPart x))) s := by
  refine Runs.gives' (runs_e h_ladelaw13_fewPart (Nat.le_of_ble_eq_true rfl) ?_) (.v _)
  unfold fewPart
  refine st0 ?_
  refine loop_ok [0, 1, 3] (fun k a s1 => Grows (s.alloc (.cells x.cells)) s1 ∧ ∃ i : Nat, i + k = x.es.length ∧ ((List.range i).all (fun j => !decide ((60 : Int) < ((x.es.getD j default).da.size : Int)))) = true ∧ a = { t := den 23 [(0, x.av), (1, .p s.n 0), (3, .v (.int .i64 i))], d := [] }) x.es.length ?_ ?_
  · exact ⟨.refl _, 0, by simp, rfl, by simp⟩
  · rintro k a s1 ⟨hg, i, hik, hall, rfl⟩
    by_cases hlt : i < x.es.length
    · have e1 : x.es.getD i default = x.es[i] := by simp [hlt]
      have hG := trivial
      have hG2 := trivial
      have hw : IntKind.wrap .i64 ((i : Int) + 1) = (i : Int) + 1 := wrap_i64 (by omega) (by omega)
      have hgb := hg.get (b := s.n)
      try simp at hgb
      clear hl
      repeat' (first | refine sa0 ?_ | ((with_reducible first | apply s_split | apply s_gsplit) <;> (intro hb; have hb' := hb; try simp only [decide_eq_true_eq, decide_eq_false_iff_not, beq_iff_eq, beq_eq_false_iff_ne, bne_iff_ne, bne_eq_false_iff_eq, ne_eq, Bool.not_true, Bool.not_false, Bool.not_eq_true', Bool.not_eq_false', Bool.and_eq_true, Bool.or_eq_true, Bool.or_eq_false_iff] at hb; try simp at hb')))
      all_goals first
        | exact ⟨k - 1, by omega, (by first | exact hg | exact hg.alloc _), i + 1, by omega, all_step hall (by simp only [e1]; simp [*]), by simp [hw]⟩
        | (refine ret_ok rfl ⟨((Grows.refl _).alloc _).trans hg, ?_⟩; rw [all_stop hlt (by simp only [e1]; simp [*])]; exact AV.le.refl _)
    · have hgb := hg.get (b := s.n)
      try simp at hgb
      refine st2 hlt hgb ?_
      have : i = x.es.length := by omega
      subst this
      refine ret_ok rfl ⟨((Grows.refl _).alloc _).trans hg, ?_⟩
      rw [hall]; simp [AV.le.refl]
end Go.Proofs.Ytmpoeamfcienoaa
end
section
namespace Go.Ab
set_option linter.unusedVariables false
section
variable {P : Program} {g : FuncId} {args : List AV} {s : AState} {R K : AV → AState → Prop}
theorem runS (h : Runs (compCode P) P g (args.map AV.strip) s R) (k : ∀ x s', R x s' → K x s') : Lruns (compCode P) P g args s K .a := run (Runs.strip h) rfl k
end
def ACode.hd : ACode → ACode
  | .seq x _ => x
  | x => x
def ACode.inn : ACode → ACode
  | .block _ c => c
  | .loop c => c
  | x => x
end Go.Ab
end
section
namespace Go.Ab
set_option linter.unusedVariables false
set_option linter.unusedSimpArgs false
def findS (v : LogV) (i : Int) : Option Plc := if 0 < i then lk v.sp i else none
@[ext] structure StP where
  p : Prt
  pl : Plc
  cp : Bool
  deriving DecidableEq, Inhabited
def StP.cells (x : StP) : List AV := [.v (.int .i64 x.p.gr), .v (.int .i64 x.p.kd), .sl (x.p.es.map Ent.av) .no, .v (.int .i64 x.p.ht), .v (.int .i64 x.p.hv), .v (.int .i64 x.p.hc), .v (.int .i64 x.p.ix), .v (.int .i64 x.p.tm), .v (.bool x.p.mr), .v (.bool x.p.he), .v (.int .i64 x.pl.sg), .v (.int .i64 x.pl.at_), .v (.bool x.cp)]
def StP.av (x : StP) : AV := .agg x.cells
section
variable (x y : StP) (k : Nat)
@[simp] theorem StP.s1 : x.av.strip = x.av := rfl
@[simp] theorem StP.s2 : x.av.cells = x.cells := rfl
@[simp] theorem StP.s3 : x.av.shape = true := rfl
@[simp] theorem StP.s4 : x.cells.length = 13 := rfl
@[simp] theorem StP.s5 : x.cells.take 13 = x.cells := rfl
@[simp] theorem StP.s6 : AV.agg x.cells = x.av := rfl
@[simp] theorem StP.s7 : x.cells.drop (k + 1) = List.drop k [.v (.int .i64 x.p.kd), .sl (x.p.es.map Ent.av) .no, .v (.int .i64 x.p.ht), .v (.int .i64 x.p.hv), .v (.int .i64 x.p.hc), .v (.int .i64 x.p.ix), .v (.int .i64 x.p.tm), .v (.bool x.p.mr), .v (.bool x.p.he), .v (.int .i64 x.pl.sg), .v (.int .i64 x.pl.at_), .v (.bool x.cp)] := rfl
@[simp low] theorem StP.s17 : x.cells.take k = List.take k [.v (.int .i64 x.p.gr), .v (.int .i64 x.p.kd), .sl (x.p.es.map Ent.av) .no, .v (.int .i64 x.p.ht), .v (.int .i64 x.p.hv), .v (.int .i64 x.p.hc), .v (.int .i64 x.p.ix), .v (.int .i64 x.p.tm), .v (.bool x.p.mr), .v (.bool x.p.he), .v (.int .i64 x.pl.sg), .v (.int .i64 x.pl.at_), .v (.bool x.cp)] := rfl
@[simp] theorem StP.s16 : x.cells.tail = [.v (.int .i64 x.p.kd), .sl (x.p.es.map Ent.av) .no, .v (.int .i64 x.p.ht), .v (.int .i64 x.p.hv), .v (.int .i64 x.p.hc), .v (.int .i64 x.p.ix), .v (.int .i64 x.p.tm), .v (.bool x.p.mr), .v (.bool x.p.he), .v (.int .i64 x.pl.sg), .v (.int .i64 x.pl.at_), .v (.bool x.cp)] := rfl
@[simp] theorem StP.s8 : x.cells[k]? = [.v (.int .i64 x.p.gr), .v (.int .i64 x.p.kd), .sl (x.p.es.map Ent.av) .no, .v (.int .i64 x.p.ht), .v (.int .i64 x.p.hv), .v (.int .i64 x.p.hc), .v (.int .i64 x.p.ix), .v (.int .i64 x.p.tm), .v (.bool x.p.mr), .v (.bool x.p.he), .v (.int .i64 x.pl.sg), .v (.int .i64 x.pl.at_), .v (.bool x.cp)][k]? := rfl
@[simp] theorem StP.s13 : AV.strip ∘ StP.av = StP.av := rfl
@[simp] theorem StP.s14 : x.cells.all AV.one = true := rfl
end
@[simp] theorem Spt.eqE (x : Spt) (a b c d : Int) : eqAV (.agg [.i, .i, .i, .i]) x.av (.agg [.v (.int .i64 a), .v (.int .i64 b), .v (.int .i64 c), .v (.int .i64 d)]) = some (decide (x = ⟨a, b, c, d⟩)) := Spt.eq x ⟨a, b, c, d⟩
def kP1 : Prt := ⟨3, 1, [⟨1, 1, ⟨#[]⟩⟩, ⟨2, 1, ⟨#[]⟩⟩], 0, 0, 0, 0, 0, false, false⟩
def kP2 : Prt := ⟨3, 3, [], 0, 0, 0, 1, 1, false, false⟩
def kP3 : Prt := ⟨3, 6, [⟨2, 1, ⟨#[]⟩⟩], 0, 0, 0, 0, 0, false, false⟩
def kV1 : LogV := logDo ⟨newG 3, []⟩ kP1 ⟨1, 16⟩
def kV2 : LogV := logDo kV1 kP2 ⟨2, 20⟩
def kV3 : LogV := logDo kV2 kP3 ⟨4, 30⟩
theorem kV1_ok : VOk 3 kV1 := (VOk.new (by omega)).do _ _
theorem kV2_ok : VOk 3 kV2 := kV1_ok.do _ _
theorem kV3_ok : VOk 3 kV3 := kV2_ok.do _ _
theorem kV3_sp : spotsL kV3 = [⟨3, 0, 2, 20⟩, ⟨3, 2, 4, 30⟩] := by kernel_rfl
theorem kV3_g : kV3.g = ⟨3, 2, 1, 0, 0, 0, [⟨2, 1, ⟨#[]⟩⟩]⟩ := by kernel_rfl
theorem kV3_f2 : findS kV3 2 = some ⟨4, 30⟩ := by kernel_rfl
theorem kV3_f1 : findS kV3 1 = none := by kernel_rfl
end Go.Ab
namespace Go.Proofs.Ytmpoeamfcienoaa
open Go.Ab
set_option linter.unusedVariables false
set_option linter.unusedSimpArgs false
set_option maxRecDepth 100000
set_option maxHeartbeats 1000000
theorem ct_place_Log_Find {lb : Nat} {v : LogV} {F : List Nat} {i : Int} {s : AState} (hL : LogAt s lb v F) :
    Gives prog F_place_Log_Find [.p lb 0, .v (.int .i64 i)] s (.tup [((findS v i).getD ⟨0, 0⟩).av, .v (.bool (findS v i).isSome)]) s := by
  have hlt := hL.lt
  obtain ⟨tk, mb, A, rfl, h1, h2, h3⟩ := hL
  have hlb : lb < s.n := hlt lb (by simp)
  have hmb : mb < s.n := hlt mb (by simp)
  unfold logC at h1
  refine Runs.gives' (runs_e h_place_Log_Find (Nat.le_of_ble_eq_true rfl) ?_) (Flat.tup (by simp; exact ⟨(Plc.row _).flat, .v _⟩))
  by_cases hi : 0 < i
  · have hi' : ¬ i ≤ 0 := by omega
    refine st2 hi' h1 ?_
    refine m_look (κ := Int) (A := A) (k := i) (b := mb) (enc := Plc.av) (by simp) (dz1 h2) (by simp; rfl) ?_
    have hf : findS v i = lk A i := by unfold findS; rw [if_pos hi, h3.lk]
    have hlv : lkV Plc.av A i (.agg [.v (.int .i64 0), .v (.int .i64 0)]) true = .tup [((findS v i).getD ⟨0, 0⟩).av, .v (.bool (findS v i).isSome)] := by
      rw [hf]; unfold lkV; cases lk A i <;> rfl
    rw [hlv]
    refine st0 ?_
    refine ret_ok (by simp; rfl) ⟨?_, .refl _⟩
    (repeat (first | exact Grows.refl _ | with_reducible apply Grows.alloc | with_reducible apply Grows.allocs))
  · have hf : findS v i = none := by unfold findS; rw [if_neg hi]
    have hi' : i ≤ 0 := by omega
    rw [hf]
    refine st1 hi' ?_
    refine ret_ok (by simp; rfl) ⟨?_, .refl _⟩
    (repeat (first | exact Grows.refl _ | with_reducible apply Grows.alloc | with_reducible apply Grows.allocs))
theorem ct_ladelaw13_known {s : AState} : Gives prog F_ladelaw13_known [] s (.v (.bool true)) s := by
  refine Runs.gives (runs_e h_ladelaw13_known (Nat.le_of_ble_eq_true rfl) ?_) (.v _)
  have hMI := MI_eq
  refine st0 ?_
  refine rn0 (rn_place_New) ?_
  rintro _ s1 ⟨lb, rfl, h1, h2, h3⟩
  refine st0 ?_
  refine runS (rn_place_Log_Do (p := kP1) (at_ := ⟨1, 16⟩) h1 (newG_spar (by omega)) (by decide)) ?_
  rintro _ s2 ⟨F2, h4, h5⟩
  refine st0 ?_
  refine runS (rn_place_Log_Do (v := kV1) (p := kP2) (at_ := ⟨2, 20⟩) h4 kV1_ok.g (by decide)) ?_
  rintro _ s3 ⟨F3, h6, h7⟩
  refine st0 ?_
  refine runS (rn_place_Log_Do (v := kV2) (p := kP3) (at_ := ⟨4, 30⟩) h6 kV2_ok.g (by decide)) ?_
  rintro _ s4 ⟨F4, h8, h9⟩
  have hsp : kV3.sp.length = 2 := by have := congrArg List.length kV3_sp; simpa [spotsL] using this
  refine st0 ?_
  refine gv (ct_place_Log_Spots (v := kV3) h8 (fun x hx => by have := kV3_ok.keys x hx; omega) (by omega)) ?_
  rw [kV3_sp]
  refine st0 ?_
  refine gv (ct_place_Log_Find (v := kV3) (i := 2) h8) ?_
  rw [kV3_f2]
  refine st0 ?_
  refine gv (ct_place_Log_Find (v := kV3) (i := 1) (h8.keep fun x hx => by have := h8.lt x hx; simp (disch := first | omega | (simp <;> omega) | fail))) ?_
  rw [kV3_f1]
  refine st0 ?_
  have h10 : LogAt ((s4.alloc (.cells [.v (.int .i64 4), .v (.int .i64 30)])).alloc (.cells [.v (.int .i64 0), .v (.int .i64 0)])) lb kV3 F4 := h8.keep fun x hx => by have := h8.lt x hx; simp (disch := first | omega | (simp <;> omega) | fail)
  refine gv (ct_place_Log_Group h10 (by rw [kV3_g]; decide)) ?_
  rw [kV3_g, show Grp.av ⟨3, 2, 1, 0, 0, 0, [⟨2, 1, ⟨#[]⟩⟩]⟩ = .agg [.v (.int .i64 3), .v (.int .i64 2), .v (.int .i64 1), .v (.int .i64 0), .v (.int .i64 0), .v (.int .i64 0), .sl [Ent.av ⟨2, 1, ⟨#[]⟩⟩] .no] from rfl]
  refine st0 ?_
  refine rn0 (rn_place_Log_Copy h10) ?_
  rintro _ s5 ⟨lb', F', rfl, k1, k2, k3⟩
  refine st0 ?_
  refine gv (ct_place_Log_Spots (v := kV3) k1 (fun x hx => by have := kV3_ok.keys x hx; omega) (by omega)) ?_
  rw [kV3_sp]
  refine st0 ?_
  have m4 : Mut [] F4 s s4 := ((Mut.new h3 (by simp; omega)).trans h5).trans (h7.trans h9)
  have m5 := ((m4.trans (.grows (((Grows.refl s4).alloc _).alloc _))).trans (.grows k2))
  exact ret_ok rfl ⟨⟨m5.n, fun x hx => .inl (m5.keep x hx (by simp)).symm⟩, .refl _⟩
end Go.Proofs.Ytmpoeamfcienoaa
end
section
namespace Go.Ab
set_option linter.unusedVariables false
set_option linter.unusedSimpArgs false
theorem spotsL_len (v : LogV) : (spotsL v).length = v.sp.length := by simp [spotsL]
theorem VOk.one {id : Int} {v : LogV} (h : VOk id v) : MOk [(id, v)] := ⟨List.pairwise_singleton _ _, fun x hx => by obtain rfl := List.mem_singleton.1 hx; exact h⟩
theorem one_do {id : Int} {v : LogV} (h : VOk id v) {p : Prt} (at_ : Plc) (hp : p.gr = id) (hk : p.kd ≠ 5) : doP at_ [(id, v)] p = [(id, logDo v p at_)] := by
  unfold doP
  cases hi : isPart p with
  | true =>
    rw [if_pos rfl, if_neg hk, hp]
    have e1 : lk [(id, v)] id = some v := by rw [lk_cons, if_pos rfl]
    rw [e1]
    show putL [(id, v)] id (logDo v p at_) = _
    rw [putL, if_neg (Key.irrefl _), if_pos rfl]
  | false =>
    rw [if_neg (by simp)]
    have : logDo v p at_ = v := by unfold logDo okDo; rw [hi]; rfl
    rw [this]
theorem one_not {id : Int} {v : LogV} (h : VOk id v) {p : Prt} (at_ : Plc) (hp : ¬ (p.gr = id ∧ p.kd ≠ 5)) : logDo v p at_ = v := by
  unfold logDo okDo
  rw [h.id, if_neg]
  intro hc
  simp only [Bool.and_eq_true, decide_eq_true_eq, Bool.not_eq_true', decide_eq_false_iff_not] at hc
  exact hp ⟨hc.1.2, hc.2⟩
theorem one_ref {id : Int} {v : LogV} (h : VOk id v) {p : Prt} (at_ : Plc) (hp : p.gr = id) (hk : p.kd ≠ 5) : refP at_ ([v.g], spotsL v) p = ([(logDo v p at_).g], spotsL (logDo v p at_)) := by
  have := ref_doP h.one at_ p
  rw [one_do h at_ hp hk] at this
  simpa [grpsL, spotsM, spotsL] using this
theorem sp_step {id : Int} {v : LogV} (h : VOk id v) (p : Prt) (at_ : Plc) : (logDo v p at_).sp.length ≤ v.sp.length + p.es.length + 2 := by
  by_cases hp : p.gr = id ∧ p.kd ≠ 5
  · have h1 := (refP_ok at_ ([v.g], spotsL v) p (by simpa using h.g)).2.2
    rw [one_ref h at_ hp.1 hp.2] at h1
    simp only [spotsL_len] at h1; omega
  · rw [one_not h at_ hp]; omega
end Go.Ab
namespace Go.Proofs.Ytmpoeamfcienoaa
open Go.Ab
set_option linter.unusedVariables false
set_option linter.unusedSimpArgs false
set_option maxRecDepth 100000
set_option maxHeartbeats 1000000
theorem few_len {p : Prt} (h : fewPart p = true) : p.es.length ≤ 8 := by
  simp only [fewPart, Bool.and_eq_true, decide_eq_true_eq] at h
  omega
end Go.Proofs.Ytmpoeamfcienoaa
end
section
namespace Go.Ab
set_option linter.unusedVariables false
set_option linter.unusedSimpArgs false
structure PL (l : List StP) (j : Nat) (v : LogV) : Prop where
  sg : ∀ x ∈ v.sp, 1 ≤ x.2.sg ∧ x.2.sg ≤ j
  wr : ∀ x ∈ v.sp, 0 < x.1 → ∃ (m : Nat) (h : m < l.length), x.2.sg = m + 1 ∧ ∃ e ∈ l[m].p.es, e.ix = x.1 ∧ e ∈ v.g.es
theorem ix_inj {es : List Ent} (h : es.Pairwise fun a b => a.ix < b.ix) {a b : Ent} (ha : a ∈ es) (hb : b ∈ es) (e : a.ix = b.ix) : a = b := by
  have h1 := has_of h ha e
  have h2 := has_of h hb rfl
  rw [h1] at h2
  exact Option.some.inj h2
theorem PL.step {l : List StP} {j : Nat} {v : LogV} {id : Int} (h : PL l j v) (ok : VOk id v) (hj : j < l.length) : PL l (j + 1) (logDo v l[j].p ⟨j + 1, 16⟩) := by
  unfold logDo
  split
  case isFalse => exact ⟨fun x hx => by have := h.sg x hx; omega, h.wr⟩
  case isTrue hok =>
    generalize hp : l[j].p = p at hok
    have hip : isPart p = true := by unfold okDo at hok; simp only [Bool.and_eq_true] at hok; exact hok.1.1
    have hS := ok.g.doS p
    have key : ∀ x ∈ nextW putL (lk v.sp) p ⟨j + 1, 16⟩ v.g (doS v.g p), (1 ≤ x.2.sg ∧ x.2.sg ≤ j + 1) ∧ (0 < x.1 → ∃ (m : Nat) (h : m < l.length), x.2.sg = m + 1 ∧ ∃ e ∈ l[m].p.es, e.ix = x.1 ∧ e ∈ (doS v.g p).es) := fun x hx => by
      have hl := (next_srt (lk v.sp) p ⟨j + 1, 16⟩ v.g (doS v.g p)).lk_mem hx
      rw [lk_next _ _ _ hS.srt] at hl
      split at hl
      · next hc => rw [← Option.some.inj hl]; exact ⟨⟨by show (1 : Int) ≤ j + 1; omega, Int.le_refl _⟩, fun hp => by have := hc.2; omega⟩
      split at hl
      · next hc => rw [← Option.some.inj hl]; exact ⟨⟨by show (1 : Int) ≤ j + 1; omega, Int.le_refl _⟩, fun hp => by have := hc.2; omega⟩
      split at hl
      · next e hf =>
        have he := List.mem_of_find?_eq_some hf
        have hei : e.ix = x.1 := by simpa using List.find?_some hf
        have hl := (Option.some.inj hl).symm
        split at hl
        · next hb =>
          unfold broughtS at hb
          simp only [Bool.and_eq_true, List.any_eq_true, decide_eq_true_eq] at hb
          obtain ⟨_, y, hy, rfl⟩ := hb
          rw [hl]
          exact ⟨⟨by show (1 : Int) ≤ j + 1; omega, Int.le_refl _⟩, fun _ => ⟨j, hj, rfl, e, by rw [hp]; exact hy, hei, he⟩⟩
        · next hb =>
          have hev : e ∈ v.g.es := by
            rcases doS_sub he with h1 | h1
            · exact h1
            · exfalso
              apply hb
              have hk : p.kd = 1 ∨ p.kd = 6 := by
                by_cases h1' : p.kd = 1
                · exact .inl h1'
                · by_cases h6 : p.kd = 6
                  · exact .inr h6
                  · rw [part_es hip h1' h6] at h1; cases h1
              unfold broughtS
              simp only [Bool.and_eq_true, List.any_eq_true, decide_eq_true_eq, Bool.or_eq_true]
              exact ⟨hk, e, h1, rfl⟩
          obtain ⟨y, hy, hye⟩ := ok.has e hev
          have hly := ok.srt.lk_mem hy
          rw [hye, hei] at hly
          rw [hly] at hl
          rw [hl]
          have := h.sg y hy
          refine ⟨⟨this.1, by show y.2.sg ≤ (j : Int) + 1; omega⟩, fun hx0 => ?_⟩
          obtain ⟨m, hm, h1, e2, h2, h3, h4⟩ := h.wr y hy (by omega)
          have : e2 = e := ix_inj ok.g.srt h4 hev (by omega)
          subst this
          exact ⟨m, hm, h1, e2, h2, hei, he⟩
      split at hl
      · next hc =>
        have hm := lk_mem hl
        have := h.sg _ hm
        exact ⟨⟨this.1, by show x.2.sg ≤ (j : Int) + 1; have := this.2; simp only at this; omega⟩, fun hp => by omega⟩
      · cases hl
    exact ⟨fun x hx => by have := (key x hx).1; simpa using this, fun x hx => (key x hx).2⟩
theorem PL.new (l : List StP) (id : Int) : PL l 0 ⟨newG id, []⟩ := ⟨by simp, by simp⟩
theorem lk_ix (es : List Ent) (i : Int) : lk (es.map fun e => (e.ix, ())) i = if hasIx es i = true then some () else none := by
  induction es with
  | nil => rfl
  | cons e es ih =>
    rw [List.map_cons, lk_cons, ih]
    by_cases h : i = e.ix
    · simp [h, hasIx]
    · have : ¬ e.ix = i := fun e => h e.symm
      simp [h, this, hasIx]
theorem spots_count {id : Int} {v : LogV} (h : VOk id v) : (v.sp.filter fun x => decide (0 < x.1)).length = v.g.es.length := by
  have e : (v.sp.filter fun x => decide (0 < x.1)).map (fun x => (x.1, ())) = v.g.es.map fun e => (e.ix, ()) := by
    refine Srt.ext (Srt.map (show Srt (v.sp.filter fun x => decide (0 < x.1)) from h.srt.filter _) fun _ => ()) (List.pairwise_map.2 h.g.srt) fun k => ?_
    rw [lk_map (fun _ => ()), lk_filter _ (fun i : Int => decide (0 < i)), lk_ix]
    by_cases hk : 0 < k
    · simp only [hk, decide_true, if_true]
      by_cases hi : hasIx v.g.es k = true
      · rw [if_pos hi]
        unfold hasIx at hi
        simp only [List.any_eq_true, decide_eq_true_eq] at hi
        obtain ⟨e, he, rfl⟩ := hi
        obtain ⟨x, hx, hxe⟩ := h.has e he
        rw [← hxe, h.srt.lk_mem hx]; rfl
      · rw [if_neg hi]
        cases hl : lk v.sp k with
        | none => rfl
        | some y =>
          exfalso
          apply hi
          rcases h.key _ (lk_mem hl) with h1 | h1 | ⟨e, he, h1⟩
          · simp only at h1; omega
          · simp only at h1; omega
          · unfold hasIx; simp only [List.any_eq_true, decide_eq_true_eq]; exact ⟨e, he, h1.symm⟩
    · have hn : ¬ hasIx v.g.es k = true := fun hi => by
        unfold hasIx at hi
        simp only [List.any_eq_true, decide_eq_true_eq] at hi
        obtain ⟨e, he, rfl⟩ := hi
        have := (okEnt_iff.1 (h.g.ok e he)).1
        omega
      rw [if_neg hn]; simp [hk]
  have := congrArg List.length e
  simpa using this
theorem cnt_snoc {l : List Spt} {k : Nat} (h : k < l.length) : ((l.take (k + 1)).filter fun x => decide (0 < x.ix)).length = ((l.take k).filter fun x => decide (0 < x.ix)).length + if 0 < l[k].ix then 1 else 0 := by
  have e : l.take (k + 1) = l.take k ++ [l[k]] := (List.take_append_getElem h).symm
  rw [e, List.filter_append, List.length_append]
  by_cases hp : 0 < l[k].ix <;> simp [hp]
theorem cnt_all (v : LogV) : ((spotsL v).filter fun x => decide (0 < x.ix)).length = (v.sp.filter fun x => decide (0 < x.1)).length := by
  unfold spotsL; rw [List.filter_map, List.length_map]; rfl
end Go.Ab
namespace Go.Proofs.Ytmpoeamfcienoaa
open Go.Ab
set_option linter.unusedVariables false
theorem pl_at {l : List StP} {id : Int} {v : LogV} (h : PL l l.length v) (ok : VOk id v) {k : Nat} (hk : k < (spotsL v).length) :
    (spotsL v)[k].gr = id ∧ 1 ≤ (spotsL v)[k].sg ∧ (spotsL v)[k].sg ≤ l.length ∧ (∀ (h0 : 0 < k), (spotsL v)[k - 1].ix < (spotsL v)[k].ix) ∧
    (0 < (spotsL v)[k].ix → ∃ (m : Nat) (h : m < l.length) (q : Nat) (h' : q < v.g.es.length), (spotsL v)[k].sg = m + 1 ∧ idxS (fun e => decide (e.ix = (spotsL v)[k].ix)) v.g.es = q ∧ ∃ (i : Nat) (hi : i < l[m].p.es.length), l[m].p.es[i] = v.g.es[q]) := by
  have hk2 : k < v.sp.length := by simpa [spotsL] using hk
  have e : (spotsL v)[k] = ⟨v.g.id, v.sp[k].1, v.sp[k].2.sg, v.sp[k].2.at_⟩ := by simp [spotsL]
  have hm := List.getElem_mem hk2
  have hs := h.sg _ hm
  refine ⟨by rw [e]; exact ok.id, by rw [e]; exact hs.1, by rw [e]; exact hs.2, fun h0 => ?_, fun hp => ?_⟩
  · have e2 : (spotsL v)[k - 1] = ⟨v.g.id, v.sp[k - 1].1, v.sp[k - 1].2.sg, v.sp[k - 1].2.at_⟩ := by simp [spotsL]
    rw [e, e2]
    exact List.pairwise_iff_getElem.1 ok.srt (k - 1) k (by omega) hk2 (by omega)
  · rw [e] at hp ⊢
    simp only at hp ⊢
    obtain ⟨m, hm, h1, x, h2, h3, h4⟩ := h.wr _ hm hp
    obtain ⟨q, hq, rfl⟩ := List.getElem_of_mem h4
    obtain ⟨i, hi, h5⟩ := List.getElem_of_mem h2
    refine ⟨m, hm, q, hq, h1, ?_, i, hi, h5⟩
    refine idxS_some hq (fun j hj => ?_) (by simpa using h3)
    have := List.pairwise_iff_getElem.1 ok.g.srt j q (by omega) hq hj
    simp only [decide_eq_false_iff_not]; omega
end Go.Proofs.Ytmpoeamfcienoaa
end
section
namespace Go.Proofs.Ytmpoeamfcienoaa
open Go.Ab
set_option linter.unusedVariables false
set_option linter.unusedSimpArgs false
set_option maxRecDepth 100000
set_option maxHeartbeats 1000000
def plT : ACode := A_ladelaw13_PlaceLast.body.tl.tl.tl.tl.tl
def plR : ACode := plT.tl.tl.hd.tl.inn.inn.tl.hd.inn
theorem pl_R {e : List (Nat × AV)} {s : AState} {l : List StP} {id : Int} {v : LogV} {b7 k n : Nat} {Q : Exit → AAct → AState → Prop} (ok : VOk id v) (hP : PL l l.length v) (hl : l.length ≤ 40) (hes : ∀ x ∈ l, (x.p.es.length : Int) < 9223372036854775808)
    (g0 : Ab.get e 0 = .v (.int .u8 id)) (g1 : Ab.get e 1 = .sl (l.map StP.av) .no) (g7 : Ab.get e 7 = .p b7 0) (g8 : Ab.get e 8 = .sl ((spotsL v).map Spt.av) .no) (g9 : Ab.get e 9 = .v (.int .i64 n)) (g10 : Ab.get e 10 = .v (.int .i64 k))
    (b0 : s.get b7 = .cells v.g.cells) (hk : k < (spotsL v).length) (hn : n ≤ k) (hsp : (spotsL v).length ≤ 1000)
    (hQ : ∀ e' s' x, x = .normal ∨ x = .exit 3 → Ab.get e' 0 = Ab.get e 0 → Ab.get e' 1 = Ab.get e 1 → Ab.get e' 7 = Ab.get e 7 → Ab.get e' 8 = Ab.get e 8 → Ab.get e' 9 = .v (.int .i64 ((n + if 0 < (spotsL v)[k].ix then 1 else 0 : Nat) : Int)) → Ab.get e' 10 = Ab.get e 10 → Grows s s' → Q x { t := den 160 e', d := [] } s') :
    wp prog none plR Q { t := den 160 e, d := [] } s := by
  simp only [plR, plT, A_ladelaw13_PlaceLast, ACode.tl, ACode.hd, ACode.inn]
  obtain ⟨p1, p2, p3, p4, p5⟩ := pl_at hP ok hk
  have hid := ok.rng
  have w0 : IntKind.wrap .i64 id = id := wrap_i64 (by omega) (by omega)
  have n2 : ¬ (spotsL v)[k].sg < 1 := by omega
  have n3 : ¬ (l.length : Int) < (spotsL v)[k].sg := by omega
  have w9 : IntKind.wrap .i64 ((n : Int) + 1) = ((n + 1 : Nat) : Int) := wrap_i64 (by omega) (by omega)
  have hgl : (v.g.es.length : Int) < 9223372036854775808 := by have := ok.g.len; have := MI_eq; omega
  have hb7 := AState.lt_of_get b0 (by simp)
  obtain ⟨T, hT⟩ : ∃ T, T = plR.tl := ⟨_, rfl⟩
  have hT2 := hT
  simp only [plR, plT, A_ladelaw13_PlaceLast, ACode.tl, ACode.hd, ACode.inn] at hT2
  rw [← hT2]
  clear hT2
  have rest : ∀ e', Ab.get e' 0 = Ab.get e 0 → Ab.get e' 1 = Ab.get e 1 → Ab.get e' 7 = Ab.get e 7 → Ab.get e' 8 = Ab.get e 8 → Ab.get e' 9 = Ab.get e 9 → Ab.get e' 10 = Ab.get e 10 → wp prog none T Q { t := den 160 e', d := [] } s := by
    intro e' k0 k1 k7 k8 k9 k10
    rw [hT]
    clear hT
    rw [g0] at k0; rw [g1] at k1; rw [g7] at k7; rw [g8] at k8; rw [g9] at k9; rw [g10] at k10
    simp only [plR, plT, A_ladelaw13_PlaceLast, ACode.tl, ACode.hd, ACode.inn]
    by_cases hp : 0 < (spotsL v)[k].ix
    · have hp' : ¬ (spotsL v)[k].ix ≤ 0 := by omega
      obtain ⟨m, hm, q, hq, h1, h2, i0, hi0, h3⟩ := p5 hp
      have w7 : IntKind.wrap .i64 ((spotsL v)[k].sg - 1) = (m : Int) := by rw [h1]; rw [wrap_i64 (by omega) (by omega)]; omega
      have hpl := hes _ (List.getElem_mem hm)
      repeat (first | simp -dsimp -implicitDefEqProofs (disch := first | omega | (simp <;> omega) | fail) [k1, k7, k8, k9, k10, hk, hp', w7, hm, b0] | ((with_reducible first | apply m_1 | apply m_0); (focus ((conv => lhs; simp -dsimp -implicitDefEqProofs (disch := first | omega | (simp <;> omega) | fail) [k1, k7, k8, k9, k10, hk, hp', w7, hm, b0]); done))) | ((with_reducible first | apply i_T | apply g_T); (focus (simp -dsimp -implicitDefEqProofs (disch := first | omega | (simp <;> omega) | fail) [k1, k7, k8, k9, k10, hk, hp', w7, hm, b0]; done))) | ((with_reducible first | apply i_F | apply g_F); (focus (simp -dsimp -implicitDefEqProofs (disch := first | omega | (simp <;> omega) | fail) [k1, k7, k8, k9, k10, hk, hp', w7, hm, b0]; done))))
      refine gv (ct_laderef6_At (g := v.g) (i := (spotsL v)[k].ix) hgl) ?_
      rw [h2]
      refine st0 ?_
      refine loop_ok [0, 1, 7, 8, 9, 10, 11, 12, 13, 14] (fun r a s3 => ∃ i : Nat, i + r = l[m].p.es.length ∧ s.alloc (.cells l[m].p.cells) = s3 ∧
        a = { t := den 160 [(0, .v (.int .u8 id)), (1, .sl (l.map StP.av) .no), (7, .p b7 0), (8, .sl ((spotsL v).map Spt.av) .no), (9, .v (.int .i64 ((n + 1 : Nat) : Int))), (10, .v (.int .i64 k)), (11, .p s.n 0), (12, .v (.int .i64 q)), (13, .v (.bool ((l[m].p.es.take i).any fun x => decide (x = v.g.es[q])))), (14, .v (.int .i64 i))], d := [] }) l[m].p.es.length ?_ ?_
      · exact ⟨0, by simp, by simp [Prt.cells], by simp [k0, k1, k7, k8, k10, w9]⟩
      rintro r a s3 ⟨i, hir, rfl, rfl⟩
      have c11 : (s.alloc (.cells l[m].p.cells)).get s.n = .cells l[m].p.cells := by simp
      have c7 : (s.alloc (.cells l[m].p.cells)).get b7 = .cells v.g.cells := dz1 b0
      generalize hs3 : s.alloc (.cells l[m].p.cells) = s3 at c11 c7
      by_cases hlt : i < l[m].p.es.length
      · have w3 : IntKind.wrap .i64 ((i : Int) + 1) = (i : Int) + 1 := wrap_i64 (by omega) (by omega)
        have e4 : (l[m].p.es.take (i + 1)).any (fun x => decide (x = v.g.es[q])) = ((l[m].p.es.take i).any (fun x => decide (x = v.g.es[q])) || decide (l[m].p.es[i] = v.g.es[q])) := by
          rw [(List.take_append_getElem hlt).symm, List.any_append]; simp
        cases hb : (l[m].p.es.take i).any fun x => decide (x = v.g.es[q]) with
        | true =>
          refine st2 c11 hlt ?_
          exact ⟨r - 1, by omega, i + 1, by omega, rfl, by rw [e4, hb]; simp [w3]⟩
        | false =>
          by_cases he : l[m].p.es[i] = v.g.es[q]
          · repeat (first | simp -dsimp -implicitDefEqProofs (disch := first | omega | (simp <;> omega) | fail) [c11, c7, hlt, hq, he] | ((with_reducible first | apply m_1 | apply m_0); (focus ((conv => lhs; simp -dsimp -implicitDefEqProofs (disch := first | omega | (simp <;> omega) | fail) [c11, c7, hlt, hq, he]); done))) | ((with_reducible first | apply i_T | apply g_T); (focus (simp -dsimp -implicitDefEqProofs (disch := first | omega | (simp <;> omega) | fail) [c11, c7, hlt, hq, he]; done))) | ((with_reducible first | apply i_F | apply g_F); (focus (simp -dsimp -implicitDefEqProofs (disch := first | omega | (simp <;> omega) | fail) [c11, c7, hlt, hq, he]; done))))
            exact ⟨r - 1, by omega, i + 1, by omega, rfl, by rw [e4, hb]; simp [w3, he]⟩
          · repeat (first | simp -dsimp -implicitDefEqProofs (disch := first | omega | (simp <;> omega) | fail) [c11, c7, hlt, hq, he] | ((with_reducible first | apply m_1 | apply m_0); (focus ((conv => lhs; simp -dsimp -implicitDefEqProofs (disch := first | omega | (simp <;> omega) | fail) [c11, c7, hlt, hq, he]); done))) | ((with_reducible first | apply i_T | apply g_T); (focus (simp -dsimp -implicitDefEqProofs (disch := first | omega | (simp <;> omega) | fail) [c11, c7, hlt, hq, he]; done))) | ((with_reducible first | apply i_F | apply g_F); (focus (simp -dsimp -implicitDefEqProofs (disch := first | omega | (simp <;> omega) | fail) [c11, c7, hlt, hq, he]; done))))
            exact ⟨r - 1, by omega, i + 1, by omega, rfl, by rw [e4, hb]; simp [w3, he]⟩
      · have hie : i = l[m].p.es.length := by omega
        subst hie
        have hA : (l[m].p.es.any fun x => decide (x = v.g.es[q])) = true := by
          rw [List.any_eq_true]; exact ⟨_, List.getElem_mem hi0, by simpa using h3⟩
        rw [List.take_length, hA]
        refine st2 c11 hlt ?_
        exact hQ _ s3 _ (.inl rfl) (by simp [g0]) (by simp [g1]) (by simp [g7]) (by simp [g8]) (by simp [hp]) (by simp [g10]) (by rw [← hs3]; exact (Grows.refl _).alloc _)
    · have hp' : (spotsL v)[k].ix ≤ 0 := by omega
      repeat (first | simp -dsimp -implicitDefEqProofs (disch := first | omega | (simp <;> omega) | fail) [k8, k10, hk, hp'] | ((with_reducible first | apply m_1 | apply m_0); (focus ((conv => lhs; simp -dsimp -implicitDefEqProofs (disch := first | omega | (simp <;> omega) | fail) [k8, k10, hk, hp']); done))) | ((with_reducible first | apply i_T | apply g_T); (focus (simp -dsimp -implicitDefEqProofs (disch := first | omega | (simp <;> omega) | fail) [k8, k10, hk, hp']; done))) | ((with_reducible first | apply i_F | apply g_F); (focus (simp -dsimp -implicitDefEqProofs (disch := first | omega | (simp <;> omega) | fail) [k8, k10, hk, hp']; done))))
      exact hQ _ s _ (.inr rfl) (by simp [k0, g0]) (by simp [k1, g1]) (by simp [k7, g7]) (by simp [k8, g8]) (by simp [hp, k9]) (by simp [k10, g10]) (.refl _)
  by_cases h0 : k = 0
  · subst h0
    repeat (first | simp -dsimp -implicitDefEqProofs (disch := first | omega | (simp <;> omega) | fail) [g0, g1, g8, g10, hk, p1, w0, n2, n3] | ((with_reducible first | apply m_1 | apply m_0); (focus ((conv => lhs; simp -dsimp -implicitDefEqProofs (disch := first | omega | (simp <;> omega) | fail) [g0, g1, g8, g10, hk, p1, w0, n2, n3]); done))) | ((with_reducible first | apply i_T | apply g_T); (focus (simp -dsimp -implicitDefEqProofs (disch := first | omega | (simp <;> omega) | fail) [g0, g1, g8, g10, hk, p1, w0, n2, n3]; done))) | ((with_reducible first | apply i_F | apply g_F); (focus (simp -dsimp -implicitDefEqProofs (disch := first | omega | (simp <;> omega) | fail) [g0, g1, g8, g10, hk, p1, w0, n2, n3]; done))))
    exact rest _ (by simp) (by simp) (by simp) (by simp) (by simp) (by simp)
  · obtain ⟨k', hk'⟩ : ∃ k', k' = k - 1 := ⟨_, rfl⟩
    have w6 : IntKind.wrap .i64 ((k : Int) - 1) = (k' : Int) := by rw [wrap_i64 (by omega) (by omega)]; omega
    have hpos : 0 < k := by omega
    have hk2 : k' < (spotsL v).length := by omega
    have p4' : ¬ (spotsL v)[k].ix ≤ (spotsL v)[k'].ix := by have := p4 (by omega); subst hk'; omega
    repeat (first | simp -dsimp -implicitDefEqProofs (disch := first | omega | (simp <;> omega) | fail) [g0, g1, g8, g10, hk, hk2, p1, w0, w6, hpos, n2, n3, p4'] | ((with_reducible first | apply m_1 | apply m_0); (focus ((conv => lhs; simp -dsimp -implicitDefEqProofs (disch := first | omega | (simp <;> omega) | fail) [g0, g1, g8, g10, hk, hk2, p1, w0, w6, hpos, n2, n3, p4']); done))) | ((with_reducible first | apply i_T | apply g_T); (focus (simp -dsimp -implicitDefEqProofs (disch := first | omega | (simp <;> omega) | fail) [g0, g1, g8, g10, hk, hk2, p1, w0, w6, hpos, n2, n3, p4']; done))) | ((with_reducible first | apply i_F | apply g_F); (focus (simp -dsimp -implicitDefEqProofs (disch := first | omega | (simp <;> omega) | fail) [g0, g1, g8, g10, hk, hk2, p1, w0, w6, hpos, n2, n3, p4']; done))))
    exact rest _ (by simp) (by simp) (by simp) (by simp) (by simp) (by simp)
theorem ct_ladelaw13_PlaceLast {l : List StP} {id : Int} {s : AState} (hid : 0 ≤ id ∧ id < 256) (hl : (l.length : Int) < 9223372036854775808) (hes : ∀ x ∈ l, (x.p.es.length : Int) < 9223372036854775808) :
    Gives prog F_ladelaw13_PlaceLast [.v (.int .u8 id), .sl (l.map StP.av) .no] s (.v (.bool true)) s := by
  refine Runs.gives (runs_e h_ladelaw13_PlaceLast (Nat.le_of_ble_eq_true rfl) ?_) (.v _)
  obtain ⟨T, hT⟩ : ∃ T, T = plR := ⟨_, rfl⟩
  have hT2 := hT
  simp only [plR, plT, A_ladelaw13_PlaceLast, ACode.tl, ACode.hd, ACode.inn] at hT2
  rw [← hT2]
  clear hT2
  have w0 : IntKind.wrap .i64 id = id := wrap_i64 (by omega) (by omega)
  refine st0 ?_
  refine gv (ct_ladelaw13_known) ?_
  refine st0 ?_
  by_cases hg1 : (40 : Int) < l.length
  · refine st1 hg1 ?_
    exact ret_ok rfl ⟨⟨Nat.le_refl _, fun x hx => .inl rfl⟩, .refl _⟩
  refine st2 hg1 w0 ?_
  refine rn0 (rn_place_New) ?_
  rintro _ s1 ⟨lb, rfl, h1, h2, h3⟩
  refine st0 ?_
  refine loop_ok [0, 1, 5, 6] (fun r a s3 => ∃ (j : Nat) (v : LogV) (F : List Nat), j + r = l.length ∧ LogAt s3 lb v F ∧ VOk id v ∧ PL l j v ∧ v.sp.length ≤ 10 * j ∧ Mut [] F s s3 ∧
    a = { t := den 160 [(0, .v (.int .u8 id)), (1, .sl (l.map StP.av) .no), (5, .p lb 0), (6, .v (.int .i64 j))], d := [] }) l.length ?_ ?_
  · exact ⟨0, ⟨newG id, []⟩, [lb, lb - 1], by simp, h1, .new (by omega), .new l id, by simp, .new h3 (by simp; omega), by simp⟩
  clear h1 h2 h3
  rintro r a s3 ⟨j, v, F, hjr, log, ok, hP, sp, mt, rfl⟩
  by_cases hlt : j < l.length
  · have w3 : IntKind.wrap .i64 ((j : Int) + 1) = (j : Int) + 1 := wrap_i64 (by omega) (by omega)
    have hx := hes _ (List.getElem_mem hlt)
    repeat (first | simp -dsimp -implicitDefEqProofs (disch := first | omega | (simp <;> omega) | fail) [hlt] | ((with_reducible first | apply m_1 | apply m_0); (focus ((conv => lhs; simp -dsimp -implicitDefEqProofs (disch := first | omega | (simp <;> omega) | fail) [hlt]); done))) | ((with_reducible first | apply i_T | apply g_T); (focus (simp -dsimp -implicitDefEqProofs (disch := first | omega | (simp <;> omega) | fail) [hlt]; done))) | ((with_reducible first | apply i_F | apply g_F); (focus (simp -dsimp -implicitDefEqProofs (disch := first | omega | (simp <;> omega) | fail) [hlt]; done))))
    refine gv (ct_ladelaw13_fewPart (x := l[j].p) hx) ?_
    cases hf : fewPart l[j].p with
    | false =>
      refine st0 ?_
      exact ret_ok rfl ⟨⟨mt.n, fun x hx => .inl (mt.keep x hx (by simp)).symm⟩, .refl _⟩
    | true =>
      have hfl := few_len hf
      have hst := sp_step ok l[j].p ⟨(j : Int) + 1, 16⟩
      repeat (first | simp -dsimp -implicitDefEqProofs (disch := first | omega | (simp <;> omega) | fail) [hlt, w3] | ((with_reducible first | apply m_1 | apply m_0); (focus ((conv => lhs; simp -dsimp -implicitDefEqProofs (disch := first | omega | (simp <;> omega) | fail) [hlt, w3]); done))) | ((with_reducible first | apply i_T | apply g_T); (focus (simp -dsimp -implicitDefEqProofs (disch := first | omega | (simp <;> omega) | fail) [hlt, w3]; done))) | ((with_reducible first | apply i_F | apply g_F); (focus (simp -dsimp -implicitDefEqProofs (disch := first | omega | (simp <;> omega) | fail) [hlt, w3]; done))))
      refine run (rn_place_Log_Do (p := l[j].p) (at_ := ⟨(j : Int) + 1, 16⟩) log ok.g (by omega)) (by simp [Prt.av, Prt.cells, Plc.av, Plc.cells]) ?_
      rintro _ s4 ⟨F4, a1, a2⟩
      refine st0 ?_
      exact ⟨r - 1, by omega, j + 1, _, F4, by omega, a1, ok.do _ _, by have := hP.step ok hlt; simpa using this, by omega, mt.trans a2, by simp [w3]⟩
  · have hje : j = l.length := by omega
    subst hje
    have hsl := spotsL_len v
    have hgl : (v.g.es.length : Int) ≤ MI := ok.g.len
    have hMI := MI_eq
    refine st1 hlt ?_
    refine gv (ct_place_Log_Group log (by omega)) ?_
    refine st0 ?_
    refine gv (ct_place_Log_Spots log (fun x hx => by have := ok.keys x hx; omega) (by omega)) ?_
    refine st0 ?_
    refine loop_ok [0, 1, 7, 8, 9, 10] (fun r a s5 => ∃ k : Nat, k + r = (spotsL v).length ∧ Grows (s3.alloc (.cells v.g.cells)) s5 ∧
      a = { t := den 160 [(0, .v (.int .u8 id)), (1, .sl (l.map StP.av) .no), (7, .p s3.n 0), (8, .sl ((spotsL v).map Spt.av) .no), (9, .v (.int .i64 ((((spotsL v).take k).filter fun x => decide (0 < x.ix)).length : Nat))), (10, .v (.int .i64 k))], d := [] }) (spotsL v).length ?_ ?_
    · exact ⟨0, by simp, .refl _, by simp⟩
    rintro r2 a s5 ⟨k, hkr, hgr, rfl⟩
    have b0 : s5.get s3.n = .cells v.g.cells := (hgr.get (by simp)).trans (by simp)
    by_cases hkt : k < (spotsL v).length
    · have w4 : IntKind.wrap .i64 ((k : Int) + 1) = (k : Int) + 1 := wrap_i64 (by omega) (by omega)
      have hcn := cnt_snoc hkt
      have hcl : (((spotsL v).take k).filter fun x => decide (0 < x.ix)).length ≤ k := Nat.le_trans (List.length_filter_le _ _) (by simp; omega)
      generalize (((spotsL v).take k).filter fun x => decide (0 < x.ix)).length = n at hcn hcl ⊢
      refine st1 hkt ?_
      rw [hT]
      refine pl_R (l := l) (id := id) (v := v) (b7 := s3.n) (k := k) (n := n) ok hP (by omega) hes (by simp) (by simp) (by simp) (by simp) (by simp) (by simp) b0 hkt hcl (by omega) ?_
      intro e' s6 x hx k0 k1 k7 k8 k9 k10 hg6
      simp at k0 k1 k7 k8 k10
      rw [← hcn] at k9
      rcases hx with rfl | rfl <;>
      · refine st6 k0 k1 k7 k8 k9 k10 ?_
        exact ⟨r2 - 1, by omega, k + 1, by omega, hgr.trans hg6, by simp [k0, k1, k7, k8, k9, w4]⟩
    · have hke : k = (spotsL v).length := by omega
      subst hke
      rw [List.take_length, cnt_all, spots_count ok]
      refine st2 hkt b0 ?_
      have m := mt.trans (.grows (((Grows.refl s3).alloc _).trans hgr))
      exact ret_ok rfl ⟨⟨m.n, fun x hx => .inl (m.keep x hx (by simp)).symm⟩, .refl _⟩
end Go.Proofs.Ytmpoeamfcienoaa
end
