/- Going on. -/
import Derived.Shelf.SlGeneric
import Derived.Ground.GgzProg
import Derived.Ground.SlgmProg
import Derived.Ground.SlmcProg
import Derived.Shelf.SlIterI.Nil
import Derived.Shelf.SlMaps.Clone
import Derived.Shelf.SortM.Plain
import Derived.Shelf.SortM.SortNone
import Derived.Test.YtmpoeamfcienoaaKPM15
section
namespace Go.Proofs
open Go.Shelf
def Try.sh_maps_Clone_Place_ren : Go.Shelf.Ren := ⟨fun | 5 => 45 | 7 => 81 | n => n, fun | 23 => 92 | 25 => 3 | 3 => 41 | 4 => 4 | 20 => 20 | n => n, fun | n => n⟩
theorem Try.sh_maps_Clone_Place : Go.Proofs.SlLaysW.n5 Try.prog Try.sh_maps_Clone_Place_ren := {
  mixed := by kernel_rfl
  f5 := ⟨Try.f45.name, by decide, Try.func45.trans (congrArg some (by kernel_rfl))⟩
  f7 := Try.func81.trans (congrArg some (by kernel_rfl))
  t4 := Try.underlying4
  a4 := Try.isAgg4
  z4 := Try.sizeOf4
  v4 := Try.zeroValue4
  t20 := Try.underlying20
  a20 := Try.isAgg20
  z20 := Try.sizeOf20
  v20 := Try.zeroValue20
  t23 := Try.underlying92
  a23 := Try.isAgg92
  z23 := Try.sizeOf92
  v23 := Try.zeroValue92 }
def Try.sh_slices_Sorted_int_ren : Go.Shelf.Ren := ⟨fun | 6 => 60 | 8 => 106 | 9 => 107 | 11 => 131 | 13 => 133 | 12 => 132 | 23 => 150 | 24 => 151 | 14 => 141 | 15 => 142 | 16 => 143 | 17 => 144 | 18 => 145 | 19 => 146 | 20 => 147 | 21 => 148 | 22 => 149 | 25 => 153 | 26 => 154 | 27 => 155 | 28 => 156 | 29 => 157 | 30 => 158 | 31 => 159 | n => n, fun | 26 => 3 | 28 => 112 | 24 => 114 | 0 => 0 | 3 => 3 | 37 => 60 | 48 => 195 | 50 => 197 | 4 => 4 | 40 => 187 | 39 => 186 | 45 => 192 | 5 => 5 | 9 => 9 | 51 => 199 | 55 => 203 | 57 => 205 | 58 => 206 | 33 => 86 | n => n, fun | n => n⟩
theorem Try.sh_slices_Sorted_int : Go.Proofs.SlLaysZI.n6 Try.prog Try.sh_slices_Sorted_int_ren := {
  mixed := by kernel_rfl
  f6 := ⟨Try.f60.name, by decide, Try.func60.trans (congrArg some (by kernel_rfl))⟩
  f8 := ⟨Try.f106.name, by decide, Try.func106.trans (congrArg some (by kernel_rfl))⟩
  f11 := ⟨Try.f131.name, by decide, Try.func131.trans (congrArg some (by kernel_rfl))⟩
  t0 := Try.underlying0
  a0 := Try.isAgg0
  z0 := Try.sizeOf0
  v0 := Try.zeroValue0
  t24 := Try.underlying114
  a24 := Try.isAgg114
  z24 := Try.sizeOf114
  v24 := Try.zeroValue114
  t26 := Try.underlying3
  a26 := Try.isAgg3
  z26 := Try.sizeOf3
  v26 := Try.zeroValue3
  t28 := Try.underlying112
  a28 := Try.isAgg112
  z28 := Try.sizeOf112
  v28 := Try.zeroValue112
  i26 := by kernel_rfl }
def Try.sh_maps_Keys_Place_ren : Go.Shelf.Ren := ⟨fun | 7 => 61 | 10 => 108 | n => n, fun | 23 => 92 | 26 => 3 | 3 => 41 | 28 => 112 | 0 => 0 | 27 => 111 | 33 => 86 | 4 => 4 | n => n, fun | n => n⟩
theorem Try.sh_maps_Keys_Place : Go.Proofs.SlLaysZI.n7 Try.prog Try.sh_maps_Keys_Place_ren := {
  mixed := by kernel_rfl
  f7 := ⟨Try.f61.name, by decide, Try.func61.trans (congrArg some (by kernel_rfl))⟩
  f10 := ⟨Try.f108.name, by decide, Try.func108.trans (congrArg some (by kernel_rfl))⟩
  t0 := Try.underlying0
  a0 := Try.isAgg0
  z0 := Try.sizeOf0
  v0 := Try.zeroValue0
  t4 := Try.underlying4
  a4 := Try.isAgg4
  z4 := Try.sizeOf4
  v4 := Try.zeroValue4
  t23 := Try.underlying92
  a23 := Try.isAgg92
  z23 := Try.sizeOf92
  v23 := Try.zeroValue92
  t26 := Try.underlying3
  a26 := Try.isAgg3
  z26 := Try.sizeOf3
  v26 := Try.zeroValue3
  t27 := Try.underlying111
  a27 := Try.isAgg111
  z27 := Try.sizeOf111
  v27 := Try.zeroValue111
  t28 := Try.underlying112
  a28 := Try.isAgg112
  z28 := Try.sizeOf112
  v28 := Try.zeroValue112
  t33 := Try.underlying86
  a33 := Try.isAgg86
  z33 := Try.sizeOf86
  v33 := Try.zeroValue86 }
def Try.sh_slices_Sort_int_ren : Go.Shelf.Ren := ⟨fun | 5 => 107 | 8 => 133 | 7 => 132 | 19 => 150 | 20 => 151 | 10 => 141 | 11 => 142 | 12 => 143 | 13 => 144 | 14 => 145 | 15 => 146 | 16 => 147 | 17 => 148 | 18 => 149 | 30 => 153 | 31 => 154 | 32 => 155 | 33 => 156 | 34 => 157 | 35 => 158 | 40 => 159 | n => n, fun | 23 => 114 | 25 => 3 | 3 => 3 | 32 => 60 | 22 => 114 | 0 => 0 | 44 => 195 | 46 => 197 | 4 => 4 | 36 => 187 | 35 => 186 | 41 => 192 | 5 => 5 | 9 => 9 | 53 => 199 | 57 => 203 | 63 => 205 | 64 => 206 | n => n, fun | n => n⟩
theorem Try.sh_slices_Sort_int : Go.Proofs.SlLaysM.n5 Try.prog Try.sh_slices_Sort_int_ren := {
  mixed := by kernel_rfl
  f5 := ⟨Try.f107.name, by decide, Try.func107.trans (congrArg some (by kernel_rfl))⟩
  f7 := ⟨Try.f132.name, by decide, Try.func132.trans (congrArg some (by kernel_rfl))⟩
  f8 := Try.func133.trans (congrArg some (by kernel_rfl))
  f10 := ⟨Try.f141.name, by decide, Try.func141.trans (congrArg some (by kernel_rfl))⟩
  f11 := ⟨Try.f142.name, by decide, Try.func142.trans (congrArg some (by kernel_rfl))⟩
  f12 := ⟨Try.f143.name, by decide, Try.func143.trans (congrArg some (by kernel_rfl))⟩
  f13 := ⟨Try.f144.name, by decide, Try.func144.trans (congrArg some (by kernel_rfl))⟩
  f14 := ⟨Try.f145.name, by decide, Try.func145.trans (congrArg some (by kernel_rfl))⟩
  f15 := ⟨Try.f146.name, by decide, Try.func146.trans (congrArg some (by kernel_rfl))⟩
  f16 := ⟨Try.f147.name, by decide, Try.func147.trans (congrArg some (by kernel_rfl))⟩
  f17 := ⟨Try.f148.name, by decide, Try.func148.trans (congrArg some (by kernel_rfl))⟩
  f18 := ⟨Try.f149.name, by decide, Try.func149.trans (congrArg some (by kernel_rfl))⟩
  f19 := Try.func150.trans (congrArg some (by kernel_rfl))
  f20 := Try.func151.trans (congrArg some (by kernel_rfl))
  f30 := ⟨Try.f153.name, by decide, Try.func153.trans (congrArg some (by kernel_rfl))⟩
  f31 := Try.func154.trans (congrArg some (by kernel_rfl))
  f32 := Try.func155.trans (congrArg some (by kernel_rfl))
  f33 := ⟨Try.f156.name, by decide, Try.func156.trans (congrArg some (by kernel_rfl))⟩
  f34 := ⟨Try.f157.name, by decide, Try.func157.trans (congrArg some (by kernel_rfl))⟩
  f35 := ⟨Try.f158.name, by decide, Try.func158.trans (congrArg some (by kernel_rfl))⟩
  f40 := ⟨Try.f159.name, by decide, Try.func159.trans (congrArg some (by kernel_rfl))⟩
  t0 := Try.underlying0
  a0 := Try.isAgg0
  z0 := Try.sizeOf0
  v0 := Try.zeroValue0
  t3 := Try.underlying3
  a3 := Try.isAgg3
  z3 := Try.sizeOf3
  v3 := Try.zeroValue3
  t4 := Try.underlying4
  a4 := Try.isAgg4
  z4 := Try.sizeOf4
  v4 := Try.zeroValue4
  t5 := Try.underlying5
  a5 := Try.isAgg5
  z5 := Try.sizeOf5
  v5 := Try.zeroValue5
  t9 := Try.underlying9
  a9 := Try.isAgg9
  z9 := Try.sizeOf9
  v9 := Try.zeroValue9
  t22 := Try.underlying114
  a22 := Try.isAgg114
  z22 := Try.sizeOf114
  v22 := Try.zeroValue114
  t23 := Try.underlying114
  a23 := Try.isAgg114
  z23 := Try.sizeOf114
  v23 := Try.zeroValue114
  t25 := Try.underlying3
  a25 := Try.isAgg3
  z25 := Try.sizeOf3
  v25 := Try.zeroValue3
  t32 := Try.underlying60
  a32 := Try.isAgg60
  z32 := Try.sizeOf60
  v32 := Try.zeroValue60
  t35 := Try.underlying186
  a35 := Try.isAgg186
  z35 := Try.sizeOf186
  v35 := Try.zeroValue186
  t36 := Try.underlying187
  a36 := Try.isAgg187
  z36 := Try.sizeOf187
  v36 := Try.zeroValue187
  t41 := Try.underlying192
  a41 := Try.isAgg192
  z41 := Try.sizeOf192
  v41 := Try.zeroValue192
  t44 := Try.underlying195
  a44 := Try.isAgg195
  z44 := Try.sizeOf195
  v44 := Try.zeroValue195
  t46 := Try.underlying197
  a46 := Try.isAgg197
  z46 := Try.sizeOf197
  v46 := Try.zeroValue197
  t53 := Try.underlying199
  a53 := Try.isAgg199
  z53 := Try.sizeOf199
  v53 := Try.zeroValue199
  t57 := Try.underlying203
  a57 := Try.isAgg203
  z57 := Try.sizeOf203
  v57 := Try.zeroValue203
  t63 := Try.underlying205
  a63 := Try.isAgg205
  z63 := Try.sizeOf205
  v63 := Try.zeroValue205
  t64 := Try.underlying206
  a64 := Try.isAgg206
  z64 := Try.sizeOf206
  v64 := Try.zeroValue206 }
end Go.Proofs
end
section
namespace Go.Proofs.Ytmpoeamfcienoaa
open Go.Ab Go.Maps
set_option linter.unusedVariables false
set_option linter.unusedSimpArgs false
set_option maxRecDepth 100000
set_option maxHeartbeats 4000000
theorem sortsI (m : Nat) : AnyZI.SortsIn Try.prog Try.sh_slices_Sorted_int_ren Fence.wide m :=
  ⟨fun blk off cap ss W hH hblk hsz => callsIn_wide.2 (AnyM.slices_Sort_int Try.sh_slices_Sort_int blk off cap ss W hH hblk hsz),
   fun p cap W => callsIn_wide.2 (AnyM.slices_Sort_int_none Try.sh_slices_Sort_int p cap W)⟩
theorem ct_sorted_Place {β : Type} {s : AState} {cb b : Nat} {enc : β → AV} {A B : List (Int × β)} (hcb : s.get cb = .cells [.m b]) (hb : s.get b = .map (encM enc A)) (hAB : Rep A B)
    (hw : ∀ x ∈ B, -9223372036854775808 ≤ x.1 ∧ x.1 < 9223372036854775808) (hlen : B.length * 8 ≤ 140737488355328) :
    Gives prog F_slices_Sorted_int [.f (.func F_maps_Keys_Place_1) [] [.p cb 0]] s (.sl ((B.map (·.1)).map fun n => .v (.int .i64 n)) .no) s := by
  refine Runs.sorted (kt := Try.sh_maps_Keys_Place_ren.t 26) (T := Try.sh_slices_Sorted_int_ren.t 26) (enters_of Try.func60 (by kernel_rfl) rfl) hcb hb hAB hw Try.sh_maps_Keys_Place.t26 hlen ?_
  intro w Bm r D0 hc hlt hown hsz
  have hseq := AnyZI.keys_gives (ρ := Try.sh_maps_Keys_Place_ren) { Try.sh_maps_Keys_Place with } Fence.wide 2 trivial rfl (by omega) Bm r _ D0 w hlt hc hown
  have := AnyZI.sorted_in Try.sh_slices_Sorted_int Fence.wide 5 trivial trivial trivial trivial rfl (by omega) (sortsI _) (enters_of Try.func107 (by kernel_rfl) rfl) F_maps_Keys_Place_1 #[.pointer (some ⟨Bm, 0, none⟩)] trivial (enters_of Try.func108 (by kernel_rfl) rfl) _ (Maps.size D0)
    (by have e : maxLen = 9223372036854775807 := rfl; omega) (by omega) w hseq
  exact (callsIn_wide (n := 5)).1 this
theorem ct_maps_Keys_Place {b : Nat} {s : AState} : Gives prog F_maps_Keys_Place [.m b] s (.f (.func F_maps_Keys_Place_1) [] [.p s.n 0]) (s.alloc (.cells [.m b])) := by
  refine runs_e h_maps_Keys_Place (Nat.le_of_ble_eq_true rfl) ?_
  refine st0 ?_
  exact ret_ok rfl ⟨rfl, rfl⟩
theorem ct_maps_Clone_Place {κ β : Type} [DecidableEq κ] [KE κ] {s : AState} {b : Nat} {enc : β → AV} {A : List (κ × β)} (hb : s.get b = .map (encM enc A)) : Gives prog F_maps_Clone_Place [.m b] s (.m s.n) (s.alloc (.map (encM enc A))) :=
  Runs.clone (enters_of Try.func45 (by kernel_rfl) rfl) hb fun w r es clock h => AnyW.maps_Clone Try.sh_maps_Clone_Place r es clock w h
theorem ct_slices_Clone_Entry {es : List Ent} {s : AState} (hlen : es.length * 32 ≤ 140737488355328) : Gives prog F_slices_Clone_Entry [.sl (es.map Ent.av) .no] s (.sl (es.map Ent.av) .no) s := by
  refine Runs.gives' (runs_e h_slices_Clone_Entry (Nat.le_of_ble_eq_true rfl) ?_) (flat_sl Ent.row _)
  refine st0 ?_
  refine i_N (fun hne => ?_) (fun hne b => ?_)
  · refine st0 ?_
    refine m_app (xs := []) (tk := .zero) (B := s) (N := s.n) (by simp) (by simp; exact ⟨rfl, rfl⟩) (Grows.refl s) (Nat.le_refl _) (Nat.le_refl _) trivial (by simp) (by simp) (by simp; omega) (by simp; omega) ?_
    intro s' tk2 hg hm _ _
    refine st0 ?_
    exact ret_ok rfl ⟨hg, by simpa using AV.le_no _ _⟩
  · have : es = [] := by simpa using hne
    subst this
    cases b
    · refine st0 ?_
      exact ret_ok rfl ⟨Grows.refl _, AV.le_no _ _⟩
    · refine st0 ?_
      exact ret_ok rfl ⟨Grows.refl _, AV.le_no _ _⟩
end Go.Proofs.Ytmpoeamfcienoaa
end
section
namespace Go.Proofs.Ytmpoeamfcienoaa
open Go.Ab
set_option linter.unusedVariables false
set_option linter.unusedSimpArgs false
set_option maxRecDepth 100000
set_option maxHeartbeats 4000000
def Ones (xs : List AV) : Prop := ∀ x ∈ xs, x.cells = [x] ∧ x.one = true ∧ x.strip = x
theorem Ones.ints {k : IntKind} (l : List Int) : Ones (l.map fun n => .v (.int k n)) := by intro x hx; obtain ⟨n, _, rfl⟩ := List.mem_map.1 hx; exact ⟨rfl, rfl, rfl⟩
theorem ct_slices_Values_int {xs : List AV} {s : AState} : Gives prog F_slices_Values_int [.sl xs .no] s (.f (.func F_slices_Values_int_1) [] [.p s.n 0]) (s.alloc (.cells [.sl xs .no])) := by
  refine runs_e h_slices_Values_int (Nat.le_of_ble_eq_true rfl) ?_
  refine st0 ?_
  exact ret_ok rfl ⟨rfl, rfl⟩
theorem it_slices_Values_int (xs : List AV) (hx : Ones xs) (b : Nat) (hlen : xs.length < 9223372036854775808) : Iter prog F_slices_Values_int_1 [] [.p b 0] (xs.map fun e => [e]) (fun s => s.get b = .cells [.sl xs .no]) := by
  intro l s I J hp ha hj hy h0
  refine runs_e h_slices_Values_int_1 (Nat.le_of_ble_eq_true rfl) ?_
  refine st1 (hp 0 s h0) ?_
  refine loop_ok [0, 5, 6, 7] (fun m a s1 => ∃ j : Nat, j + m = xs.length ∧ I j s1 ∧ a = { t := den 16 [(0, .y l), (5, .sl xs .no), (6, .v (.int .i64 xs.length)), (7, .v (.int .i64 j))], d := [] }) xs.length ?_ ?_
  · exact ⟨0, by simp, h0, by simp⟩
  · rintro m a s1 ⟨j, hjm, hI, rfl⟩
    by_cases hlt : j < xs.length
    · have hw : IntKind.wrap .i64 ((j : Int) + 1) = ((j + 1 : Nat) : Int) := by rw [wrap_i64 (by omega) (by omega)]; omega
      obtain ⟨hc, ho, _⟩ := hx _ (List.getElem_mem hlt)
      refine st3 hlt hc ho ?_
      have hy' := hy j (by simpa using hlt) _ hI
      simp only [List.getElem_map] at hy'
      refine yr0 (hy') ?_
      rintro _ s2 (⟨rfl, hI2⟩ | ⟨rfl, hJ⟩)
      · refine st1 hw ?_
        exact ⟨m - 1, by omega, j + 1, by omega, hI2, by simp⟩
      · refine st0 ?_
        exact ret_ok rfl (.inr hJ)
    · refine st1 hlt ?_
      have : j = xs.length := by omega
      subst this
      exact end_ok rfl (.inl (by simpa using hI))
end Go.Proofs.Ytmpoeamfcienoaa
end
section
namespace Go.Ab
def spotsL (v : LogV) : List Spt := v.sp.map fun x => ⟨v.g.id, x.1, x.2.sg, x.2.at_⟩
end Go.Ab
namespace Go.Proofs.Ytmpoeamfcienoaa
open Go.Ab
set_option linter.unusedVariables false
set_option linter.unusedSimpArgs false
set_option maxRecDepth 100000
set_option maxHeartbeats 8000000
theorem ct_place_Log_Group {lb : Nat} {v : LogV} {F : List Nat} {s : AState} (hL : LogAt s lb v F) (hl : v.g.es.length * 32 ≤ 140737488355328) : Gives prog F_place_Log_Group [.p lb 0] s v.g.av s := by
  have hlt := hL.lt
  obtain ⟨tk, mb, A, rfl, h1, h2, h3⟩ := hL
  have hlb : lb < s.n := hlt lb (by simp)
  unfold logC at h1
  refine Runs.gives' (runs_e h_place_Log_Group (Nat.le_of_ble_eq_true rfl) ?_) (Grp.row _).flat
  refine st1 h1 ?_
  refine gv (ct_slices_Clone_Entry (es := v.g.es) hl) ?_
  refine st0 ?_
  exact ret_ok (by simp; rfl) ⟨((Grows.refl _).alloc _).alloc _, (AV.le_strip _).trans (by simp [Grp.av, Grp.cells, retVal]; exact .refl _)⟩
theorem rn_place_Log_Copy {lb : Nat} {v : LogV} {F : List Nat} {s : AState} (hL : LogAt s lb v F) :
    Runs (compCode prog) prog F_place_Log_Copy [.p lb 0] s (fun x s' => ∃ lb' F', x = .p lb' 0 ∧ LogAt s' lb' v F' ∧ Grows s s' ∧ ∀ x ∈ F', s.n ≤ x) := by
  have hlt := hL.lt
  obtain ⟨tk, mb, A, rfl, h1, h2, h3⟩ := hL
  have hlb : lb < s.n := hlt lb (by simp)
  unfold logC at h1
  refine runs_e h_place_Log_Copy (Nat.le_of_ble_eq_true rfl) ?_
  refine sd1 h1 ?_
  refine gv (ct_maps_Clone_Place h2) ?_
  refine ⟨m_ext (AState.ext_alloc _ _), ?_⟩
  refine sd1 h1 ?_
  refine ret_ok rfl ⟨s.n + 1, [s.n + 1, s.n], rfl, ⟨tk, s.n, A, rfl, ?_, ?_, h3⟩, ((Grows.refl s).alloc _).alloc _, by simp⟩
  · simp [logC]
  · simp (disch := first | omega | (simp <;> omega) | fail)
theorem ct_place_Log_Spots {lb : Nat} {v : LogV} {F : List Nat} {s : AState} (hL : LogAt s lb v F) (hk : ∀ x ∈ v.sp, -9223372036854775808 ≤ x.1 ∧ x.1 < 9223372036854775808) (hlen : v.sp.length * 32 ≤ 140737488355328) :
    Gives prog F_place_Log_Spots [.p lb 0] s (.sl ((spotsL v).map Spt.av) .no) s := by
  have hlt := hL.lt
  obtain ⟨tk, mb, A, rfl, h1, h2, h3⟩ := hL
  have hlb : lb < s.n := hlt lb (by simp)
  have hmb : mb < s.n := hlt mb (by simp)
  unfold logC at h1
  refine Runs.gives' (runs_e h_place_Log_Spots (Nat.le_of_ble_eq_true rfl) ?_) (flat_sl Spt.row _)
  refine st1 h1 ?_
  refine gv (ct_maps_Keys_Place) ?_
  refine st0 ?_
  refine giv (ct_sorted_Place (cb := s.n + 1 + 1) (b := mb) (enc := Plc.av) (A := A) (B := v.sp) (dz0) (dz1 h2) h3 hk (by omega)) (by simp) ?_
  refine st0 ?_
  refine gv (ct_slices_Values_int (xs := (v.sp.map (·.1)).map fun n => .v (.int .i64 n))) ?_
  refine st0 ?_
  have hit := it_slices_Values_int ((v.sp.map (·.1)).map fun n => .v (.int .i64 n)) (.ints _) (s.n + 1 + 1 + 1) (by simp; omega)
  refine w_rangeG (α := Tok) (β := Unit) (m := v.sp.length) (by simp) hit (by intro x hx; obtain ⟨p, _, rfl⟩ := List.mem_map.1 hx; rfl) (by simp) (fun k tk => (((s.alloc (.cells [.p lb 0])).alloc (.cells [.sl (((spotsL v).map Spt.av).take k) tk])).alloc (.cells [.m mb])).alloc (.cells [.sl ((v.sp.map (·.1)).map fun n => .v (.int .i64 n)) .no]))
    (fun k tk s' => May (s.n + 6) s' (((spotsL v).map Spt.av).take k) tk) (fun _ _ => s) (fun _ _ _ => False) .zero (by simp) (fun s' h => trivial) ?_ (fun k a s' o h => h.alloc o) (fun _ _ _ _ h => h) ?_ ?_ (fun _ _ _ _ _ h => h.elim)
  · intro k a s' _ h1 hg
    refine (hg.get (by simp)).trans ?_
    exact get_alloc_eq (by simp)
  · rintro LR LB LJ _ k hkk tk1 g' h1' hm
    have hk' : k < v.sp.length := by simpa using hkk
    have hTk : ((spotsL v).map Spt.av).take (k + 1) = ((spotsL v).map Spt.av).take k ++ [Spt.av ⟨v.g.id, v.sp[k].1, v.sp[k].2.sg, v.sp[k].2.at_⟩] := by
      have hk2 : k < (spotsL v).length := by simpa [spotsL] using hk'
      rw [take_snoc hk2]; simp [spotsL]
    refine st1 h1 ?_
    refine m_look (κ := Int) (A := A) (k := v.sp[k].1) (b := mb) (enc := Plc.av) (by simp) (dz1 h2) (by simp; rfl) ?_
    have hlk : lk A v.sp[k].1 = some v.sp[k].2 := by rw [h3.lk]; exact h3.srt.lk_mem (List.getElem_mem hk')
    have hlv : lkV Plc.av A v.sp[k].1 (.agg [.v (.int .i64 0), .v (.int .i64 0)]) false = v.sp[k].2.av := by unfold lkV; rw [hlk]; rfl
    rw [hlv]
    have hlS : (spotsL v).length = v.sp.length := by simp [spotsL]
    repeat (first | simp -dsimp -implicitDefEqProofs (disch := first | omega | (simp <;> omega) | fail) [Plc.cells] | ((with_reducible first | apply m_1 | apply m_0); (focus ((conv => lhs; simp -dsimp -implicitDefEqProofs (disch := first | omega | (simp <;> omega) | fail) [Plc.cells]); done))) | ((with_reducible first | apply i_T | apply g_T); (focus (simp -dsimp -implicitDefEqProofs (disch := first | omega | (simp <;> omega) | fail) [Plc.cells]; done))) | ((with_reducible first | apply i_F | apply g_F); (focus (simp -dsimp -implicitDefEqProofs (disch := first | omega | (simp <;> omega) | fail) [Plc.cells]; done))))
    refine m_app (xs := ((spotsL v).map Spt.av).take k) (tk := tk1) (ys := [Spt.av ⟨v.g.id, v.sp[k].1, v.sp[k].2.sg, v.sp[k].2.at_⟩]) (t2 := .zero) (B := _) (N := s.n + 6)
      (by simp) (by simp; rfl) ⟨g', rfl⟩ (by simp) (by simp) (hm.swap (by simp) (by simp)) (by rw [← List.map_take]; exact head_map Spt.row _) (by simp) (by simp; omega) (by simp; omega) ?_
    rintro s' tk2 hg2 hm2 _ _
    obtain ⟨g2, rfl⟩ := hg2
    refine st0 ?_
    refine ⟨tk2, by simp, ?_, ?_⟩
    · rw [hTk]; simp; exact ⟨_, rfl⟩
    · rw [hTk]; exact (by simpa using hm2 : May _ _ _ _).swap (by simp) (by simp)
  · rintro LR tk1 g2 h1' hm
    rw [List.take_of_length_le (by simp [spotsL])] at *
    refine st0 ?_
    refine ret_okD (by simp) (by simp) (by simp; rfl) ⟨?_, by simp [retVal]; exact AV.le_no _ _⟩
    simp only [killAll, List.foldl]
    simp
    exact (((((Grows.refl s).alloc _).alloc _).alloc _).alloc _).alloc _ |>.alloc _ |>.allocs _
end Go.Proofs.Ytmpoeamfcienoaa
end
section
namespace Go.Ab
set_option linter.unusedVariables false
theorem VOk.keys {i : Int} {v : LogV} (h : VOk i v) : ∀ x ∈ v.sp, -1 ≤ x.1 ∧ x.1 ≤ MI := fun x hx => by
  have hMI := MI_eq
  rcases h.key x hx with h1 | h1 | ⟨e, he, h1⟩
  · omega
  · omega
  · have := (okEnt_iff.1 (h.g.ok e he)).1; omega
end Go.Ab
end
section
namespace Go.Ab
def ACode.tl : ACode → ACode
  | .seq _ y => y
  | x => x
end Go.Ab
end
section
namespace Go.Ab
set_option linter.unusedVariables false
set_option linter.unusedSimpArgs false
theorem doS_id (g : Grp) (p : Prt) : (doS g p).id = g.id := by
  have h1 : ∀ (g : Grp) i t, (goneS g i t).id = g.id := fun g i t => by unfold goneS; split <;> rfl
  have h2 : ∀ (l : List Ent) (g : Grp), (l.foldl putS g).id = g.id := fun l => by
    induction l with
    | nil => intro g; rfl
    | cons e l ih => intro g; rw [List.foldl_cons, ih]; unfold putS; split <;> rfl
  unfold doS
  split
  · split
    · rfl
    split
    · rfl
    split
    · exact h1 _ _ _
    split
    · rw [h1]; split <;> rfl
    split
    · unfold fwdS; rw [h2]; split <;> split <;> first | rfl | exact h1 _ _ _
    · rfl
  · rfl
section
variable {look : Int → Option Plc} {p : Prt} {at_ : Plc}
theorem lk_nx0 (k : Int) (c : List (Int × Plc)) (i : Int) : lk (nx0 putL look k c) i = if i = k then (match look k with | some x => some x | none => lk c i) else lk c i := by
  unfold nx0
  cases look k with
  | none => simp
  | some x => simp [lk_put]
theorem lk_nx1s : ∀ {es : List Ent} (c : List (Int × Plc)) (i : Int), (es.Pairwise fun a b => a.ix < b.ix) →
    lk (es.foldl (nx1 putL look p at_) c) i = match es.find? (fun e => decide (e.ix = i)) with | some e => some (if broughtS p e = true then at_ else (look i).getD ⟨0, 0⟩) | none => lk c i
  | [], c, i, _ => rfl
  | e :: es, c, i, h => by
    obtain ⟨h1, h2⟩ := List.pairwise_cons.1 h
    rw [List.foldl_cons, lk_nx1s _ _ h2, List.find?_cons]
    have hc : lk (nx1 putL look p at_ c e) i = if i = e.ix then some (if broughtS p e = true then at_ else (look e.ix).getD ⟨0, 0⟩) else lk c i := by
      unfold nx1
      split
      · rw [lk_put, lk_put]; by_cases a : i = e.ix <;> simp [a]
      · rw [lk_put]
    by_cases a : e.ix = i
    · have : es.find? (fun e => decide (e.ix = i)) = none := List.find?_eq_none.2 fun x hx => by have := h1 x hx; simp; omega
      rw [this]
      simp only [hc, a]
      simp [a]
    · have : ¬ i = e.ix := fun e => a e.symm
      rw [hc, if_neg this]
      simp [a]
theorem lk_next (old now : Grp) (i : Int) (h : now.es.Pairwise fun a b => a.ix < b.ix) :
    lk (nextW putL look p at_ old now) i = if marksS p old now = true ∧ i = 0 then some at_ else if (p.kd = 2 ∨ p.he = true) ∧ i = -1 then some at_ else
      match now.es.find? (fun e => decide (e.ix = i)) with | some e => some (if broughtS p e = true then at_ else (look i).getD ⟨0, 0⟩) | none => if i = 0 ∨ i = -1 then look i else none := by
  unfold nextW
  have hI : lk (nxI putL look p at_ now.es) i = match now.es.find? (fun e => decide (e.ix = i)) with | some e => some (if broughtS p e = true then at_ else (look i).getD ⟨0, 0⟩) | none => if i = 0 ∨ i = -1 then look i else none := by
    unfold nxI
    rw [lk_nx1s _ _ h, lk_nx0, lk_nx0]
    cases now.es.find? (fun e => decide (e.ix = i)) with
    | some e => rfl
    | none =>
      by_cases a : i = 0
      · subst a; cases look 0 <;> simp
      · by_cases b : i = -1
        · subst b; cases look (-1) <;> simp
        · simp [a, b]
  unfold nxM nxH
  by_cases hm : marksS p old now = true
  · rw [if_pos hm, lk_put]
    by_cases a : i = 0
    · simp [hm, a]
    · rw [if_neg a, if_neg (fun h : marksS p old now = true ∧ i = 0 => a h.2)]
      by_cases hh : p.kd = 2 ∨ p.he = true
      · rw [if_pos hh, lk_put]
        by_cases b : i = -1
        · simp [hh, b]
        · rw [if_neg b, if_neg (fun h : (p.kd = 2 ∨ p.he = true) ∧ i = -1 => b h.2)]; exact hI
      · rw [if_neg hh, if_neg (fun h : (p.kd = 2 ∨ p.he = true) ∧ i = -1 => hh h.1)]; exact hI
  · rw [if_neg hm, if_neg (fun h : marksS p old now = true ∧ i = 0 => hm h.1)]
    by_cases hh : p.kd = 2 ∨ p.he = true
    · rw [if_pos hh, lk_put]
      by_cases b : i = -1
      · simp [hh, b]
      · rw [if_neg b, if_neg (fun h : (p.kd = 2 ∨ p.he = true) ∧ i = -1 => b h.2)]; exact hI
    · rw [if_neg hh, if_neg (fun h : (p.kd = 2 ∨ p.he = true) ∧ i = -1 => hh h.1)]; exact hI
end
theorem next_srt (look : Int → Option Plc) (p : Prt) (at_ : Plc) (old now : Grp) : Srt (nextW putL look p at_ old now) := (nextW_rep (look := look) (look' := look) (fun _ => rfl) p at_ old now).srt
end Go.Ab
end
section
namespace Go.Ab
set_option linter.unusedVariables false
set_option linter.unusedSimpArgs false
theorem has_of {es : List Ent} (h : es.Pairwise fun a b => a.ix < b.ix) {i : Int} {e : Ent} (he : e ∈ es) (hi : e.ix = i) : es.find? (fun e => decide (e.ix = i)) = some e := by
  induction es with
  | nil => cases he
  | cons x es ih =>
    obtain ⟨h1, h2⟩ := List.pairwise_cons.1 h
    rw [List.find?_cons]
    rcases List.mem_cons.1 he with rfl | he
    · simp [hi]
    · have := h1 e he
      have hx : ¬ x.ix = i := by omega
      simp only [hx, decide_false]
      exact ih h2 he
theorem VOk.new {id : Int} (h : 0 ≤ id ∧ id ≤ 999) : VOk id ⟨newG id, []⟩ := ⟨rfl, h, newG_spar h, .nil, by simp, by simp [newG]⟩
theorem VOk.do {i : Int} {v : LogV} (h : VOk i v) (p : Prt) (at_ : Plc) : VOk i (logDo v p at_) := by
  unfold logDo
  split
  case isFalse => exact h
  case isTrue hok =>
    have hS := h.g.doS p
    refine ⟨by rw [doS_id]; exact h.id, h.rng, hS, next_srt _ _ _ _ _, fun x hx => ?_, fun e he => ?_⟩
    · have hl := (next_srt (lk v.sp) p at_ v.g (doS v.g p)).lk_mem hx
      rw [lk_next _ _ _ hS.srt] at hl
      split at hl
      · next hc => exact .inr (.inl hc.2)
      split at hl
      · next hc => exact .inl hc.2
      split at hl
      · next e hf =>
        have := List.find?_some hf
        exact .inr (.inr ⟨e, List.mem_of_find?_eq_some hf, by simpa using (by simpa using this : e.ix = x.1).symm⟩)
      split at hl
      · next hc => rcases hc with hc | hc
                   · exact .inr (.inl hc)
                   · exact .inl hc
      · cases hl
    · have hl := lk_next (look := lk v.sp) (p := p) (at_ := at_) v.g (doS v.g p) e.ix hS.srt
      have hpos := (okEnt_iff.1 (hS.ok e he)).1
      rw [if_neg (fun hc => by have := hc.2; omega), if_neg (fun hc => by have := hc.2; omega), has_of hS.srt he rfl] at hl
      exact ⟨_, lk_mem hl, rfl⟩
end Go.Ab
end
section
namespace Go.Ab
open Go.RowKit Go.Proofs
set_option linter.unusedVariables false
set_option linter.unusedSimpArgs false
@[ext] structure Stp where
  l : List Prt
  sg : Int
  at_ : Int
  deriving DecidableEq, Inhabited
end Go.Ab
end
section
namespace Go.Ab
set_option linter.unusedVariables false
section
variable {P : Program} {g : FuncId} {args : List AV} {s : AState} {R K : AV → AState → Prop}
theorem runS (h : Runs (compCode P) P g (args.map AV.strip) s R) (k : ∀ x s', R x s' → K x s') : Lruns (compCode P) P g args s K .a := run (Runs.strip h) rfl k
end
def ACode.hd : ACode → ACode
  | .seq x _ => x
  | x => x
def ACode.inn : ACode → ACode
  | .block _ c => c
  | .loop c => c
  | x => x
end Go.Ab
end
section
namespace Go.Ab
set_option linter.unusedVariables false
set_option linter.unusedSimpArgs false
def findS (v : LogV) (i : Int) : Option Plc := if 0 < i then lk v.sp i else none
@[ext] structure StP where
  p : Prt
  pl : Plc
  cp : Bool
  deriving DecidableEq, Inhabited
@[simp] theorem Spt.eqE (x : Spt) (a b c d : Int) : eqAV (.agg [.i, .i, .i, .i]) x.av (.agg [.v (.int .i64 a), .v (.int .i64 b), .v (.int .i64 c), .v (.int .i64 d)]) = some (decide (x = ⟨a, b, c, d⟩)) := Spt.eq x ⟨a, b, c, d⟩
def kP1 : Prt := ⟨3, 1, [⟨1, 1, ⟨#[]⟩⟩, ⟨2, 1, ⟨#[]⟩⟩], 0, 0, 0, 0, 0, false, false⟩
def kP2 : Prt := ⟨3, 3, [], 0, 0, 0, 1, 1, false, false⟩
def kP3 : Prt := ⟨3, 6, [⟨2, 1, ⟨#[]⟩⟩], 0, 0, 0, 0, 0, false, false⟩
def kV1 : LogV := logDo ⟨newG 3, []⟩ kP1 ⟨1, 16⟩
def kV2 : LogV := logDo kV1 kP2 ⟨2, 20⟩
def kV3 : LogV := logDo kV2 kP3 ⟨4, 30⟩
theorem kV1_ok : VOk 3 kV1 := (VOk.new (by omega)).do _ _
theorem kV2_ok : VOk 3 kV2 := kV1_ok.do _ _
theorem kV3_ok : VOk 3 kV3 := kV2_ok.do _ _
theorem kV3_sp : spotsL kV3 = [⟨3, 0, 2, 20⟩, ⟨3, 2, 4, 30⟩] := by kernel_rfl
theorem kV3_g : kV3.g = ⟨3, 2, 1, 0, 0, 0, [⟨2, 1, ⟨#[]⟩⟩]⟩ := by kernel_rfl
theorem kV3_f2 : findS kV3 2 = some ⟨4, 30⟩ := by kernel_rfl
theorem kV3_f1 : findS kV3 1 = none := by kernel_rfl
end Go.Ab
namespace Go.Proofs.Ytmpoeamfcienoaa
open Go.Ab
set_option linter.unusedVariables false
set_option linter.unusedSimpArgs false
set_option maxRecDepth 100000
set_option maxHeartbeats 1000000
theorem ct_place_Log_Find {lb : Nat} {v : LogV} {F : List Nat} {i : Int} {s : AState} (hL : LogAt s lb v F) :
    Gives prog F_place_Log_Find [.p lb 0, .v (.int .i64 i)] s (.tup [((findS v i).getD ⟨0, 0⟩).av, .v (.bool (findS v i).isSome)]) s := by
  have hlt := hL.lt
  obtain ⟨tk, mb, A, rfl, h1, h2, h3⟩ := hL
  have hlb : lb < s.n := hlt lb (by simp)
  have hmb : mb < s.n := hlt mb (by simp)
  unfold logC at h1
  refine Runs.gives' (runs_e h_place_Log_Find (Nat.le_of_ble_eq_true rfl) ?_) (Flat.tup (by simp; exact ⟨(Plc.row _).flat, .v _⟩))
  by_cases hi : 0 < i
  · have hi' : ¬ i ≤ 0 := by omega
    refine st2 hi' h1 ?_
    refine m_look (κ := Int) (A := A) (k := i) (b := mb) (enc := Plc.av) (by simp) (dz1 h2) (by simp; rfl) ?_
    have hf : findS v i = lk A i := by unfold findS; rw [if_pos hi, h3.lk]
    have hlv : lkV Plc.av A i (.agg [.v (.int .i64 0), .v (.int .i64 0)]) true = .tup [((findS v i).getD ⟨0, 0⟩).av, .v (.bool (findS v i).isSome)] := by
      rw [hf]; unfold lkV; cases lk A i <;> rfl
    rw [hlv]
    refine st0 ?_
    refine ret_ok (by simp; rfl) ⟨?_, .refl _⟩
    (repeat (first | exact Grows.refl _ | with_reducible apply Grows.alloc | with_reducible apply Grows.allocs))
  · have hf : findS v i = none := by unfold findS; rw [if_neg hi]
    have hi' : i ≤ 0 := by omega
    rw [hf]
    refine st1 hi' ?_
    refine ret_ok (by simp; rfl) ⟨?_, .refl _⟩
    (repeat (first | exact Grows.refl _ | with_reducible apply Grows.alloc | with_reducible apply Grows.allocs))
theorem ct_ladelaw13_known {s : AState} : Gives prog F_ladelaw13_known [] s (.v (.bool true)) s := by
  refine Runs.gives (runs_e h_ladelaw13_known (Nat.le_of_ble_eq_true rfl) ?_) (.v _)
  have hMI := MI_eq
  refine st0 ?_
  refine rn0 (rn_place_New) ?_
  rintro _ s1 ⟨lb, rfl, h1, h2, h3⟩
  refine st0 ?_
  refine runS (rn_place_Log_Do (p := kP1) (at_ := ⟨1, 16⟩) h1 (newG_spar (by omega)) (by decide)) ?_
  rintro _ s2 ⟨F2, h4, h5⟩
  refine st0 ?_
  refine runS (rn_place_Log_Do (v := kV1) (p := kP2) (at_ := ⟨2, 20⟩) h4 kV1_ok.g (by decide)) ?_
  rintro _ s3 ⟨F3, h6, h7⟩
  refine st0 ?_
  refine runS (rn_place_Log_Do (v := kV2) (p := kP3) (at_ := ⟨4, 30⟩) h6 kV2_ok.g (by decide)) ?_
  rintro _ s4 ⟨F4, h8, h9⟩
  have hsp : kV3.sp.length = 2 := by have := congrArg List.length kV3_sp; simpa [spotsL] using this
  refine st0 ?_
  refine gv (ct_place_Log_Spots (v := kV3) h8 (fun x hx => by have := kV3_ok.keys x hx; omega) (by omega)) ?_
  rw [kV3_sp]
  refine st0 ?_
  refine gv (ct_place_Log_Find (v := kV3) (i := 2) h8) ?_
  rw [kV3_f2]
  refine st0 ?_
  refine gv (ct_place_Log_Find (v := kV3) (i := 1) (h8.keep fun x hx => by have := h8.lt x hx; simp (disch := first | omega | (simp <;> omega) | fail))) ?_
  rw [kV3_f1]
  refine st0 ?_
  have h10 : LogAt ((s4.alloc (.cells [.v (.int .i64 4), .v (.int .i64 30)])).alloc (.cells [.v (.int .i64 0), .v (.int .i64 0)])) lb kV3 F4 := h8.keep fun x hx => by have := h8.lt x hx; simp (disch := first | omega | (simp <;> omega) | fail)
  refine gv (ct_place_Log_Group h10 (by rw [kV3_g]; decide)) ?_
  rw [kV3_g, show Grp.av ⟨3, 2, 1, 0, 0, 0, [⟨2, 1, ⟨#[]⟩⟩]⟩ = .agg [.v (.int .i64 3), .v (.int .i64 2), .v (.int .i64 1), .v (.int .i64 0), .v (.int .i64 0), .v (.int .i64 0), .sl [Ent.av ⟨2, 1, ⟨#[]⟩⟩] .no] from rfl]
  refine st0 ?_
  refine rn0 (rn_place_Log_Copy h10) ?_
  rintro _ s5 ⟨lb', F', rfl, k1, k2, k3⟩
  refine st0 ?_
  refine gv (ct_place_Log_Spots (v := kV3) k1 (fun x hx => by have := kV3_ok.keys x hx; omega) (by omega)) ?_
  rw [kV3_sp]
  refine st0 ?_
  have m4 : Mut [] F4 s s4 := ((Mut.new h3 (by simp; omega)).trans h5).trans (h7.trans h9)
  have m5 := ((m4.trans (.grows (((Grows.refl s4).alloc _).alloc _))).trans (.grows k2))
  exact ret_ok rfl ⟨⟨m5.n, fun x hx => .inl (m5.keep x hx (by simp)).symm⟩, .refl _⟩
end Go.Proofs.Ytmpoeamfcienoaa
end
section
namespace Go.Ab
set_option linter.unusedVariables false
set_option linter.unusedSimpArgs false
theorem spotsL_len (v : LogV) : (spotsL v).length = v.sp.length := by simp [spotsL]
end Go.Ab
end
section
namespace Go.Ab
set_option linter.unusedVariables false
set_option linter.unusedSimpArgs false
def reG (i : Int) (g : Grp) : Grp := { g with id := i }
def reP (i : Int) (p : Prt) : Prt := { p with gr := i }
def reV (i : Int) (v : LogV) : LogV := ⟨reG i v.g, v.sp⟩
theorem core_re (i : Int) (p : Prt) : core (reP i p) = reP i (core p) := by
  unfold core reP
  simp only
  split
  · rfl
  split
  · rfl
  split
  · rfl
  split <;> rfl
theorem core_gr (p : Prt) : (core p).gr = p.gr := by
  unfold core
  simp only
  split
  · rfl
  split
  · rfl
  split
  · rfl
  split <;> rfl
theorem isPart_re {i : Int} (h : 0 ≤ i ∧ i ≤ 999) {p : Prt} (hp : p.gr = 0) : isPart (reP i p) = isPart p := by
  have e1 : decide (reP i p = core (reP i p)) = decide (p = core p) := by
    rw [core_re]
    refine decide_eq_decide.2 ⟨fun h => ?_, fun h => congrArg (reP i) h⟩
    have hg := core_gr p
    rw [Prt.ext_iff] at h ⊢
    simp only [reP] at h
    exact ⟨hg.symm, h.2⟩
  have e2 : btw (reP i p).gr 0 999 = btw p.gr 0 999 := by
    have : (reP i p).gr = i := rfl
    rw [this, hp]
    simp [btw, h.1, h.2]
  unfold isPart
  rw [e1, e2]; rfl
theorem re_ite (i : Int) (c : Prop) [Decidable c] (x y : Grp) : (if c then reG i x else reG i y) = reG i (if c then x else y) := by split <;> rfl
theorem goneS_re (i : Int) (g : Grp) (a b : Int) : goneS (reG i g) a b = reG i (goneS g a b) := re_ite i (a < g.fi) g { g with es := g.es.filter (inR (a + 1) (MI + 1)), fi := a + 1, tm := if b = 0 then termOf g.es a else b }
theorem putS_re (i : Int) (g : Grp) (e : Ent) : putS (reG i g) e = reG i (putS g e) := re_ite i (e.ix < g.fi ∨ hasIx g.es e.ix = true) g { g with es := g.es.filter (inR g.fi e.ix) ++ e :: g.es.filter (inR e.ix (MI + 1)) }
theorem puts_re (i : Int) (l : List Ent) : ∀ g : Grp, l.foldl putS (reG i g) = reG i (l.foldl putS g) := by
  induction l with
  | nil => intro g; rfl
  | cons e l ih => intro g; rw [List.foldl_cons, List.foldl_cons, putS_re, ih]
theorem doS_re {i : Int} (h : 0 ≤ i ∧ i ≤ 999) {g : Grp} {p : Prt} (hp : p.gr = 0) (hg : g.id = 0) : doS (reG i g) (reP i p) = reG i (doS g p) := by
  have e1 : (isPart (reP i p) = true ∧ (reP i p).gr = (reG i g).id) ↔ (isPart p = true ∧ p.gr = g.id) := by
    rw [isPart_re h hp, hp, hg]
    simp [reP, reG]
  unfold doS
  by_cases hc : isPart p = true ∧ p.gr = g.id
  · rw [if_pos hc, if_pos (e1.2 hc)]
    show (if p.kd = 1 then _ else if p.kd = 2 then _ else if p.kd = 3 then _ else if p.kd = 4 then _ else if p.kd = 6 then _ else _) = reG i (if p.kd = 1 then _ else if p.kd = 2 then _ else if p.kd = 3 then _ else if p.kd = 4 then _ else if p.kd = 6 then _ else _)
    split
    · rfl
    split
    · rfl
    split
    · exact goneS_re _ _ _ _
    split
    · rw [← goneS_re]
      congr 1
      show (if g.fi ≤ p.ix then _ else _) = reG i (if g.fi ≤ p.ix then _ else _)
      split <;> rfl
    split
    · unfold fwdS
      show p.es.foldl putS _ = reG i (p.es.foldl putS _)
      rw [← puts_re]
      congr 1
      show (if p.he = true then _ else _) = reG i (if p.he = true then _ else _)
      have e2 : (if p.mr = true then goneS (reG i g) p.ix p.tm else reG i g) = reG i (if p.mr = true then goneS g p.ix p.tm else g) := by
        split
        · exact goneS_re _ _ _ _
        · rfl
      split
      · show { (if p.mr = true then goneS (reG i g) p.ix p.tm else reG i g) with ht := p.ht, hv := p.hv, hc := p.hc } = _
        rw [e2]; rfl
      · exact e2
    · rfl
  · rw [if_neg hc, if_neg (fun h => hc (e1.1 h))]
theorem logDo_re {i : Int} (h : 0 ≤ i ∧ i ≤ 999) {v : LogV} {p : Prt} (hp : p.gr = 0) (hg : v.g.id = 0) (at_ : Plc) : logDo (reV i v) (reP i p) at_ = reV i (logDo v p at_) := by
  have e1 : okDo (reV i v).g (reP i p) = okDo v.g p := by
    unfold okDo
    rw [isPart_re h hp]
    have : decide ((reP i p).gr = (reV i v).g.id) = decide (p.gr = v.g.id) := by rw [hp, hg]; simp [reP, reV, reG]
    rw [this]; rfl
  unfold logDo
  rw [e1]
  split
  · have e2 : doS (reV i v).g (reP i p) = reG i (doS v.g p) := doS_re h hp hg
    rw [e2]; rfl
  · rfl
def pmEnt (i : Nat) : Ent := ⟨4 + i, 2, ⟨#[]⟩⟩
def pmEs (k : Nat) : List Ent := (List.range k).map pmEnt
def pmFs (k w : Nat) : List Ent := ((List.range k).filter fun i => w.testBit i).map pmEnt
def pmS (i : Int) : Prt := ⟨i, 4, [], 0, 0, 0, 3, 1, false, false⟩
def pmH (i : Int) : Prt := ⟨i, 2, [], 5, 0, 0, 0, 0, false, false⟩
def pmA (i : Int) (k : Nat) : Prt := ⟨i, 1, pmEs k, 0, 0, 0, 0, 0, false, false⟩
def pmF (i : Int) (k w : Nat) (mark head : Bool) : Prt := ⟨i, 6, pmFs k w, if head = true then 5 else 0, 0, 0, if mark = true then 3 else 0, if mark = true then 1 else 0, mark, head⟩
def pmV1 (i : Int) : LogV := logDo ⟨newG i, []⟩ (pmS i) ⟨1, 16⟩
def pmV2 (i : Int) : LogV := logDo (pmV1 i) (pmH i) ⟨1, 40⟩
def pmV3 (i : Int) (k : Nat) : LogV := logDo (pmV2 i) (pmA i k) ⟨1, 60⟩
def pmV4 (i : Int) (k w : Nat) (mark head : Bool) : LogV := logDo (pmV3 i k) (pmF i k w mark head) ⟨9, 99⟩
def pmSpot (k w : Nat) (mark head : Bool) (x : Int × Plc) : Bool :=
  let none := !mark && !head && (pmFs k w).isEmpty
  let want := if x.1 = -1 then head else if x.1 = 0 then mark else w.testBit (x.1 - 4).toNat
  let moved := decide (x.2 = ⟨9, 99⟩)
  decide (moved = (want && !none)) && (moved || decide (x.2.sg = 1)) && (decide (x.1 = -1) || decide (x.1 = 0) || decide (4 ≤ x.1) && decide (x.1 < 4 + k))
def pmOk (k w : Nat) (mark head : Bool) : Bool :=
  decide ((pmV4 0 k w mark head).g.fi = (pmV3 0 k).g.fi) && decide ((pmV4 0 k w mark head).g.es.length = k) && decide ((pmV4 0 k w mark head).sp.length = k + 2) && (pmV4 0 k w mark head).sp.all (pmSpot k w mark head)
theorem pm_all : ∀ k < 6, ∀ w < 2 ^ (k + 1), ∀ mark head : Bool, pmOk (k + 1) w mark head = true := by decide +kernel
theorem pmV_ok {i : Int} (h : 0 ≤ i ∧ i ≤ 999) (k : Nat) : VOk i (pmV1 i) ∧ VOk i (pmV2 i) ∧ VOk i (pmV3 i k) :=
  ⟨(VOk.new h).do _ _, ((VOk.new h).do _ _).do _ _, (((VOk.new h).do _ _).do _ _).do _ _⟩
theorem pmV4_ok {i : Int} (h : 0 ≤ i ∧ i ≤ 999) (k w : Nat) (mark head : Bool) : VOk i (pmV4 i k w mark head) := (pmV_ok h k).2.2.do _ _
theorem pm_re {i : Int} (h : 0 ≤ i ∧ i ≤ 999) (k w : Nat) (mark head : Bool) : pmV3 i k = reV i (pmV3 0 k) ∧ pmV4 i k w mark head = reV i (pmV4 0 k w mark head) := by
  have o := pmV_ok (i := 0) (by omega) k
  have e1 : pmV1 i = reV i (pmV1 0) := logDo_re h (v := ⟨newG 0, []⟩) (p := pmS 0) rfl rfl _
  have e2 : pmV2 i = reV i (pmV2 0) := by
    have := logDo_re h (v := pmV1 0) (p := pmH 0) rfl o.1.id ⟨1, 40⟩
    rw [← e1] at this; exact this
  have e3 : pmV3 i k = reV i (pmV3 0 k) := by
    have := logDo_re h (v := pmV2 0) (p := pmA 0 k) rfl o.2.1.id ⟨1, 60⟩
    rw [← e2] at this; exact this
  refine ⟨e3, ?_⟩
  have := logDo_re h (v := pmV3 0 k) (p := pmF 0 k w mark head) rfl o.2.2.id ⟨9, 99⟩
  rw [← e3] at this; exact this
theorem pmFs_mod (k w : Nat) : pmFs k (w % 2 ^ k) = pmFs k w := by
  unfold pmFs
  congr 1
  refine List.filter_congr fun i hi => ?_
  rw [Nat.testBit_mod_two_pow]
  simp [List.mem_range.1 hi]
structure PmF (k w : Nat) (mark head : Bool) (v3 v4 : LogV) : Prop where
  fi : v4.g.fi = v3.g.fi
  es : v4.g.es.length = k
  sp : v4.sp.length = k + 2
  at_ : ∀ x ∈ v4.sp, pmSpot k w mark head x = true
theorem pm_facts {i : Int} (h : 0 ≤ i ∧ i ≤ 999) {k : Nat} (hk : k < 6) (w : Nat) (mark head : Bool) : PmF (k + 1) w mark head (pmV3 i (k + 1)) (pmV4 i (k + 1) w mark head) := by
  obtain ⟨e3, e4⟩ := pm_re h (k + 1) w mark head
  have ha := pm_all k hk (w % 2 ^ (k + 1)) (Nat.mod_lt _ (Nat.two_pow_pos _)) mark head
  have e5 : pmV4 0 (k + 1) (w % 2 ^ (k + 1)) mark head = pmV4 0 (k + 1) w mark head := by unfold pmV4 pmF; rw [pmFs_mod]
  unfold pmOk at ha
  rw [e5] at ha
  simp only [Bool.and_eq_true, decide_eq_true_eq, List.all_eq_true] at ha
  obtain ⟨⟨⟨a1, a2⟩, a3⟩, a4⟩ := ha
  rw [e3, e4]
  refine ⟨a1, a2, a3, fun x hx => ?_⟩
  have := a4 x hx
  unfold pmSpot at this ⊢
  rw [pmFs_mod] at this
  simp only [Bool.and_eq_true, Bool.or_eq_true, decide_eq_true_eq] at this ⊢
  obtain ⟨⟨b1, b2⟩, b3⟩ := this
  refine ⟨⟨?_, b2⟩, b3⟩
  rw [b1]
  congr 1
  split
  · rfl
  split
  · rfl
  · rw [Nat.testBit_mod_two_pow]
    have : (x.1 - 4).toNat < k + 1 := by omega
    simp [this]
theorem pmEs_snoc (k : Nat) : pmEs (k + 1) = pmEs k ++ [pmEnt k] := by unfold pmEs; rw [List.range_succ, List.map_append]; rfl
theorem pmFs_snoc (k w : Nat) : pmFs (k + 1) w = pmFs k w ++ if w.testBit k = true then [pmEnt k] else [] := by
  unfold pmFs; rw [List.range_succ, List.filter_append, List.map_append]; cases h : w.testBit k <;> simp [h]
theorem pmEs_len (k : Nat) : (pmEs k).length = k := by simp [pmEs]
theorem pmFs_len (k w : Nat) : (pmFs k w).length ≤ k := by
  unfold pmFs; rw [List.length_map]; have := List.length_filter_le (fun i => w.testBit i) (List.range k); simpa using this
theorem pmEs_get {k i : Nat} (h : i < k) : (pmEs k)[i]'(by rw [pmEs_len]; exact h) = pmEnt i := by simp [pmEs]
theorem shr2 {w i : Nat} (hw : w < 65536) : (IntKind.wrap .u16 ((((w : Int).fdiv (2 ^ i) % 2 ^ IntKind.u16.bits).toNat &&& 1 % 2 ^ IntKind.u16.bits : Nat) : Int) == 1) = w.testBit i := by
  have e1 : (w : Int).fdiv (2 ^ i) = ((w >>> i : Nat) : Int) := by
    rw [Nat.shiftRight_eq_div_pow]
    have : ((2 : Int) ^ i) = ((2 ^ i : Nat) : Int) := by simp
    rw [this, Int.fdiv_eq_ediv_of_nonneg _ (Int.natCast_nonneg _)]
    rfl
  have hlt : w >>> i < 65536 := Nat.lt_of_le_of_lt (Nat.shiftRight_le _ _) hw
  have e2 : (2 : Int) ^ IntKind.u16.bits = 65536 := rfl
  have e4 : (1 % 2 ^ IntKind.u16.bits : Nat) = 1 := rfl
  have e5 : w.testBit i = decide (w >>> i % 2 = 1) := by
    rw [Nat.shiftRight_eq_div_pow]; exact Nat.testBit_eq_decide_div_mod_eq
  rw [e5, e1, e2, e4]
  generalize w >>> i = q at hlt ⊢
  have e6 : ((q : Int) % 65536).toNat = q := by omega
  rw [e6, Nat.and_one_is_mod]
  rcases Nat.mod_two_eq_zero_or_one q with h | h <;> rw [h] <;> rfl
end Go.Ab
end
section
namespace Go.Proofs.Ytmpoeamfcienoaa
open Go.Ab
set_option linter.unusedVariables false
set_option linter.unusedSimpArgs false
set_option maxRecDepth 100000
set_option maxHeartbeats 1000000
def pmT : ACode := A_ladelaw13_PlaceMoves.body.tl.tl.tl.tl.tl.tl.tl.tl.tl.tl.tl.tl.tl.tl.tl
abbrev pmQ (s0 : AState) : Exit → AAct → AState → Prop := fnQ [ARes.tmp 10] (fun x s' => s0.sub s' ∧ x.le (.v (.bool true)))
def pmU : ACode := pmT.tl.tl.tl.tl
def pmB : ACode := pmU.hd.tl.inn.inn.tl.hd.inn
def pmV : ACode := pmB.tl.tl.tl
section
variable {e : List (Nat × AV)} {s0 s : AState} {j k w : Nat} {mark head B W none : Bool} {v : LogV} {Q : Exit → AAct → AState → Prop}
theorem pm_V (g18 : Ab.get e 18 = .sl ((spotsL v).map Spt.av) .no) (g19 : Ab.get e 19 = .v (.bool none)) (g20 : Ab.get e 20 = .v (.int .i64 j)) (g21 : Ab.get e 21 = .v (.bool B)) (g22 : Ab.get e 22 = .v (.bool W)) (hj : j < (spotsL v).length)
    (hB : B = (W && !none)) (hs : B = true ∨ (spotsL v)[j].sg = 1) (hQ : ∀ e', Ab.get e' 2 = Ab.get e 2 → Ab.get e' 3 = Ab.get e 3 → Ab.get e' 4 = Ab.get e 4 → Ab.get e' 18 = Ab.get e 18 → Ab.get e' 19 = Ab.get e 19 → Ab.get e' 20 = Ab.get e 20 → Q .normal { t := den 196 e', d := [] } s) :
    wp prog .none pmV Q { t := den 196 e, d := [] } s := by
  simp only [pmV, pmB, pmU, pmT, A_ladelaw13_PlaceMoves, ACode.tl, ACode.hd, ACode.inn]
  cases W with
  | false =>
    obtain rfl : B = false := by rw [hB]; rfl
    have hs : (spotsL v)[j].sg = 1 := by simpa using hs
    repeat (first | simp -dsimp -implicitDefEqProofs (disch := first | omega | (simp <;> omega) | fail) [g18, g19, g20, g21, g22, hj, hs] | ((with_reducible first | apply m_1 | apply m_0); (focus ((conv => lhs; simp -dsimp -implicitDefEqProofs (disch := first | omega | (simp <;> omega) | fail) [g18, g19, g20, g21, g22, hj, hs]); done))) | ((with_reducible first | apply i_T | apply g_T); (focus (simp -dsimp -implicitDefEqProofs (disch := first | omega | (simp <;> omega) | fail) [g18, g19, g20, g21, g22, hj, hs]; done))) | ((with_reducible first | apply i_F | apply g_F); (focus (simp -dsimp -implicitDefEqProofs (disch := first | omega | (simp <;> omega) | fail) [g18, g19, g20, g21, g22, hj, hs]; done))))
    exact hQ _ (by simp) (by simp) (by simp) (by simp) (by simp) (by simp)
  | true =>
    cases none with
    | true =>
      obtain rfl : B = false := by rw [hB]; rfl
      have hs : (spotsL v)[j].sg = 1 := by simpa using hs
      repeat (first | simp -dsimp -implicitDefEqProofs (disch := first | omega | (simp <;> omega) | fail) [g18, g19, g20, g21, g22, hj, hs] | ((with_reducible first | apply m_1 | apply m_0); (focus ((conv => lhs; simp -dsimp -implicitDefEqProofs (disch := first | omega | (simp <;> omega) | fail) [g18, g19, g20, g21, g22, hj, hs]); done))) | ((with_reducible first | apply i_T | apply g_T); (focus (simp -dsimp -implicitDefEqProofs (disch := first | omega | (simp <;> omega) | fail) [g18, g19, g20, g21, g22, hj, hs]; done))) | ((with_reducible first | apply i_F | apply g_F); (focus (simp -dsimp -implicitDefEqProofs (disch := first | omega | (simp <;> omega) | fail) [g18, g19, g20, g21, g22, hj, hs]; done))))
      exact hQ _ (by simp) (by simp) (by simp) (by simp) (by simp) (by simp)
    | false =>
      obtain rfl : B = true := by rw [hB]; rfl
      repeat (first | simp -dsimp -implicitDefEqProofs (disch := first | omega | (simp <;> omega) | fail) [g18, g19, g20, g21, g22, hj] | ((with_reducible first | apply m_1 | apply m_0); (focus ((conv => lhs; simp -dsimp -implicitDefEqProofs (disch := first | omega | (simp <;> omega) | fail) [g18, g19, g20, g21, g22, hj]); done))) | ((with_reducible first | apply i_T | apply g_T); (focus (simp -dsimp -implicitDefEqProofs (disch := first | omega | (simp <;> omega) | fail) [g18, g19, g20, g21, g22, hj]; done))) | ((with_reducible first | apply i_F | apply g_F); (focus (simp -dsimp -implicitDefEqProofs (disch := first | omega | (simp <;> omega) | fail) [g18, g19, g20, g21, g22, hj]; done))))
      exact hQ _ (by simp) (by simp) (by simp) (by simp) (by simp) (by simp)
theorem pm_U (hk : k < 6) (hw : w < 65536) (g2 : Ab.get e 2 = .v (.bool mark)) (g3 : Ab.get e 3 = .v (.bool head)) (g4 : Ab.get e 4 = .v (.int .u16 w)) (g18 : Ab.get e 18 = .sl ((spotsL v).map Spt.av) .no) (g19 : Ab.get e 19 = .v (.bool (!mark && !head && (pmFs (k + 1) w).isEmpty)))
    (hf : ∀ x ∈ v.sp, pmSpot (k + 1) w mark head x = true) (hl : (spotsL v).length ≤ 1000) (hn : s0.n ≤ s.n) (hold : ∀ x, x < s0.n → s.get x = s0.get x) :
    wp prog .none pmU (pmQ s0) { t := den 196 e, d := [] } s := by
  obtain ⟨T, hT⟩ : ∃ T, T = pmV := ⟨_, rfl⟩
  have hT2 := hT
  simp only [pmV, pmB, pmU, pmT, A_ladelaw13_PlaceMoves, ACode.tl, ACode.hd, ACode.inn] at hT2
  simp only [pmU, pmT, A_ladelaw13_PlaceMoves, ACode.tl]
  rw [← hT2]
  clear hT2
  generalize hnone : (!mark && !head && (pmFs (k + 1) w).isEmpty) = none at g19
  repeat (first | simp -dsimp -implicitDefEqProofs (disch := first | omega | (simp <;> omega) | fail) | ((with_reducible first | apply m_1 | apply m_0); (focus ((conv => lhs; simp -dsimp -implicitDefEqProofs (disch := first | omega | (simp <;> omega) | fail)); done))) | ((with_reducible first | apply i_T | apply g_T); (focus (simp -dsimp -implicitDefEqProofs (disch := first | omega | (simp <;> omega) | fail); done))) | ((with_reducible first | apply i_F | apply g_F); (focus (simp -dsimp -implicitDefEqProofs (disch := first | omega | (simp <;> omega) | fail); done))))
  refine loop_ok [2, 3, 4, 18, 19, 20] (fun r a s1 => ∃ j : Nat, j + r = (spotsL v).length ∧ s = s1 ∧
    a = { t := den 196 [(2, .v (.bool mark)), (3, .v (.bool head)), (4, .v (.int .u16 w)), (18, .sl ((spotsL v).map Spt.av) .no), (19, .v (.bool none)), (20, .v (.int .i64 j))], d := [] }) (spotsL v).length ?_ ?_
  · exact ⟨0, by simp, rfl, by simp [g2, g3, g4, g18, g19]⟩
  rintro r a _ ⟨j, hjr, rfl, rfl⟩
  by_cases hlt : j < (spotsL v).length
  · have w3 : IntKind.wrap .i64 ((j : Int) + 1) = (j : Int) + 1 := wrap_i64 (by omega) (by omega)
    have hlt2 : j < v.sp.length := by have := spotsL_len v; omega
    have hx := hf _ (List.getElem_mem hlt2)
    have e1 : (spotsL v)[j].ix = v.sp[j].1 := by simp [spotsL]
    have e2 : (spotsL v)[j].sg = v.sp[j].2.sg := by simp [spotsL]
    have e3 : (spotsL v)[j].at_ = v.sp[j].2.at_ := by simp [spotsL]
    unfold pmSpot at hx
    simp only [hnone, Bool.and_eq_true, Bool.or_eq_true, decide_eq_true_eq] at hx
    obtain ⟨⟨b1, b2⟩, b3⟩ := hx
    have e4 : decide (v.sp[j].2 = ⟨9, 99⟩) = ((spotsL v)[j].sg == 9 && (spotsL v)[j].at_ == 99) := by
      rw [e2, e3, Bool.eq_iff_iff]; simp [Plc.ext_iff]
    rw [e4] at b1
    rw [← e2] at b2
    have b2' : ((spotsL v)[j].sg == 9 && (spotsL v)[j].at_ == 99) = true ∨ (spotsL v)[j].sg = 1 := by rw [← e4]; simpa using b2
    clear e4 b2
    rw [← e1] at b1 b3
    generalize hB : ((spotsL v)[j].sg == 9 && (spotsL v)[j].at_ == 99) = B at b1 b2'
    have fin : ∀ (e' : List (Nat × AV)) (W : Bool), B = (W && !none) → Ab.get e' 2 = .v (.bool mark) → Ab.get e' 3 = .v (.bool head) → Ab.get e' 4 = .v (.int .u16 w) → Ab.get e' 18 = .sl ((spotsL v).map Spt.av) .no → Ab.get e' 19 = .v (.bool none) → Ab.get e' 20 = .v (.int .i64 j) → Ab.get e' 21 = .v (.bool B) → Ab.get e' 22 = .v (.bool W) → ∀ Q, (∀ e', Ab.get e' 2 = .v (.bool mark) → Ab.get e' 3 = .v (.bool head) → Ab.get e' 4 = .v (.int .u16 w) → Ab.get e' 18 = .sl ((spotsL v).map Spt.av) .no → Ab.get e' 19 = .v (.bool none) → Ab.get e' 20 = .v (.int .i64 j) → Q Exit.normal { t := den 196 e', d := [] } s) →
        wp prog .none T Q { t := den 196 e', d := [] } s := fun e' W h k2 k3 k4 k18 k19 k20 k21 k22 Q hQ => by
      rw [hT]
      exact pm_V k18 k19 k20 k21 k22 hlt h b2' fun e2 m2 m3 m4 m18 m19 m20 => hQ e2 (m2.trans k2) (m3.trans k3) (m4.trans k4) (m18.trans k18) (m19.trans k19) (m20.trans k20)
    by_cases c1 : (spotsL v)[j].ix = -1
    · rw [if_pos c1] at b1
      repeat (first | simp -dsimp -implicitDefEqProofs (disch := first | omega | (simp <;> omega) | fail) [hlt, c1, hB] | ((with_reducible first | apply m_1 | apply m_0); (focus ((conv => lhs; simp -dsimp -implicitDefEqProofs (disch := first | omega | (simp <;> omega) | fail) [hlt, c1, hB]); done))) | ((with_reducible first | apply i_T | apply g_T); (focus (simp -dsimp -implicitDefEqProofs (disch := first | omega | (simp <;> omega) | fail) [hlt, c1, hB]; done))) | ((with_reducible first | apply i_F | apply g_F); (focus (simp -dsimp -implicitDefEqProofs (disch := first | omega | (simp <;> omega) | fail) [hlt, c1, hB]; done))))
      refine fin _ head b1 (by simp) (by simp) (by simp) (by simp) (by simp) (by simp) (by simp) (by simp) _ ?_
      intro e' k2 k3 k4 k18 k19 k20
      repeat (first | simp -dsimp -implicitDefEqProofs (disch := first | omega | (simp <;> omega) | fail) [k2, k3, k4, k18, k19, k20] | ((with_reducible first | apply m_1 | apply m_0); (focus ((conv => lhs; simp -dsimp -implicitDefEqProofs (disch := first | omega | (simp <;> omega) | fail) [k2, k3, k4, k18, k19, k20]); done))) | ((with_reducible first | apply i_T | apply g_T); (focus (simp -dsimp -implicitDefEqProofs (disch := first | omega | (simp <;> omega) | fail) [k2, k3, k4, k18, k19, k20]; done))) | ((with_reducible first | apply i_F | apply g_F); (focus (simp -dsimp -implicitDefEqProofs (disch := first | omega | (simp <;> omega) | fail) [k2, k3, k4, k18, k19, k20]; done))))
      exact ⟨r - 1, by omega, j + 1, by omega, rfl, by simp [k2, k3, k4, k18, k19, w3]⟩
    by_cases c2 : (spotsL v)[j].ix = 0
    · rw [if_neg c1, if_pos c2] at b1
      repeat (first | simp -dsimp -implicitDefEqProofs (disch := first | omega | (simp <;> omega) | fail) [hlt, c1, c2, hB] | ((with_reducible first | apply m_1 | apply m_0); (focus ((conv => lhs; simp -dsimp -implicitDefEqProofs (disch := first | omega | (simp <;> omega) | fail) [hlt, c1, c2, hB]); done))) | ((with_reducible first | apply i_T | apply g_T); (focus (simp -dsimp -implicitDefEqProofs (disch := first | omega | (simp <;> omega) | fail) [hlt, c1, c2, hB]; done))) | ((with_reducible first | apply i_F | apply g_F); (focus (simp -dsimp -implicitDefEqProofs (disch := first | omega | (simp <;> omega) | fail) [hlt, c1, c2, hB]; done))))
      refine fin _ mark b1 (by simp) (by simp) (by simp) (by simp) (by simp) (by simp) (by simp) (by simp) _ ?_
      intro e' k2 k3 k4 k18 k19 k20
      repeat (first | simp -dsimp -implicitDefEqProofs (disch := first | omega | (simp <;> omega) | fail) [k2, k3, k4, k18, k19, k20] | ((with_reducible first | apply m_1 | apply m_0); (focus ((conv => lhs; simp -dsimp -implicitDefEqProofs (disch := first | omega | (simp <;> omega) | fail) [k2, k3, k4, k18, k19, k20]); done))) | ((with_reducible first | apply i_T | apply g_T); (focus (simp -dsimp -implicitDefEqProofs (disch := first | omega | (simp <;> omega) | fail) [k2, k3, k4, k18, k19, k20]; done))) | ((with_reducible first | apply i_F | apply g_F); (focus (simp -dsimp -implicitDefEqProofs (disch := first | omega | (simp <;> omega) | fail) [k2, k3, k4, k18, k19, k20]; done))))
      exact ⟨r - 1, by omega, j + 1, by omega, rfl, by simp [k2, k3, k4, k18, k19, w3]⟩
    rw [if_neg c1, if_neg c2] at b1
    obtain ⟨i, hi⟩ : ∃ i : Nat, (spotsL v)[j].ix = 4 + i := ⟨((spotsL v)[j].ix - 4).toNat, by omega⟩
    have hi2 : ((spotsL v)[j].ix - 4).toNat = i := by omega
    rw [hi2] at b1
    have u1 : IntKind.wrap .i64 ((spotsL v)[j].ix - 4) = (i : Int) := by rw [wrap_i64 (by omega) (by omega)]; omega
    have u2 : IntKind.wrap .u64 (i : Int) = (i : Int) := by rw [IntKind.wrap_u64]; omega
    have u3 := shr2 (i := i) hw
    have n1 : ¬ (i : Int) < 0 := by omega
    have u4 : min i IntKind.u16.bits = i := by show min i 16 = i; omega
    repeat (first | simp -dsimp -implicitDefEqProofs (disch := first | omega | (simp <;> omega) | fail) [hlt, c1, c2, hB, u1, u2, n1, u4] | ((with_reducible first | apply m_1 | apply m_0); (focus ((conv => lhs; simp -dsimp -implicitDefEqProofs (disch := first | omega | (simp <;> omega) | fail) [hlt, c1, c2, hB, u1, u2, n1, u4]); done))) | ((with_reducible first | apply i_T | apply g_T); (focus (simp -dsimp -implicitDefEqProofs (disch := first | omega | (simp <;> omega) | fail) [hlt, c1, c2, hB, u1, u2, n1, u4]; done))) | ((with_reducible first | apply i_F | apply g_F); (focus (simp -dsimp -implicitDefEqProofs (disch := first | omega | (simp <;> omega) | fail) [hlt, c1, c2, hB, u1, u2, n1, u4]; done))))
    refine fin _ (w.testBit i) b1 (by simp) (by simp) (by simp) (by simp) (by simp) (by simp) (by simp) (by simp; exact u3) _ ?_
    intro e' k2 k3 k4 k18 k19 k20
    repeat (first | simp -dsimp -implicitDefEqProofs (disch := first | omega | (simp <;> omega) | fail) [k2, k3, k4, k18, k19, k20] | ((with_reducible first | apply m_1 | apply m_0); (focus ((conv => lhs; simp -dsimp -implicitDefEqProofs (disch := first | omega | (simp <;> omega) | fail) [k2, k3, k4, k18, k19, k20]); done))) | ((with_reducible first | apply i_T | apply g_T); (focus (simp -dsimp -implicitDefEqProofs (disch := first | omega | (simp <;> omega) | fail) [k2, k3, k4, k18, k19, k20]; done))) | ((with_reducible first | apply i_F | apply g_F); (focus (simp -dsimp -implicitDefEqProofs (disch := first | omega | (simp <;> omega) | fail) [k2, k3, k4, k18, k19, k20]; done))))
    exact ⟨r - 1, by omega, j + 1, by omega, rfl, by simp [k2, k3, k4, k18, k19, w3]⟩
  · repeat (first | simp -dsimp -implicitDefEqProofs (disch := first | omega | (simp <;> omega) | fail) [hlt, g18] | ((with_reducible first | apply m_1 | apply m_0); (focus ((conv => lhs; simp -dsimp -implicitDefEqProofs (disch := first | omega | (simp <;> omega) | fail) [hlt, g18]); done))) | ((with_reducible first | apply i_T | apply g_T); (focus (simp -dsimp -implicitDefEqProofs (disch := first | omega | (simp <;> omega) | fail) [hlt, g18]; done))) | ((with_reducible first | apply i_F | apply g_F); (focus (simp -dsimp -implicitDefEqProofs (disch := first | omega | (simp <;> omega) | fail) [hlt, g18]; done))))
    exact ret_ok (by simp; rfl) ⟨⟨hn, fun x hx => .inl (hold x hx).symm⟩, .refl _⟩
end
theorem pm_T {e : List (Nat × AV)} {s0 s : AState} {lb b15 b17 k w : Nat} {id : Int} {mark head : Bool} {v : LogV} {G3 : Grp} {F : List Nat} {c15 : List AV} {tk : Tok} (hid : 0 ≤ id ∧ id ≤ 999) (hk : k < 6) (hw : w < 65536)
    (g2 : Ab.get e 2 = .v (.bool mark)) (g3 : Ab.get e 3 = .v (.bool head)) (g4 : Ab.get e 4 = .v (.int .u16 w)) (g11 : Ab.get e 11 = .v (.int .i64 ((k + 1 : Nat) : Int))) (g12 : Ab.get e 12 = .p lb 0) (g15 : Ab.get e 15 = .p b15 0) (g17 : Ab.get e 17 = .p b17 0)
    (h15 : s.get b15 = .cells [.v (.int .i64 id), .v (.int .i64 6), .sl ((pmFs (k + 1) w).map Ent.av) tk, .v (.int .i64 (if head = true then 5 else 0)), .v (.int .i64 0), .v (.int .i64 0), .v (.int .i64 (if mark = true then 3 else 0)), .v (.int .i64 (if mark = true then 1 else 0)), .v (.bool mark), .v (.bool head)])
    (h17 : s.get b17 = .cells G3.cells) (log : LogAt s lb v F) (ok : VOk id v) (hf : PmF (k + 1) w mark head ⟨G3, []⟩ v) (hn : s0.n ≤ s.n) (hold : ∀ x, x < s0.n → s.get x = s0.get x) :
    wp prog none pmT (pmQ s0) { t := den 196 e, d := [] } s := by
  obtain ⟨T, hT⟩ : ∃ T, T = pmU := ⟨_, rfl⟩
  have hT2 := hT
  simp only [pmU, pmT, A_ladelaw13_PlaceMoves, ACode.tl] at hT2
  simp only [pmT, A_ladelaw13_PlaceMoves, ACode.tl]
  rw [← hT2]
  clear hT2
  obtain ⟨f1, f2, f3, f4⟩ := hf
  have hsl : (spotsL v).length = k + 1 + 2 := by rw [spotsL_len, f3]
  have w1 : IntKind.wrap .i64 (((k + 1 : Nat) : Int) + 2) = ((k + 1 + 2 : Nat) : Int) := by rw [wrap_i64 (by omega) (by omega)]; omega
  have f1' : v.g.fi = G3.fi := f1
  have hav : v.g.av = .agg [.v (.int .i64 v.g.id), .v (.int .i64 v.g.fi), .v (.int .i64 v.g.tm), .v (.int .i64 v.g.ht), .v (.int .i64 v.g.hv), .v (.int .i64 v.g.hc), .sl (v.g.es.map Ent.av) .no] := rfl
  have hMI := MI_eq
  have b15n := AState.lt_of_get h15 (by simp)
  repeat (first | simp -dsimp -implicitDefEqProofs (disch := first | omega | (simp <;> omega) | fail) [g12, g17, h17, f1'] | (with_reducible apply m_draw) | ((with_reducible refine ⟨m_op ?_, ?_⟩); (focus (simp -dsimp -implicitDefEqProofs (disch := first | omega | (simp <;> omega) | fail) [g12, g17, h17, f1']; done))) | ((with_reducible first | apply m_d1 rfl | apply m_dE | apply m_dE0); (focus ((conv => lhs; simp -dsimp -implicitDefEqProofs (disch := first | omega | (simp <;> omega) | fail) [g12, g17, h17, f1']); done))) | ((with_reducible first | apply m_1 | apply m_0); (focus ((conv => lhs; simp -dsimp -implicitDefEqProofs (disch := first | omega | (simp <;> omega) | fail) [g12, g17, h17, f1']); done))) | ((with_reducible first | apply i_T | apply g_T | apply h_T); (focus (simp -dsimp -implicitDefEqProofs (disch := first | omega | (simp <;> omega) | fail) [g12, g17, h17, f1']; done))) | ((with_reducible first | apply i_F | apply g_F | apply h_F); (focus (simp -dsimp -implicitDefEqProofs (disch := first | omega | (simp <;> omega) | fail) [g12, g17, h17, f1']; done))))
  refine giv (ct_place_Log_Group log (by omega)) (by first | (simp; done) | rfl | (simp; rfl)) ?_
  rw [hav]
  repeat (first | simp -dsimp -implicitDefEqProofs (disch := first | omega | (simp <;> omega) | fail) [g11, g12, g17, h17, f1', f2] | (with_reducible apply m_draw) | ((with_reducible refine ⟨m_op ?_, ?_⟩); (focus (simp -dsimp -implicitDefEqProofs (disch := first | omega | (simp <;> omega) | fail) [g11, g12, g17, h17, f1', f2]; done))) | ((with_reducible first | apply m_d1 rfl | apply m_dE | apply m_dE0); (focus ((conv => lhs; simp -dsimp -implicitDefEqProofs (disch := first | omega | (simp <;> omega) | fail) [g11, g12, g17, h17, f1', f2]); done))) | ((with_reducible first | apply m_1 | apply m_0); (focus ((conv => lhs; simp -dsimp -implicitDefEqProofs (disch := first | omega | (simp <;> omega) | fail) [g11, g12, g17, h17, f1', f2]); done))) | ((with_reducible first | apply i_T | apply g_T | apply h_T); (focus (simp -dsimp -implicitDefEqProofs (disch := first | omega | (simp <;> omega) | fail) [g11, g12, g17, h17, f1', f2]; done))) | ((with_reducible first | apply i_F | apply g_F | apply h_F); (focus (simp -dsimp -implicitDefEqProofs (disch := first | omega | (simp <;> omega) | fail) [g11, g12, g17, h17, f1', f2]; done))))
  refine giv (ct_place_Log_Group log (by omega)) (by first | (simp; done) | rfl | (simp; rfl)) ?_
  rw [hav]
  repeat (first | simp -dsimp -implicitDefEqProofs (disch := first | omega | (simp <;> omega) | fail) [g11, g12, f1', f2] | (with_reducible apply m_draw) | ((with_reducible refine ⟨m_op ?_, ?_⟩); (focus (simp -dsimp -implicitDefEqProofs (disch := first | omega | (simp <;> omega) | fail) [g11, g12, f1', f2]; done))) | ((with_reducible first | apply m_d1 rfl | apply m_dE | apply m_dE0); (focus ((conv => lhs; simp -dsimp -implicitDefEqProofs (disch := first | omega | (simp <;> omega) | fail) [g11, g12, f1', f2]); done))) | ((with_reducible first | apply m_1 | apply m_0); (focus ((conv => lhs; simp -dsimp -implicitDefEqProofs (disch := first | omega | (simp <;> omega) | fail) [g11, g12, f1', f2]); done))) | ((with_reducible first | apply i_T | apply g_T | apply h_T); (focus (simp -dsimp -implicitDefEqProofs (disch := first | omega | (simp <;> omega) | fail) [g11, g12, f1', f2]; done))) | ((with_reducible first | apply i_F | apply g_F | apply h_F); (focus (simp -dsimp -implicitDefEqProofs (disch := first | omega | (simp <;> omega) | fail) [g11, g12, f1', f2]; done))))
  repeat (first | simp -dsimp -implicitDefEqProofs (disch := first | omega | (simp <;> omega) | fail) [g12] | ((with_reducible first | apply m_1 | apply m_0); (focus ((conv => lhs; simp -dsimp -implicitDefEqProofs (disch := first | omega | (simp <;> omega) | fail) [g12]); done))) | ((with_reducible first | apply i_T | apply g_T); (focus (simp -dsimp -implicitDefEqProofs (disch := first | omega | (simp <;> omega) | fail) [g12]; done))) | ((with_reducible first | apply i_F | apply g_F); (focus (simp -dsimp -implicitDefEqProofs (disch := first | omega | (simp <;> omega) | fail) [g12]; done))))
  refine gv (ct_place_Log_Spots log (fun x hx => by have := ok.keys x hx; omega) (by omega)) ?_
  repeat (first | simp -dsimp -implicitDefEqProofs (disch := first | omega | (simp <;> omega) | fail) [g11, hsl, w1, g2] | ((with_reducible first | apply m_1 | apply m_0); (focus ((conv => lhs; simp -dsimp -implicitDefEqProofs (disch := first | omega | (simp <;> omega) | fail) [g11, hsl, w1, g2]); done))) | ((with_reducible first | apply i_T | apply g_T); (focus (simp -dsimp -implicitDefEqProofs (disch := first | omega | (simp <;> omega) | fail) [g11, hsl, w1, g2]; done))) | ((with_reducible first | apply i_F | apply g_F); (focus (simp -dsimp -implicitDefEqProofs (disch := first | omega | (simp <;> omega) | fail) [g11, hsl, w1, g2]; done))))
  have hU : ∀ e', Ab.get e' 2 = .v (.bool mark) → Ab.get e' 3 = .v (.bool head) → Ab.get e' 4 = .v (.int .u16 w) → Ab.get e' 18 = .sl ((spotsL v).map Spt.av) .no → Ab.get e' 19 = .v (.bool (!mark && !head && (pmFs (k + 1) w).isEmpty)) → wp prog none T (pmQ s0) { t := den 196 e', d := [] } s :=
    fun e' k2 k3 k4 k18 k19 => by rw [hT]; exact pm_U hk hw k2 k3 k4 k18 k19 f4 (by omega) hn hold
  cases mark with
  | true =>
    repeat (first | simp -dsimp -implicitDefEqProofs (disch := first | omega | (simp <;> omega) | fail) [g2, g3, g15] | ((with_reducible first | apply m_1 | apply m_0); (focus ((conv => lhs; simp -dsimp -implicitDefEqProofs (disch := first | omega | (simp <;> omega) | fail) [g2, g3, g15]); done))) | ((with_reducible first | apply i_T | apply g_T); (focus (simp -dsimp -implicitDefEqProofs (disch := first | omega | (simp <;> omega) | fail) [g2, g3, g15]; done))) | ((with_reducible first | apply i_F | apply g_F); (focus (simp -dsimp -implicitDefEqProofs (disch := first | omega | (simp <;> omega) | fail) [g2, g3, g15]; done))))
    exact hU _ (by simp [g2]) (by simp [g3]) (by simp [g4]) (by simp) (by simp)
  | false =>
    cases head with
    | true =>
      repeat (first | simp -dsimp -implicitDefEqProofs (disch := first | omega | (simp <;> omega) | fail) [g2, g3, g15] | ((with_reducible first | apply m_1 | apply m_0); (focus ((conv => lhs; simp -dsimp -implicitDefEqProofs (disch := first | omega | (simp <;> omega) | fail) [g2, g3, g15]); done))) | ((with_reducible first | apply i_T | apply g_T); (focus (simp -dsimp -implicitDefEqProofs (disch := first | omega | (simp <;> omega) | fail) [g2, g3, g15]; done))) | ((with_reducible first | apply i_F | apply g_F); (focus (simp -dsimp -implicitDefEqProofs (disch := first | omega | (simp <;> omega) | fail) [g2, g3, g15]; done))))
      exact hU _ (by simp [g2]) (by simp [g3]) (by simp [g4]) (by simp) (by simp)
    | false =>
      cases hes : pmFs (k + 1) w with
      | nil =>
        rw [hes] at h15
        repeat (first | simp -dsimp -implicitDefEqProofs (disch := first | omega | (simp <;> omega) | fail) [g2, g3, g15, h15] | ((with_reducible first | apply m_1 | apply m_0); (focus ((conv => lhs; simp -dsimp -implicitDefEqProofs (disch := first | omega | (simp <;> omega) | fail) [g2, g3, g15, h15]); done))) | ((with_reducible first | apply i_T | apply g_T); (focus (simp -dsimp -implicitDefEqProofs (disch := first | omega | (simp <;> omega) | fail) [g2, g3, g15, h15]; done))) | ((with_reducible first | apply i_F | apply g_F); (focus (simp -dsimp -implicitDefEqProofs (disch := first | omega | (simp <;> omega) | fail) [g2, g3, g15, h15]; done))))
        exact hU _ (by simp [g2]) (by simp [g3]) (by simp [g4]) (by simp) (by simp [hes] <;> omega)
      | cons x es =>
        rw [hes] at h15
        have hne : ¬ ((es.length : Int) + 1 = 0) := by omega
        repeat (first | simp -dsimp -implicitDefEqProofs (disch := first | omega | (simp <;> omega) | fail) [g2, g3, g15, h15, hne] | ((with_reducible first | apply m_1 | apply m_0); (focus ((conv => lhs; simp -dsimp -implicitDefEqProofs (disch := first | omega | (simp <;> omega) | fail) [g2, g3, g15, h15, hne]); done))) | ((with_reducible first | apply i_T | apply g_T); (focus (simp -dsimp -implicitDefEqProofs (disch := first | omega | (simp <;> omega) | fail) [g2, g3, g15, h15, hne]; done))) | ((with_reducible first | apply i_F | apply g_F); (focus (simp -dsimp -implicitDefEqProofs (disch := first | omega | (simp <;> omega) | fail) [g2, g3, g15, h15, hne]; done))))
        exact hU _ (by simp [g2]) (by simp [g3]) (by simp [g4]) (by simp) (by simp [hes] <;> omega)
end Go.Proofs.Ytmpoeamfcienoaa
end
section
namespace Go.Proofs.Ytmpoeamfcienoaa
open Go.Ab
set_option linter.unusedVariables false
set_option linter.unusedSimpArgs false
set_option maxRecDepth 100000
set_option maxHeartbeats 1000000
def pmFr : ACode := A_ladelaw13_PlaceMoves.body.tl.tl.tl.tl.tl.tl.tl.tl.tl
def pmLo : ACode := pmFr.tl.tl.tl
def pmC15 (id : Int) (l : List Ent) (tk : Tok) (mark head : Bool) : List AV := [.v (.int .i64 id), .v (.int .i64 6), .sl (l.map Ent.av) tk, .v (.int .i64 (if head = true then 5 else 0)), .v (.int .i64 0), .v (.int .i64 0), .v (.int .i64 (if mark = true then 3 else 0)), .v (.int .i64 (if mark = true then 1 else 0)), .v (.bool mark), .v (.bool head)]
def pmC13 (id : Int) (l : List Ent) (tk : Tok) : List AV := [.v (.int .i64 id), .v (.int .i64 1), .sl (l.map Ent.av) tk, .v (.int .i64 0), .v (.int .i64 0), .v (.int .i64 0), .v (.int .i64 0), .v (.int .i64 0), .v (.bool false), .v (.bool false)]
section
variable {e : List (Nat × AV)} {s0 s1 s : AState} {lb b13 b15 k w : Nat} {id : Int} {mark head : Bool} {F : List Nat} {tk : Tok}
theorem pm_L (hid : 0 ≤ id ∧ id ≤ 999) (hk : k < 6) (hw : w < 65536)
    (g2 : Ab.get e 2 = .v (.bool mark)) (g3 : Ab.get e 3 = .v (.bool head)) (g4 : Ab.get e 4 = .v (.int .u16 w)) (g11 : Ab.get e 11 = .v (.int .i64 ((k + 1 : Nat) : Int))) (g12 : Ab.get e 12 = .p lb 0) (g13 : Ab.get e 13 = .p b13 0) (g15 : Ab.get e 15 = .p s1.n 0)
    (hg : Grows s1 s) (h15 : s.get s1.n = .cells (pmC15 id [] .zero mark head)) (h13 : s1.get b13 = .cells (pmC13 id (pmEs (k + 1)) tk)) (log : LogAt s1 lb (pmV3 id (k + 1)) F) (mt : Mut [] F s0 s1) :
    wp prog none pmLo (pmQ s0) { t := den 196 e, d := [] } s := by
  obtain ⟨T, hT⟩ : ∃ T, T = pmT := ⟨_, rfl⟩
  have hT2 := hT
  simp only [pmT, A_ladelaw13_PlaceMoves, ACode.tl] at hT2
  simp only [pmLo, pmFr, A_ladelaw13_PlaceMoves, ACode.tl]
  rw [← hT2]
  clear hT2
  have hb13 := AState.lt_of_get h13 (by simp)
  have hlF := log.lt
  have hle := pmEs_len (k + 1)
  repeat (first | simp -dsimp -implicitDefEqProofs (disch := first | omega | (simp <;> omega) | fail) | ((with_reducible first | apply m_1 | apply m_0); (focus ((conv => lhs; simp -dsimp -implicitDefEqProofs (disch := first | omega | (simp <;> omega) | fail)); done))) | ((with_reducible first | apply i_T | apply g_T); (focus (simp -dsimp -implicitDefEqProofs (disch := first | omega | (simp <;> omega) | fail); done))) | ((with_reducible first | apply i_F | apply g_F); (focus (simp -dsimp -implicitDefEqProofs (disch := first | omega | (simp <;> omega) | fail); done))))
  refine loop_ok [2, 3, 4, 11, 12, 13, 15, 16] (fun r a s3 => ∃ (i : Nat) (tk2 : Tok), i + r = k + 1 ∧ Grows s1 s3 ∧ s3.get s1.n = .cells (pmC15 id (pmFs i w) tk2 mark head) ∧ May (s1.n + 1) s3 ((pmFs i w).map Ent.av) tk2 ∧
    a = { t := den 196 [(2, .v (.bool mark)), (3, .v (.bool head)), (4, .v (.int .u16 w)), (11, .v (.int .i64 ((k + 1 : Nat) : Int))), (12, .p lb 0), (13, .p b13 0), (15, .p s1.n 0), (16, .v (.int .i64 i))], d := [] }) (k + 1) ?_ ?_
  · exact ⟨0, .zero, by simp, hg, h15, trivial, by simp [g2, g3, g4, g11, g12, g13, g15]⟩
  clear hg h15
  rintro r a s3 ⟨i, tk2, hir, hg, h15, hm, rfl⟩
  have h13' : s3.get b13 = .cells (pmC13 id (pmEs (k + 1)) tk) := (hg.get hb13).trans h13
  have hn3 : s1.n + 1 ≤ s3.n := AState.lt_of_get h15 (by simp)
  unfold pmC15 at h15
  unfold pmC13 at h13'
  by_cases hlt : i < k + 1
  · have w3 : IntKind.wrap .i64 ((i : Int) + 1) = (i : Int) + 1 := wrap_i64 (by omega) (by omega)
    have hlt' : (i : Int) < (k : Int) + 1 := by omega
    have u2 : IntKind.wrap .u64 (i : Int) = (i : Int) := by rw [IntKind.wrap_u64]; omega
    have n1 : ¬ (i : Int) < 0 := by omega
    have u4 : min i IntKind.u16.bits = i := by show min i 16 = i; omega
    have u3 := shr2 (i := i) hw
    have hsn := pmFs_snoc i w
    have hfl := pmFs_len i w
    have hli : i < (pmEs (k + 1)).length := by omega
    have hge : (pmEs (k + 1))[i] = pmEnt i := pmEs_get hlt
    cases hb : w.testBit i with
    | true =>
      rw [hb] at u3
      rw [if_pos hb] at hsn
      repeat (first | simp -dsimp -implicitDefEqProofs (disch := first | omega | (simp <;> omega) | fail) [hlt', u2, n1, u4, u3, h15, h13', hli, hge] | ((with_reducible first | apply m_1 | apply m_0); (focus ((conv => lhs; simp -dsimp -implicitDefEqProofs (disch := first | omega | (simp <;> omega) | fail) [hlt', u2, n1, u4, u3, h15, h13', hli, hge]); done))) | ((with_reducible first | apply i_T | apply g_T); (focus (simp -dsimp -implicitDefEqProofs (disch := first | omega | (simp <;> omega) | fail) [hlt', u2, n1, u4, u3, h15, h13', hli, hge]; done))) | ((with_reducible first | apply i_F | apply g_F); (focus (simp -dsimp -implicitDefEqProofs (disch := first | omega | (simp <;> omega) | fail) [hlt', u2, n1, u4, u3, h15, h13', hli, hge]; done))))
      refine m_app (xs := (pmFs i w).map Ent.av) (tk := tk2) (ys := [(pmEnt i).av]) (t2 := .zero) (B := s1) (N := s1.n + 1) (by simp) (by simp) hg (by omega) hn3 hm (head_map Ent.row _) (by simp) (by simp; omega) (by simp; omega) ?_
      intro s4 tk4 hg4 hm4 hlow _
      have c15 := (hlow s1.n (by omega)).trans h15
      have hn4 : s1.n < s4.n := AState.lt_of_get c15 (by simp)
      repeat (first | simp -dsimp -implicitDefEqProofs (disch := first | omega | (simp <;> omega) | fail) [c15] | ((with_reducible first | apply m_1 | apply m_0); (focus ((conv => lhs; simp -dsimp -implicitDefEqProofs (disch := first | omega | (simp <;> omega) | fail) [c15]); done))) | ((with_reducible first | apply i_T | apply g_T); (focus (simp -dsimp -implicitDefEqProofs (disch := first | omega | (simp <;> omega) | fail) [c15]; done))) | ((with_reducible first | apply i_F | apply g_F); (focus (simp -dsimp -implicitDefEqProofs (disch := first | omega | (simp <;> omega) | fail) [c15]; done))))
      refine ⟨r - 1, by omega, i + 1, tk4, by omega, hg4.set _ (Nat.le_refl _) hn4, ?_, ?_, by simp [w3]⟩
      · rw [AState.get_set_same _ _ hn4, hsn]; simp [pmC15]
      · rw [hsn]; exact (by simpa using hm4 : May _ _ _ _).set _ (by omega)
    | false =>
      rw [hb] at u3
      rw [if_neg (by simp [hb]), List.append_nil] at hsn
      repeat (first | simp -dsimp -implicitDefEqProofs (disch := first | omega | (simp <;> omega) | fail) [hlt', u2, n1, u4, u3] | ((with_reducible first | apply m_1 | apply m_0); (focus ((conv => lhs; simp -dsimp -implicitDefEqProofs (disch := first | omega | (simp <;> omega) | fail) [hlt', u2, n1, u4, u3]); done))) | ((with_reducible first | apply i_T | apply g_T); (focus (simp -dsimp -implicitDefEqProofs (disch := first | omega | (simp <;> omega) | fail) [hlt', u2, n1, u4, u3]; done))) | ((with_reducible first | apply i_F | apply g_F); (focus (simp -dsimp -implicitDefEqProofs (disch := first | omega | (simp <;> omega) | fail) [hlt', u2, n1, u4, u3]; done))))
      exact ⟨r - 1, by omega, i + 1, tk2, by omega, hg, by rw [hsn]; exact h15, by rw [hsn]; exact hm, by simp [w3]⟩
  · have hie : i = k + 1 := by omega
    subst hie
    have log3 : LogAt s3 lb (pmV3 id (k + 1)) F := log.keep fun x hx => hg.get (hlF x hx)
    have ok3 := (pmV_ok hid (k + 1)).2.2
    have hl3 : ((pmV3 id (k + 1)).g.es.length : Int) ≤ MI := ok3.g.len
    have hMI := MI_eq
    have hf := pm_facts hid hk w mark head
    have hpl := pmFs_len (k + 1) w
    refine st0 ?_
    refine gv (ct_place_Log_Group log3 (by omega)) ?_
    refine st1 h15 ?_
    have log4 : LogAt (s3.alloc (.cells (pmV3 id (k + 1)).g.cells)) lb (pmV3 id (k + 1)) F := log3.keep fun x hx => get_alloc_ne (by have := hlF x hx; have := hg.n; omega)
    refine runS (rn_place_Log_Do (p := pmF id (k + 1) w mark head) (at_ := ⟨9, 99⟩) log4 ok3.g (by show ((pmFs (k + 1) w).length : Int) < _; omega)) ?_
    rintro _ s5 ⟨F5, a1, a2⟩
    have hnb : s1.n ∉ F := fun hm => by have := hlF _ hm; omega
    have hnc : s3.n ∉ F := fun hm => by have := hlF _ hm; have := hg.n; omega
    have q15 : s5.get s1.n = .cells (pmC15 id (pmFs (k + 1) w) tk2 mark head) := (a2.keep _ (by simp; omega) hnb).trans (by rw [get_alloc_ne (by omega)]; exact h15)
    have q17 : s5.get s3.n = .cells (pmV3 id (k + 1)).g.cells := (a2.keep _ (by simp) hnc).trans (by simp)
    have mt5 : Mut [] F5 s0 s5 := (mt.trans (.grows (hg.alloc _))).trans a2
    refine st0 ?_
    rw [hT]
    exact pm_T (c15 := []) (G3 := (pmV3 id (k + 1)).g) (v := pmV4 id (k + 1) w mark head) (F := F5) (tk := tk2) hid hk hw (by simp) (by simp) (by simp) (by simp) (by simp) (by simp) (by simp) q15 q17 a1 (pmV4_ok hid _ _ _ _) ⟨hf.fi, hf.es, hf.sp, hf.at_⟩ mt5.n fun x hx => mt5.keep x hx (by simp)
theorem pm_F (hid : 0 ≤ id ∧ id ≤ 999) (hk : k < 6) (hw : w < 65536)
    (g0 : Ab.get e 0 = .v (.int .u8 id)) (g2 : Ab.get e 2 = .v (.bool mark)) (g3 : Ab.get e 3 = .v (.bool head)) (g4 : Ab.get e 4 = .v (.int .u16 w)) (g11 : Ab.get e 11 = .v (.int .i64 ((k + 1 : Nat) : Int))) (g12 : Ab.get e 12 = .p lb 0) (g13 : Ab.get e 13 = .p b13 0)
    (h13 : s1.get b13 = .cells (pmC13 id (pmEs (k + 1)) tk)) (log : LogAt s1 lb (pmV3 id (k + 1)) F) (mt : Mut [] F s0 s1) :
    wp prog none pmFr (pmQ s0) { t := den 196 e, d := [] } s1 := by
  obtain ⟨T, hT⟩ : ∃ T, T = pmLo := ⟨_, rfl⟩
  have hT2 := hT
  simp only [pmLo, pmFr, A_ladelaw13_PlaceMoves, ACode.tl] at hT2
  simp only [pmFr, A_ladelaw13_PlaceMoves, ACode.tl]
  rw [← hT2]
  clear hT2
  have w0 : IntKind.wrap .i64 id = id := wrap_i64 (by omega) (by omega)
  have hL : ∀ (e' : List (Nat × AV)) (s' : AState), Ab.get e' 2 = .v (.bool mark) → Ab.get e' 3 = .v (.bool head) → Ab.get e' 4 = .v (.int .u16 w) → Ab.get e' 11 = .v (.int .i64 ((k + 1 : Nat) : Int)) → Ab.get e' 12 = .p lb 0 → Ab.get e' 13 = .p b13 0 → Ab.get e' 15 = .p s1.n 0 → Grows s1 s' → s'.get s1.n = .cells (pmC15 id [] .zero mark head) →
      wp prog none T (pmQ s0) { t := den 196 e', d := [] } s' := fun e' s' k2 k3 k4 k11 k12 k13 k15 hg h15 => by
    rw [hT]; exact pm_L hid hk hw k2 k3 k4 k11 k12 k13 k15 hg h15 h13 log mt
  cases mark <;> cases head <;>
  · refine st4 g0 g2 g3 w0 ?_
    refine hL _ _ (by simp [g2]) (by simp [g3]) (by simp [g4]) (by simp [g11]) (by simp [g12]) (by simp [g13]) (by simp) ?_ ?_
    · repeat (first | exact (Grows.refl _).alloc _ | refine Grows.set ?_ _ (Nat.le_refl _) (by simp))
    · simp [pmC15]
end
theorem remU8 {n m : Int} (h0 : 0 ≤ n) (hm : 0 < m) : 0 ≤ n.tmod m ∧ n.tmod m < m := ⟨Int.tmod_nonneg _ h0, Int.tmod_lt_of_pos _ hm⟩
theorem ct_ladelaw13_PlaceMoves {id n : Int} {mark head : Bool} {w : Nat} {s : AState} (hid : 0 ≤ id ∧ id < 256) (hn : 0 ≤ n ∧ n < 256) (hw : w < 65536) :
    Gives prog F_ladelaw13_PlaceMoves [.v (.int .u8 id), .v (.int .u8 n), .v (.bool mark), .v (.bool head), .v (.int .u16 w)] s (.v (.bool true)) s := by
  refine Runs.gives (runs_e h_ladelaw13_PlaceMoves (Nat.le_of_ble_eq_true rfl) ?_) (.v _)
  obtain ⟨T, hT⟩ : ∃ T, T = pmFr := ⟨_, rfl⟩
  have hT2 := hT
  simp only [pmFr, A_ladelaw13_PlaceMoves, ACode.tl] at hT2
  rw [← hT2]
  clear hT2
  have w0 : IntKind.wrap .i64 id = id := wrap_i64 (by omega) (by omega)
  have hid2 : 0 ≤ id ∧ id ≤ 999 := by omega
  have hr := remU8 hn.1 (show (0 : Int) < 6 by omega)
  obtain ⟨k, hk⟩ : ∃ k : Nat, n.tmod 6 = k := ⟨(n.tmod 6).toNat, by omega⟩
  have hk6 : k < 6 := by omega
  have w1 : IntKind.wrap .i64 (k : Int) = (k : Int) := wrap_i64 (by omega) (by omega)
  have w2 : IntKind.wrap .i64 ((k : Int) + 1) = ((k + 1 : Nat) : Int) := by rw [wrap_i64 (by omega) (by omega)]; omega
  repeat (first | simp -dsimp -implicitDefEqProofs (disch := first | omega | (simp <;> omega) | fail) | ((with_reducible first | apply m_1 | apply m_0); (focus ((conv => lhs; simp -dsimp -implicitDefEqProofs (disch := first | omega | (simp <;> omega) | fail)); done))) | ((with_reducible first | apply i_T | apply g_T); (focus (simp -dsimp -implicitDefEqProofs (disch := first | omega | (simp <;> omega) | fail); done))) | ((with_reducible first | apply i_F | apply g_F); (focus (simp -dsimp -implicitDefEqProofs (disch := first | omega | (simp <;> omega) | fail); done))))
  refine giv (ct_ladelaw13_known) (by first | (simp; done) | rfl | (simp; rfl)) ?_
  repeat (first | simp -dsimp -implicitDefEqProofs (disch := first | omega | (simp <;> omega) | fail) [hk, w1, w2, w0] | ((with_reducible first | apply m_1 | apply m_0); (focus ((conv => lhs; simp -dsimp -implicitDefEqProofs (disch := first | omega | (simp <;> omega) | fail) [hk, w1, w2, w0]); done))) | ((with_reducible first | apply i_T | apply g_T); (focus (simp -dsimp -implicitDefEqProofs (disch := first | omega | (simp <;> omega) | fail) [hk, w1, w2, w0]; done))) | ((with_reducible first | apply i_F | apply g_F); (focus (simp -dsimp -implicitDefEqProofs (disch := first | omega | (simp <;> omega) | fail) [hk, w1, w2, w0]; done))))
  refine run (rn_place_New) (by first | (simp; done) | rfl | (simp; rfl)) ?_
  rintro _ s1 ⟨lb, rfl, h1, h2, h3⟩
  have hlF := h1.lt
  repeat (first | simp -dsimp -implicitDefEqProofs (disch := first | omega | (simp <;> omega) | fail) [w0] | ((with_reducible first | apply m_1 | apply m_0); (focus ((conv => lhs; simp -dsimp -implicitDefEqProofs (disch := first | omega | (simp <;> omega) | fail) [w0]); done))) | ((with_reducible first | apply i_T | apply g_T); (focus (simp -dsimp -implicitDefEqProofs (disch := first | omega | (simp <;> omega) | fail) [w0]; done))) | ((with_reducible first | apply i_F | apply g_F); (focus (simp -dsimp -implicitDefEqProofs (disch := first | omega | (simp <;> omega) | fail) [w0]; done))))
  refine loop_ok [0, 2, 3, 4, 11, 12, 13, 14] (fun r a s3 => ∃ (i : Nat) (tk : Tok), i + r = k + 1 ∧ Grows s1 s3 ∧ s3.get s1.n = .cells (pmC13 id (pmEs i) tk) ∧ May (s1.n + 1) s3 ((pmEs i).map Ent.av) tk ∧
    a = { t := den 196 [(0, .v (.int .u8 id)), (2, .v (.bool mark)), (3, .v (.bool head)), (4, .v (.int .u16 w)), (11, .v (.int .i64 ((k + 1 : Nat) : Int))), (12, .p lb 0), (13, .p s1.n 0), (14, .v (.int .i64 i))], d := [] }) (k + 1) ?_ ?_
  · exact ⟨0, .zero, by simp, by first | exact (Grows.refl _).alloc _ | exact ((Grows.refl _).alloc _).set _ (Nat.le_refl _) (by simp), by simp [pmC13, pmEs], trivial, by simp⟩
  rintro r a s3 ⟨i, tk, hir, hg, h13, hm, rfl⟩
  have hn3 : s1.n + 1 ≤ s3.n := AState.lt_of_get h13 (by simp)
  unfold pmC13 at h13
  by_cases hlt : i < k + 1
  · have w3 : IntKind.wrap .i64 ((i : Int) + 1) = (i : Int) + 1 := wrap_i64 (by omega) (by omega)
    have w4 : IntKind.wrap .i64 (4 + (i : Int)) = 4 + (i : Int) := wrap_i64 (by omega) (by omega)
    have hlt' : (i : Int) < (k : Int) + 1 := by omega
    have hle := pmEs_len i
    repeat (first | simp -dsimp -implicitDefEqProofs (disch := first | omega | (simp <;> omega) | fail) [hlt', h13, w4] | ((with_reducible first | apply m_1 | apply m_0); (focus ((conv => lhs; simp -dsimp -implicitDefEqProofs (disch := first | omega | (simp <;> omega) | fail) [hlt', h13, w4]); done))) | ((with_reducible first | apply i_T | apply g_T); (focus (simp -dsimp -implicitDefEqProofs (disch := first | omega | (simp <;> omega) | fail) [hlt', h13, w4]; done))) | ((with_reducible first | apply i_F | apply g_F); (focus (simp -dsimp -implicitDefEqProofs (disch := first | omega | (simp <;> omega) | fail) [hlt', h13, w4]; done))))
    refine m_app (xs := (pmEs i).map Ent.av) (tk := tk) (ys := [(pmEnt i).av]) (t2 := .zero) (B := s1) (N := s1.n + 1) (by simp) (by simp [pmEnt, Ent.av, Ent.cells]) hg (by omega) hn3 hm (head_map Ent.row _) (by simp) (by simp; omega) (by simp; omega) ?_
    intro s4 tk4 hg4 hm4 hlow _
    have c13 := (hlow s1.n (by omega)).trans h13
    have hn4 : s1.n < s4.n := AState.lt_of_get c13 (by simp)
    repeat (first | simp -dsimp -implicitDefEqProofs (disch := first | omega | (simp <;> omega) | fail) [c13] | ((with_reducible first | apply m_1 | apply m_0); (focus ((conv => lhs; simp -dsimp -implicitDefEqProofs (disch := first | omega | (simp <;> omega) | fail) [c13]); done))) | ((with_reducible first | apply i_T | apply g_T); (focus (simp -dsimp -implicitDefEqProofs (disch := first | omega | (simp <;> omega) | fail) [c13]; done))) | ((with_reducible first | apply i_F | apply g_F); (focus (simp -dsimp -implicitDefEqProofs (disch := first | omega | (simp <;> omega) | fail) [c13]; done))))
    refine ⟨r - 1, by omega, i + 1, tk4, by omega, hg4.set _ (Nat.le_refl _) hn4, ?_, ?_, by simp [w3]⟩
    · rw [AState.get_set_same _ _ hn4, pmEs_snoc]; simp [pmC13]
    · rw [pmEs_snoc]; exact (by simpa using hm4 : May _ _ _ _).set _ (by omega)
  · have hie : i = k + 1 := by omega
    subst hie
    have hle := pmEs_len (k + 1)
    obtain ⟨o1, o2, o3⟩ := pmV_ok hid2 (k + 1)
    have log3 := h1.keep fun x hx => hg.get (hlF x hx)
    have mt3 : Mut [] [lb, lb - 1] s s3 := (Mut.new h3 (by simp; omega)).trans (.grows hg)
    have hb : s1.n ∉ [lb, lb - 1] := fun hm => by have := hlF _ hm; omega
    repeat (first | simp -dsimp -implicitDefEqProofs (disch := first | omega | (simp <;> omega) | fail) [w0] | ((with_reducible first | apply m_1 | apply m_0); (focus ((conv => lhs; simp -dsimp -implicitDefEqProofs (disch := first | omega | (simp <;> omega) | fail) [w0]); done))) | ((with_reducible first | apply i_T | apply g_T); (focus (simp -dsimp -implicitDefEqProofs (disch := first | omega | (simp <;> omega) | fail) [w0]; done))) | ((with_reducible first | apply i_F | apply g_F); (focus (simp -dsimp -implicitDefEqProofs (disch := first | omega | (simp <;> omega) | fail) [w0]; done))))
    refine runS (rn_place_Log_Do (p := pmS id) (at_ := ⟨1, 16⟩) log3 (newG_spar hid2) (by simp [pmS])) ?_
    rintro _ s4 ⟨F4, a1, a2⟩
    have c4 := (a2.keep _ (by omega) hb).trans h13
    have b4 := a2.apart (G := [s1.n]) (by simpa using hb) (by simp; omega) s1.n (by simp)
    have mt4 := mt3.trans a2
    repeat (first | simp -dsimp -implicitDefEqProofs (disch := first | omega | (simp <;> omega) | fail) [w0] | ((with_reducible first | apply m_1 | apply m_0); (focus ((conv => lhs; simp -dsimp -implicitDefEqProofs (disch := first | omega | (simp <;> omega) | fail) [w0]); done))) | ((with_reducible first | apply i_T | apply g_T); (focus (simp -dsimp -implicitDefEqProofs (disch := first | omega | (simp <;> omega) | fail) [w0]; done))) | ((with_reducible first | apply i_F | apply g_F); (focus (simp -dsimp -implicitDefEqProofs (disch := first | omega | (simp <;> omega) | fail) [w0]; done))))
    refine runS (rn_place_Log_Do (v := pmV1 id) (p := pmH id) (at_ := ⟨1, 40⟩) a1 o1.g (by simp [pmH])) ?_
    rintro _ s5 ⟨F5, a3, a4⟩
    have n4 := a2.n
    have c5 := (a4.keep _ (by omega) b4).trans c4
    have b5 := a4.apart (G := [s1.n]) (by simpa using b4) (by simp; omega) s1.n (by simp)
    have mt5 := mt4.trans a4
    repeat (first | simp -dsimp -implicitDefEqProofs (disch := first | omega | (simp <;> omega) | fail) [c5] | ((with_reducible first | apply m_1 | apply m_0); (focus ((conv => lhs; simp -dsimp -implicitDefEqProofs (disch := first | omega | (simp <;> omega) | fail) [c5]); done))) | ((with_reducible first | apply i_T | apply g_T); (focus (simp -dsimp -implicitDefEqProofs (disch := first | omega | (simp <;> omega) | fail) [c5]; done))) | ((with_reducible first | apply i_F | apply g_F); (focus (simp -dsimp -implicitDefEqProofs (disch := first | omega | (simp <;> omega) | fail) [c5]; done))))
    refine runS (rn_place_Log_Do (v := pmV2 id) (p := pmA id (k + 1)) (at_ := ⟨1, 60⟩) a3 o2.g (by show ((pmEs (k + 1)).length : Int) < _; omega)) ?_
    rintro _ s6 ⟨F6, a5, a6⟩
    have n5 := a4.n
    have c6 := (a6.keep _ (by omega) b5).trans c5
    have mt6 := mt5.trans a6
    repeat (first | simp -dsimp -implicitDefEqProofs (disch := first | omega | (simp <;> omega) | fail) | ((with_reducible first | apply m_1 | apply m_0); (focus ((conv => lhs; simp -dsimp -implicitDefEqProofs (disch := first | omega | (simp <;> omega) | fail)); done))) | ((with_reducible first | apply i_T | apply g_T); (focus (simp -dsimp -implicitDefEqProofs (disch := first | omega | (simp <;> omega) | fail); done))) | ((with_reducible first | apply i_F | apply g_F); (focus (simp -dsimp -implicitDefEqProofs (disch := first | omega | (simp <;> omega) | fail); done))))
    rw [hT]
    exact pm_F (mark := mark) (head := head) (k := k) (w := w) (id := id) (lb := lb) (b13 := s1.n) (tk := tk) (F := F6) hid2 hk6 hw (by simp) (by simp) (by simp) (by simp) (by simp) (by simp) (by simp) c6 a5 mt6
end Go.Proofs.Ytmpoeamfcienoaa
end
