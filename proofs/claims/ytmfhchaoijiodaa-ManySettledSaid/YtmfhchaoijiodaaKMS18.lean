/- Going on. -/
import Derived.Shelf.SlGeneric
import Derived.Ground.GgzProg
import Derived.Ground.SlgmProg
import Derived.Ground.SlmcProg
import Derived.Shelf.SlIterI.Nil
import Derived.Shelf.SlMaps.Clone
import Derived.Shelf.SortM.Plain
import Derived.Shelf.SortM.SortNone
import Derived.Test.YtmfhchaoijiodaaKMS17
section
namespace Go.Proofs
open Go.Shelf
def Try.sh_slices_Sorted_int_ren : Go.Shelf.Ren := ⟨fun | 6 => 22 | 8 => 36 | 9 => 37 | 11 => 54 | 13 => 56 | 12 => 55 | 23 => 81 | 24 => 82 | 14 => 72 | 15 => 73 | 16 => 74 | 17 => 75 | 18 => 76 | 19 => 77 | 20 => 78 | 21 => 79 | 22 => 80 | 25 => 90 | 26 => 91 | 27 => 92 | 28 => 93 | 29 => 94 | 30 => 95 | 31 => 100 | n => n, fun | 26 => 3 | 28 => 59 | 24 => 61 | 0 => 0 | 3 => 3 | 37 => 100 | 48 => 124 | 50 => 126 | 4 => 4 | 40 => 117 | 39 => 116 | 45 => 33 | 5 => 5 | 9 => 9 | 51 => 133 | 55 => 137 | 57 => 143 | 58 => 144 | 33 => 75 | n => n, fun | n => n⟩
theorem Try.sh_slices_Sorted_int : Go.Proofs.SlLaysZI.n6 Try.prog Try.sh_slices_Sorted_int_ren := {
  mixed := by kernel_rfl
  f6 := ⟨Try.f22.name, by decide, Try.func22.trans (congrArg some (by kernel_rfl))⟩
  f8 := ⟨Try.f36.name, by decide, Try.func36.trans (congrArg some (by kernel_rfl))⟩
  f11 := ⟨Try.f54.name, by decide, Try.func54.trans (congrArg some (by kernel_rfl))⟩
  t0 := Try.underlying0
  a0 := Try.isAgg0
  z0 := Try.sizeOf0
  v0 := Try.zeroValue0
  t24 := Try.underlying61
  a24 := Try.isAgg61
  z24 := Try.sizeOf61
  v24 := Try.zeroValue61
  t26 := Try.underlying3
  a26 := Try.isAgg3
  z26 := Try.sizeOf3
  v26 := Try.zeroValue3
  t28 := Try.underlying59
  a28 := Try.isAgg59
  z28 := Try.sizeOf59
  v28 := Try.zeroValue59
  i26 := by kernel_rfl }
def Try.sh_maps_Keys_Group_ren : Go.Shelf.Ren := ⟨fun | 7 => 23 | 10 => 38 | n => n, fun | 23 => 50 | 26 => 3 | 3 => 42 | 28 => 59 | 0 => 0 | 27 => 58 | 33 => 75 | 4 => 4 | n => n, fun | n => n⟩
theorem Try.sh_maps_Keys_Group : Go.Proofs.SlLaysZI.n7 Try.prog Try.sh_maps_Keys_Group_ren := {
  mixed := by kernel_rfl
  f7 := ⟨Try.f23.name, by decide, Try.func23.trans (congrArg some (by kernel_rfl))⟩
  f10 := ⟨Try.f38.name, by decide, Try.func38.trans (congrArg some (by kernel_rfl))⟩
  t0 := Try.underlying0
  a0 := Try.isAgg0
  z0 := Try.sizeOf0
  v0 := Try.zeroValue0
  t4 := Try.underlying4
  a4 := Try.isAgg4
  z4 := Try.sizeOf4
  v4 := Try.zeroValue4
  t23 := Try.underlying50
  a23 := Try.isAgg50
  z23 := Try.sizeOf50
  v23 := Try.zeroValue50
  t26 := Try.underlying3
  a26 := Try.isAgg3
  z26 := Try.sizeOf3
  v26 := Try.zeroValue3
  t27 := Try.underlying58
  a27 := Try.isAgg58
  z27 := Try.sizeOf58
  v27 := Try.zeroValue58
  t28 := Try.underlying59
  a28 := Try.isAgg59
  z28 := Try.sizeOf59
  v28 := Try.zeroValue59
  t33 := Try.underlying75
  a33 := Try.isAgg75
  z33 := Try.sizeOf75
  v33 := Try.zeroValue75 }
def Try.sh_slices_Sort_int_ren : Go.Shelf.Ren := ⟨fun | 5 => 37 | 8 => 56 | 7 => 55 | 19 => 81 | 20 => 82 | 10 => 72 | 11 => 73 | 12 => 74 | 13 => 75 | 14 => 76 | 15 => 77 | 16 => 78 | 17 => 79 | 18 => 80 | 30 => 90 | 31 => 91 | 32 => 92 | 33 => 93 | 34 => 94 | 35 => 95 | 40 => 100 | n => n, fun | 23 => 61 | 25 => 3 | 3 => 3 | 32 => 100 | 22 => 61 | 0 => 0 | 44 => 124 | 46 => 126 | 4 => 4 | 36 => 117 | 35 => 116 | 41 => 33 | 5 => 5 | 9 => 9 | 53 => 133 | 57 => 137 | 63 => 143 | 64 => 144 | n => n, fun | n => n⟩
theorem Try.sh_slices_Sort_int : Go.Proofs.SlLaysM.n5 Try.prog Try.sh_slices_Sort_int_ren := {
  mixed := by kernel_rfl
  f5 := ⟨Try.f37.name, by decide, Try.func37.trans (congrArg some (by kernel_rfl))⟩
  f7 := ⟨Try.f55.name, by decide, Try.func55.trans (congrArg some (by kernel_rfl))⟩
  f8 := Try.func56.trans (congrArg some (by kernel_rfl))
  f10 := ⟨Try.f72.name, by decide, Try.func72.trans (congrArg some (by kernel_rfl))⟩
  f11 := ⟨Try.f73.name, by decide, Try.func73.trans (congrArg some (by kernel_rfl))⟩
  f12 := ⟨Try.f74.name, by decide, Try.func74.trans (congrArg some (by kernel_rfl))⟩
  f13 := ⟨Try.f75.name, by decide, Try.func75.trans (congrArg some (by kernel_rfl))⟩
  f14 := ⟨Try.f76.name, by decide, Try.func76.trans (congrArg some (by kernel_rfl))⟩
  f15 := ⟨Try.f77.name, by decide, Try.func77.trans (congrArg some (by kernel_rfl))⟩
  f16 := ⟨Try.f78.name, by decide, Try.func78.trans (congrArg some (by kernel_rfl))⟩
  f17 := ⟨Try.f79.name, by decide, Try.func79.trans (congrArg some (by kernel_rfl))⟩
  f18 := ⟨Try.f80.name, by decide, Try.func80.trans (congrArg some (by kernel_rfl))⟩
  f19 := Try.func81.trans (congrArg some (by kernel_rfl))
  f20 := Try.func82.trans (congrArg some (by kernel_rfl))
  f30 := ⟨Try.f90.name, by decide, Try.func90.trans (congrArg some (by kernel_rfl))⟩
  f31 := Try.func91.trans (congrArg some (by kernel_rfl))
  f32 := Try.func92.trans (congrArg some (by kernel_rfl))
  f33 := ⟨Try.f93.name, by decide, Try.func93.trans (congrArg some (by kernel_rfl))⟩
  f34 := ⟨Try.f94.name, by decide, Try.func94.trans (congrArg some (by kernel_rfl))⟩
  f35 := ⟨Try.f95.name, by decide, Try.func95.trans (congrArg some (by kernel_rfl))⟩
  f40 := ⟨Try.f100.name, by decide, Try.func100.trans (congrArg some (by kernel_rfl))⟩
  t0 := Try.underlying0
  a0 := Try.isAgg0
  z0 := Try.sizeOf0
  v0 := Try.zeroValue0
  t3 := Try.underlying3
  a3 := Try.isAgg3
  z3 := Try.sizeOf3
  v3 := Try.zeroValue3
  t4 := Try.underlying4
  a4 := Try.isAgg4
  z4 := Try.sizeOf4
  v4 := Try.zeroValue4
  t5 := Try.underlying5
  a5 := Try.isAgg5
  z5 := Try.sizeOf5
  v5 := Try.zeroValue5
  t9 := Try.underlying9
  a9 := Try.isAgg9
  z9 := Try.sizeOf9
  v9 := Try.zeroValue9
  t22 := Try.underlying61
  a22 := Try.isAgg61
  z22 := Try.sizeOf61
  v22 := Try.zeroValue61
  t23 := Try.underlying61
  a23 := Try.isAgg61
  z23 := Try.sizeOf61
  v23 := Try.zeroValue61
  t25 := Try.underlying3
  a25 := Try.isAgg3
  z25 := Try.sizeOf3
  v25 := Try.zeroValue3
  t32 := Try.underlying100
  a32 := Try.isAgg100
  z32 := Try.sizeOf100
  v32 := Try.zeroValue100
  t35 := Try.underlying116
  a35 := Try.isAgg116
  z35 := Try.sizeOf116
  v35 := Try.zeroValue116
  t36 := Try.underlying117
  a36 := Try.isAgg117
  z36 := Try.sizeOf117
  v36 := Try.zeroValue117
  t41 := Try.underlying33
  a41 := Try.isAgg33
  z41 := Try.sizeOf33
  v41 := Try.zeroValue33
  t44 := Try.underlying124
  a44 := Try.isAgg124
  z44 := Try.sizeOf124
  v44 := Try.zeroValue124
  t46 := Try.underlying126
  a46 := Try.isAgg126
  z46 := Try.sizeOf126
  v46 := Try.zeroValue126
  t53 := Try.underlying133
  a53 := Try.isAgg133
  z53 := Try.sizeOf133
  v53 := Try.zeroValue133
  t57 := Try.underlying137
  a57 := Try.isAgg137
  z57 := Try.sizeOf137
  v57 := Try.zeroValue137
  t63 := Try.underlying143
  a63 := Try.isAgg143
  z63 := Try.sizeOf143
  v63 := Try.zeroValue143
  t64 := Try.underlying144
  a64 := Try.isAgg144
  z64 := Try.sizeOf144
  v64 := Try.zeroValue144 }
def Try.sh_maps_Clone_Group_ren : Go.Shelf.Ren := ⟨fun | 5 => 39 | 7 => 57 | n => n, fun | 23 => 50 | 25 => 3 | 3 => 42 | 4 => 4 | 20 => 20 | n => n, fun | n => n⟩
theorem Try.sh_maps_Clone_Group : Go.Proofs.SlLaysW.n5 Try.prog Try.sh_maps_Clone_Group_ren := {
  mixed := by kernel_rfl
  f5 := ⟨Try.f39.name, by decide, Try.func39.trans (congrArg some (by kernel_rfl))⟩
  f7 := Try.func57.trans (congrArg some (by kernel_rfl))
  t4 := Try.underlying4
  a4 := Try.isAgg4
  z4 := Try.sizeOf4
  v4 := Try.zeroValue4
  t20 := Try.underlying20
  a20 := Try.isAgg20
  z20 := Try.sizeOf20
  v20 := Try.zeroValue20
  t23 := Try.underlying50
  a23 := Try.isAgg50
  z23 := Try.sizeOf50
  v23 := Try.zeroValue50 }
end Go.Proofs
end
section
namespace Go.Proofs.Ytmfhchaoijiodaa
open Go.Ab Go.Maps
set_option linter.unusedVariables false
set_option linter.unusedSimpArgs false
set_option maxRecDepth 100000
set_option maxHeartbeats 4000000
theorem sortsI (m : Nat) : AnyZI.SortsIn Try.prog Try.sh_slices_Sorted_int_ren Fence.wide m :=
  ⟨fun blk off cap ss W hH hblk hsz => callsIn_wide.2 (AnyM.slices_Sort_int Try.sh_slices_Sort_int blk off cap ss W hH hblk hsz),
   fun p cap W => callsIn_wide.2 (AnyM.slices_Sort_int_none Try.sh_slices_Sort_int p cap W)⟩
theorem ct_sorted_Group {β : Type} {s : AState} {cb b : Nat} {enc : β → AV} {A B : List (Int × β)} (hcb : s.get cb = .cells [.m b]) (hb : s.get b = .map (encM enc A)) (hAB : Rep A B)
    (hw : ∀ x ∈ B, -9223372036854775808 ≤ x.1 ∧ x.1 < 9223372036854775808) (hlen : B.length * 8 ≤ 140737488355328) :
    Gives prog F_slices_Sorted_int [.f (.func F_maps_Keys_Group_1) [] [.p cb 0]] s (.sl ((B.map (·.1)).map fun n => .v (.int .i64 n)) .no) s := by
  refine Runs.sorted (kt := Try.sh_maps_Keys_Group_ren.t 26) (T := Try.sh_slices_Sorted_int_ren.t 26) (enters_of Try.func22 (by kernel_rfl) rfl) hcb hb hAB hw Try.sh_maps_Keys_Group.t26 hlen ?_
  intro w Bm r D0 hc hlt hown hsz
  have hseq := AnyZI.keys_gives (ρ := Try.sh_maps_Keys_Group_ren) { Try.sh_maps_Keys_Group with } Fence.wide 2 trivial rfl (by omega) Bm r _ D0 w hlt hc hown
  have := AnyZI.sorted_in Try.sh_slices_Sorted_int Fence.wide 5 trivial trivial trivial trivial rfl (by omega) (sortsI _) (enters_of Try.func37 (by kernel_rfl) rfl) F_maps_Keys_Group_1 #[.pointer (some ⟨Bm, 0, none⟩)] trivial (enters_of Try.func38 (by kernel_rfl) rfl) _ (Maps.size D0)
    (by have e : maxLen = 9223372036854775807 := rfl; omega) (by omega) w hseq
  exact (callsIn_wide (n := 5)).1 this
theorem ct_maps_Keys_Group {b : Nat} {s : AState} : Gives prog F_maps_Keys_Group [.m b] s (.f (.func F_maps_Keys_Group_1) [] [.p s.n 0]) (s.alloc (.cells [.m b])) := by
  refine runs_e h_maps_Keys_Group (Nat.le_of_ble_eq_true rfl) ?_
  refine st0 ?_
  exact ret_ok rfl ⟨rfl, rfl⟩
theorem ct_maps_Clone_Group {κ β : Type} [DecidableEq κ] [KE κ] {s : AState} {b : Nat} {enc : β → AV} {A : List (κ × β)} (hb : s.get b = .map (encM enc A)) : Gives prog F_maps_Clone_Group [.m b] s (.m s.n) (s.alloc (.map (encM enc A))) :=
  Runs.clone (enters_of Try.func39 (by kernel_rfl) rfl) hb fun w r es clock h => AnyW.maps_Clone Try.sh_maps_Clone_Group r es clock w h
theorem ct_slices_Clone_Entry {es : List Ent} {s : AState} (hlen : es.length * 32 ≤ 140737488355328) : Gives prog F_slices_Clone_Entry [.sl (es.map Ent.av) .no] s (.sl (es.map Ent.av) .no) s := by
  refine Runs.gives' (runs_e h_slices_Clone_Entry (Nat.le_of_ble_eq_true rfl) ?_) (flat_sl Ent.row _)
  refine st0 ?_
  refine i_N (fun hne => ?_) (fun hne b => ?_)
  · refine st0 ?_
    refine m_app (xs := []) (tk := .zero) (B := s) (N := s.n) (by simp) (by simp; exact ⟨rfl, rfl⟩) (Grows.refl s) (Nat.le_refl _) (Nat.le_refl _) trivial (by simp) (by simp) (by simp; omega) (by simp; omega) ?_
    intro s' tk2 hg hm _ _
    refine st0 ?_
    exact ret_ok rfl ⟨hg, by simpa using AV.le_no _ _⟩
  · have : es = [] := by simpa using hne
    subst this
    cases b
    · refine st0 ?_
      exact ret_ok rfl ⟨Grows.refl _, AV.le_no _ _⟩
    · refine st0 ?_
      exact ret_ok rfl ⟨Grows.refl _, AV.le_no _ _⟩
end Go.Proofs.Ytmfhchaoijiodaa
end
section
namespace Go.Ab
set_option linter.unusedVariables false
structure ManyAt (s : AState) (b mb : Nat) (A M : List (Int × Grp)) : Prop where
  b : s.get b = .cells [.m mb]
  m : s.get mb = .map (encM Grp.av A)
  r : Rep A M
theorem ManyAt.keep {s s' : AState} {b mb : Nat} {A M : List (Int × Grp)} (h : ManyAt s b mb A M) (k : ∀ x, x = b ∨ x = mb → s'.get x = s.get x) : ManyAt s' b mb A M :=
  ⟨(k b (.inl rfl)).trans h.b, (k mb (.inr rfl)).trans h.m, h.r⟩
theorem ManyAt.lt {s : AState} {b mb : Nat} {A M : List (Int × Grp)} (h : ManyAt s b mb A M) : b < s.n ∧ mb < s.n ∧ b ≠ mb :=
  ⟨AState.lt_of_get h.b (by simp), AState.lt_of_get h.m (by simp), fun e => by have h1 := h.b; have h2 := h.m; rw [e, h2] at h1; cases h1⟩
def zeroG' : Grp := ⟨0, 0, 0, 0, 0, 0, []⟩
end Go.Ab
namespace Go.Proofs.Ytmfhchaoijiodaa
open Go.Ab
set_option linter.unusedVariables false
set_option linter.unusedSimpArgs false
set_option maxRecDepth 100000
set_option maxHeartbeats 1000000
theorem rn_many_New {s : AState} : Runs (compCode prog) prog F_many_New [] s (fun x s' => x = .p (s.n + 1) 0 ∧ s' = (s.alloc (.map [])).alloc (.cells [.m s.n])) := by
  refine runs_e h_many_New (Nat.le_of_ble_eq_true rfl) ?_
  refine st0 ?_
  exact ret_ok rfl ⟨rfl, rfl⟩
theorem ct_many_copied {g : Grp} {s : AState} (hl : g.es.length * 32 ≤ 140737488355328) : Gives prog F_many_copied [g.av] s g.av s := by
  refine Runs.gives' (runs_e h_many_copied (Nat.le_of_ble_eq_true rfl) ?_) (Grp.row _).flat
  refine st0 ?_
  refine gv (ct_slices_Clone_Entry (es := g.es) hl) ?_
  refine st0 ?_
  refine ret_ok (by simp; rfl) ⟨((Grows.refl _).alloc _).alloc _, ?_⟩
  simp [retVal]; exact .refl _
theorem ct_many_Many_Get {b mb : Nat} {A M : List (Int × Grp)} {i : Int} {s : AState} {B : Nat} (h : ManyAt s b mb A M) (hM : ManyOk B M) (hB : B ≤ 1000000) :
    Gives prog F_many_Many_Get [.p b 0, .v (.int .i64 i)] s (.tup [((lk M i).getD zeroG').av, .v (.bool (lk M i).isSome)]) s := by
  refine Runs.gives' (runs_e h_many_Many_Get (Nat.le_of_ble_eq_true rfl) ?_) (Flat.tup (by simp; exact ⟨(Grp.row _).flat, .v _⟩))
  obtain ⟨lb, lm, lne⟩ := h.lt
  obtain ⟨h1, h2, h3⟩ := h
  repeat (first | simp -dsimp -implicitDefEqProofs (disch := first | omega | (simp <;> omega) | fail) [h1] | ((with_reducible first | apply m_1 | apply m_0); (focus ((conv => lhs; simp -dsimp -implicitDefEqProofs (disch := first | omega | (simp <;> omega) | fail) [h1]); done))) | ((with_reducible first | apply i_T | apply g_T); (focus (simp -dsimp -implicitDefEqProofs (disch := first | omega | (simp <;> omega) | fail) [h1]; done))) | ((with_reducible first | apply i_F | apply g_F); (focus (simp -dsimp -implicitDefEqProofs (disch := first | omega | (simp <;> omega) | fail) [h1]; done))))
  refine m_look (κ := Int) (A := A) (enc := Grp.av) (k := i) (b := mb) (by simp) (dz1 h2) (by simp; rfl) ?_
  have hl : ((lk M i).getD zeroG').es.length ≤ 1000000 := by
    cases hk : lk M i with
    | none => exact Nat.zero_le _
    | some g => have := hM.len _ (lk_mem hk); simp only [Option.getD_some] at this ⊢; omega
  unfold lkV
  rw [h3.lk]
  generalize lk M i = o at hl ⊢
  cases o with
  | none =>
    repeat (first | simp -dsimp -implicitDefEqProofs (disch := first | omega | (simp <;> omega) | fail) | ((with_reducible first | apply m_1 | apply m_0); (focus ((conv => lhs; simp -dsimp -implicitDefEqProofs (disch := first | omega | (simp <;> omega) | fail)); done))) | ((with_reducible first | apply i_T | apply g_T); (focus (simp -dsimp -implicitDefEqProofs (disch := first | omega | (simp <;> omega) | fail); done))) | ((with_reducible first | apply i_F | apply g_F); (focus (simp -dsimp -implicitDefEqProofs (disch := first | omega | (simp <;> omega) | fail); done))))
    refine gv (ct_many_copied (g := zeroG') (by simp [zeroG'])) ?_
    refine st0 ?_
    refine ret_ok (by simp; rfl) ⟨((Grows.refl _).alloc _).alloc _, ?_⟩
    simp [retVal, zeroG', Grp.av, Grp.cells]; exact .refl _
  | some g =>
    simp only [Option.getD_some] at hl
    repeat (first | simp -dsimp -implicitDefEqProofs (disch := first | omega | (simp <;> omega) | fail) | ((with_reducible first | apply m_1 | apply m_0); (focus ((conv => lhs; simp -dsimp -implicitDefEqProofs (disch := first | omega | (simp <;> omega) | fail)); done))) | ((with_reducible first | apply i_T | apply g_T); (focus (simp -dsimp -implicitDefEqProofs (disch := first | omega | (simp <;> omega) | fail); done))) | ((with_reducible first | apply i_F | apply g_F); (focus (simp -dsimp -implicitDefEqProofs (disch := first | omega | (simp <;> omega) | fail); done))))
    refine gv (ct_many_copied (g := g) (by omega)) ?_
    repeat (first | simp -dsimp -implicitDefEqProofs (disch := first | omega | (simp <;> omega) | fail) | ((with_reducible first | apply m_1 | apply m_0); (focus ((conv => lhs; simp -dsimp -implicitDefEqProofs (disch := first | omega | (simp <;> omega) | fail)); done))) | ((with_reducible first | apply i_T | apply g_T); (focus (simp -dsimp -implicitDefEqProofs (disch := first | omega | (simp <;> omega) | fail); done))) | ((with_reducible first | apply i_F | apply g_F); (focus (simp -dsimp -implicitDefEqProofs (disch := first | omega | (simp <;> omega) | fail); done))))
    refine ret_ok (by simp; rfl) ⟨((Grows.refl _).alloc _).alloc _, ?_⟩
    simp [retVal]; exact .refl _
theorem rn_many_Many_Copy {b mb : Nat} {A M : List (Int × Grp)} {s : AState} (h : ManyAt s b mb A M) : Runs (compCode prog) prog F_many_Many_Copy [.p b 0] s (fun x s' => x = .p (s.n + 1) 0 ∧ s' = (s.alloc (.map (encM Grp.av A))).alloc (.cells [.m s.n])) := by
  refine runs_e h_many_Many_Copy (Nat.le_of_ble_eq_true rfl) ?_
  obtain ⟨lb, lm, lne⟩ := h.lt
  obtain ⟨h1, h2, h3⟩ := h
  repeat (first | simp -dsimp -implicitDefEqProofs (disch := first | omega | (simp <;> omega) | fail) [h1] | ((with_reducible first | apply m_1 | apply m_0); (focus ((conv => lhs; simp -dsimp -implicitDefEqProofs (disch := first | omega | (simp <;> omega) | fail) [h1]); done))) | ((with_reducible first | apply i_T | apply g_T); (focus (simp -dsimp -implicitDefEqProofs (disch := first | omega | (simp <;> omega) | fail) [h1]; done))) | ((with_reducible first | apply i_F | apply g_F); (focus (simp -dsimp -implicitDefEqProofs (disch := first | omega | (simp <;> omega) | fail) [h1]; done))))
  refine gv (ct_maps_Clone_Group (A := A) (enc := Grp.av) (b := mb) h2) ?_
  refine st0 ?_
  exact ret_ok rfl ⟨rfl, rfl⟩
theorem rn_many_Many_one {b mb : Nat} {A M : List (Int × Grp)} {p : Prt} {s : AState} {B : Nat} (h : ManyAt s b mb A M) (hM : ManyOk B M) (hB : B ≤ 1000000) (hp : isPart p = true) :
    Runs (compCode prog) prog F_many_Many_one [.p b 0, p.av] s (fun x s' => x = .v (.int .i64 (errM M p)) ∧ Mut [mb] [] s s' ∧ ∃ A', ManyAt s' b mb A' (oneM M p)) := by
  refine runs_e h_many_Many_one (Nat.le_of_ble_eq_true rfl) ?_
  obtain ⟨lb, lm, lne⟩ := h.lt
  obtain ⟨h1, h2, h3⟩ := h
  have hO := okP hp
  have hl6 := hO.len
  repeat (first | simp -dsimp -implicitDefEqProofs (disch := first | omega | (simp <;> omega) | fail) [h1] | (with_reducible apply m_draw) | ((with_reducible refine ⟨m_op ?_, ?_⟩); (focus (simp -dsimp -implicitDefEqProofs (disch := first | omega | (simp <;> omega) | fail) [h1]; done))) | ((with_reducible first | apply m_d1 rfl | apply m_dE | apply m_dE0); (focus ((conv => lhs; simp -dsimp -implicitDefEqProofs (disch := first | omega | (simp <;> omega) | fail) [h1]); done))) | ((with_reducible first | apply m_1 | apply m_0); (focus ((conv => lhs; simp -dsimp -implicitDefEqProofs (disch := first | omega | (simp <;> omega) | fail) [h1]); done))) | ((with_reducible first | apply i_T | apply g_T | apply h_T); (focus (simp -dsimp -implicitDefEqProofs (disch := first | omega | (simp <;> omega) | fail) [h1]; done))) | ((with_reducible first | apply i_F | apply g_F | apply h_F); (focus (simp -dsimp -implicitDefEqProofs (disch := first | omega | (simp <;> omega) | fail) [h1]; done))))
  refine q_look (κ := Int) (A := A) (enc := Grp.av) (k := p.gr) (b := mb) (by simp) (by simp (disch := first | omega | (simp <;> omega) | fail) [h2]) (by simp; rfl) ?_
  unfold lkV errM oneM
  rw [h3.lk]
  cases hk : lk M p.gr with
  | none =>
    have hg := newG_ok (i := p.gr) hO.gr
    by_cases k35 : p.kd = 3 ∨ p.kd = 5
    · rw [if_pos k35]
      simp only [if_pos k35]
      have out : ∀ s', (∀ x, x < s.n → s'.get x = s.get x) → s.n ≤ s'.n → AV.v (.int .i64 13) = .v (.int .i64 13) ∧ Mut [mb] [] s s' ∧ ∃ A', ManyAt s' b mb A' M := fun s' k n =>
        ⟨rfl, ⟨n, fun x hx _ => k x hx, by simp⟩, A, (⟨h1, h2, h3⟩ : ManyAt s b mb A M).keep fun x hx => by rcases hx with rfl | rfl <;> exact k _ (by assumption)⟩
      rcases k35 with k3 | k3
      · repeat (first | simp -dsimp -implicitDefEqProofs (disch := first | omega | (simp <;> omega) | fail) [k3] | (with_reducible apply m_draw) | ((with_reducible refine ⟨m_op ?_, ?_⟩); (focus (simp -dsimp -implicitDefEqProofs (disch := first | omega | (simp <;> omega) | fail) [k3]; done))) | ((with_reducible first | apply m_d1 rfl | apply m_dE | apply m_dE0); (focus ((conv => lhs; simp -dsimp -implicitDefEqProofs (disch := first | omega | (simp <;> omega) | fail) [k3]); done))) | ((with_reducible first | apply m_1 | apply m_0); (focus ((conv => lhs; simp -dsimp -implicitDefEqProofs (disch := first | omega | (simp <;> omega) | fail) [k3]); done))) | ((with_reducible first | apply i_T | apply g_T | apply h_T); (focus (simp -dsimp -implicitDefEqProofs (disch := first | omega | (simp <;> omega) | fail) [k3]; done))) | ((with_reducible first | apply i_F | apply g_F | apply h_F); (focus (simp -dsimp -implicitDefEqProofs (disch := first | omega | (simp <;> omega) | fail) [k3]; done))))
        refine ⟨.of_ext (AState.ext_alloc _ _), ?_⟩
        repeat (first | simp -dsimp -implicitDefEqProofs (disch := first | omega | (simp <;> omega) | fail) [k3] | (with_reducible apply m_draw) | ((with_reducible refine ⟨m_op ?_, ?_⟩); (focus (simp -dsimp -implicitDefEqProofs (disch := first | omega | (simp <;> omega) | fail) [k3]; done))) | ((with_reducible first | apply m_d1 rfl | apply m_dE | apply m_dE0); (focus ((conv => lhs; simp -dsimp -implicitDefEqProofs (disch := first | omega | (simp <;> omega) | fail) [k3]); done))) | ((with_reducible first | apply m_1 | apply m_0); (focus ((conv => lhs; simp -dsimp -implicitDefEqProofs (disch := first | omega | (simp <;> omega) | fail) [k3]); done))) | ((with_reducible first | apply i_T | apply g_T | apply h_T); (focus (simp -dsimp -implicitDefEqProofs (disch := first | omega | (simp <;> omega) | fail) [k3]; done))) | ((with_reducible first | apply i_F | apply g_F | apply h_F); (focus (simp -dsimp -implicitDefEqProofs (disch := first | omega | (simp <;> omega) | fail) [k3]; done))))
        exact ret_ok rfl (out _ (fun x hx => by simp (disch := first | omega | (simp <;> omega) | fail)) (by simp <;> omega))
      · have k33 : ¬ p.kd = 3 := by omega
        repeat (first | simp -dsimp -implicitDefEqProofs (disch := first | omega | (simp <;> omega) | fail) [k3, k33] | (with_reducible apply m_draw) | ((with_reducible refine ⟨m_op ?_, ?_⟩); (focus (simp -dsimp -implicitDefEqProofs (disch := first | omega | (simp <;> omega) | fail) [k3, k33]; done))) | ((with_reducible first | apply m_d1 rfl | apply m_dE | apply m_dE0); (focus ((conv => lhs; simp -dsimp -implicitDefEqProofs (disch := first | omega | (simp <;> omega) | fail) [k3, k33]); done))) | ((with_reducible first | apply m_1 | apply m_0); (focus ((conv => lhs; simp -dsimp -implicitDefEqProofs (disch := first | omega | (simp <;> omega) | fail) [k3, k33]); done))) | ((with_reducible first | apply i_T | apply g_T | apply h_T); (focus (simp -dsimp -implicitDefEqProofs (disch := first | omega | (simp <;> omega) | fail) [k3, k33]; done))) | ((with_reducible first | apply i_F | apply g_F | apply h_F); (focus (simp -dsimp -implicitDefEqProofs (disch := first | omega | (simp <;> omega) | fail) [k3, k33]; done))))
        refine ⟨.of_ext (AState.ext_alloc _ _), ?_⟩
        repeat (first | simp -dsimp -implicitDefEqProofs (disch := first | omega | (simp <;> omega) | fail) [k3, k33] | (with_reducible apply m_draw) | ((with_reducible refine ⟨m_op ?_, ?_⟩); (focus (simp -dsimp -implicitDefEqProofs (disch := first | omega | (simp <;> omega) | fail) [k3, k33]; done))) | ((with_reducible first | apply m_d1 rfl | apply m_dE | apply m_dE0); (focus ((conv => lhs; simp -dsimp -implicitDefEqProofs (disch := first | omega | (simp <;> omega) | fail) [k3, k33]); done))) | ((with_reducible first | apply m_1 | apply m_0); (focus ((conv => lhs; simp -dsimp -implicitDefEqProofs (disch := first | omega | (simp <;> omega) | fail) [k3, k33]); done))) | ((with_reducible first | apply i_T | apply g_T | apply h_T); (focus (simp -dsimp -implicitDefEqProofs (disch := first | omega | (simp <;> omega) | fail) [k3, k33]; done))) | ((with_reducible first | apply i_F | apply g_F | apply h_F); (focus (simp -dsimp -implicitDefEqProofs (disch := first | omega | (simp <;> omega) | fail) [k3, k33]; done))))
        exact ret_ok rfl (out _ (fun x hx => by simp (disch := first | omega | (simp <;> omega) | fail)) (by simp <;> omega))
    · rw [if_neg k35]
      simp only [if_neg k35]
      have k3 : ¬ p.kd = 3 := fun e => k35 (.inl e)
      have k5 : ¬ p.kd = 5 := fun e => k35 (.inr e)
      have hes : (newG p.gr).es.length = 0 := rfl
      repeat (first | simp -dsimp -implicitDefEqProofs (disch := first | omega | (simp <;> omega) | fail) [k3, k5] | (with_reducible apply m_draw) | ((with_reducible refine ⟨m_op ?_, ?_⟩); (focus (simp -dsimp -implicitDefEqProofs (disch := first | omega | (simp <;> omega) | fail) [k3, k5]; done))) | ((with_reducible first | apply m_d1 rfl | apply m_dE | apply m_dE0); (focus ((conv => lhs; simp -dsimp -implicitDefEqProofs (disch := first | omega | (simp <;> omega) | fail) [k3, k5]); done))) | ((with_reducible first | apply m_1 | apply m_0); (focus ((conv => lhs; simp -dsimp -implicitDefEqProofs (disch := first | omega | (simp <;> omega) | fail) [k3, k5]); done))) | ((with_reducible first | apply i_T | apply g_T | apply h_T); (focus (simp -dsimp -implicitDefEqProofs (disch := first | omega | (simp <;> omega) | fail) [k3, k5]; done))) | ((with_reducible first | apply i_F | apply g_F | apply h_F); (focus (simp -dsimp -implicitDefEqProofs (disch := first | omega | (simp <;> omega) | fail) [k3, k5]; done))))
      refine ⟨.of_ext (AState.ext_alloc _ _), ?_⟩
      repeat (first | simp -dsimp -implicitDefEqProofs (disch := first | omega | (simp <;> omega) | fail) [k3, k5] | (with_reducible apply m_draw) | ((with_reducible refine ⟨m_op ?_, ?_⟩); (focus (simp -dsimp -implicitDefEqProofs (disch := first | omega | (simp <;> omega) | fail) [k3, k5]; done))) | ((with_reducible first | apply m_d1 rfl | apply m_dE | apply m_dE0); (focus ((conv => lhs; simp -dsimp -implicitDefEqProofs (disch := first | omega | (simp <;> omega) | fail) [k3, k5]); done))) | ((with_reducible first | apply m_1 | apply m_0); (focus ((conv => lhs; simp -dsimp -implicitDefEqProofs (disch := first | omega | (simp <;> omega) | fail) [k3, k5]); done))) | ((with_reducible first | apply i_T | apply g_T | apply h_T); (focus (simp -dsimp -implicitDefEqProofs (disch := first | omega | (simp <;> omega) | fail) [k3, k5]; done))) | ((with_reducible first | apply i_F | apply g_F | apply h_F); (focus (simp -dsimp -implicitDefEqProofs (disch := first | omega | (simp <;> omega) | fail) [k3, k5]; done))))
      refine giv (ct_group_New (id := p.gr)) (by first | (simp; done) | rfl | (simp; rfl)) ?_
      repeat (first | simp -dsimp -implicitDefEqProofs (disch := first | omega | (simp <;> omega) | fail) [k5, k3] | (with_reducible apply m_draw) | ((with_reducible refine ⟨m_op ?_, ?_⟩); (focus (simp -dsimp -implicitDefEqProofs (disch := first | omega | (simp <;> omega) | fail) [k5, k3]; done))) | ((with_reducible first | apply m_d1 rfl | apply m_dE | apply m_dE0); (focus ((conv => lhs; simp -dsimp -implicitDefEqProofs (disch := first | omega | (simp <;> omega) | fail) [k5, k3]); done))) | ((with_reducible first | apply m_1 | apply m_0); (focus ((conv => lhs; simp -dsimp -implicitDefEqProofs (disch := first | omega | (simp <;> omega) | fail) [k5, k3]); done))) | ((with_reducible first | apply i_T | apply g_T | apply h_T); (focus (simp -dsimp -implicitDefEqProofs (disch := first | omega | (simp <;> omega) | fail) [k5, k3]; done))) | ((with_reducible first | apply i_F | apply g_F | apply h_F); (focus (simp -dsimp -implicitDefEqProofs (disch := first | omega | (simp <;> omega) | fail) [k5, k3]; done))))
      refine giv (ct_group_Do (g := (newG p.gr)) (p := p) hg.s (by omega) (by omega)) (by first | (simp; done) | rfl | (simp; rfl)) ?_
      by_cases hc : chkG (newG p.gr) p = 0
      · have hrun : runG (newG p.gr) p = doG (newG p.gr) p := by unfold runG; rw [if_pos hc]
        repeat (first | simp -dsimp -implicitDefEqProofs (disch := first | omega | (simp <;> omega) | fail) [hc, h1, hrun] | ((with_reducible first | apply m_1 | apply m_0); (focus ((conv => lhs; simp -dsimp -implicitDefEqProofs (disch := first | omega | (simp <;> omega) | fail) [hc, h1, hrun]); done))) | ((with_reducible first | apply i_T | apply g_T); (focus (simp -dsimp -implicitDefEqProofs (disch := first | omega | (simp <;> omega) | fail) [hc, h1, hrun]; done))) | ((with_reducible first | apply i_F | apply g_F); (focus (simp -dsimp -implicitDefEqProofs (disch := first | omega | (simp <;> omega) | fail) [hc, h1, hrun]; done))))
        refine m_mset (κ := Int) (A := A) (k := p.gr) (v := doG (newG p.gr) p) (b := mb) (enc := Grp.av) (by simp) (by simp (disch := first | omega | (simp <;> omega) | fail) [h2]) (by simp; rfl) (by simp) ?_
        repeat (first | simp -dsimp -implicitDefEqProofs (disch := first | omega | (simp <;> omega) | fail) | ((with_reducible first | apply m_1 | apply m_0); (focus ((conv => lhs; simp -dsimp -implicitDefEqProofs (disch := first | omega | (simp <;> omega) | fail)); done))) | ((with_reducible first | apply i_T | apply g_T); (focus (simp -dsimp -implicitDefEqProofs (disch := first | omega | (simp <;> omega) | fail); done))) | ((with_reducible first | apply i_F | apply g_F); (focus (simp -dsimp -implicitDefEqProofs (disch := first | omega | (simp <;> omega) | fail); done))))
        refine ret_ok rfl ⟨by simp [retVal, hc], ?_, setM A p.gr (doG (newG p.gr) p), ?_⟩
        · exact ⟨by simp <;> omega, fun x hx hn => by simp only [List.mem_singleton] at hn; simp (disch := first | omega | (simp <;> omega) | fail) [hn], by simp⟩
        · rw [if_pos hc]
          exact ⟨by simp (disch := first | omega | (simp <;> omega) | fail) [h1], by simp (disch := first | omega | (simp <;> omega) | fail), h3.set _ _⟩
      · repeat (first | simp -dsimp -implicitDefEqProofs (disch := first | omega | (simp <;> omega) | fail) [hc] | ((with_reducible first | apply m_1 | apply m_0); (focus ((conv => lhs; simp -dsimp -implicitDefEqProofs (disch := first | omega | (simp <;> omega) | fail) [hc]); done))) | ((with_reducible first | apply i_T | apply g_T); (focus (simp -dsimp -implicitDefEqProofs (disch := first | omega | (simp <;> omega) | fail) [hc]; done))) | ((with_reducible first | apply i_F | apply g_F); (focus (simp -dsimp -implicitDefEqProofs (disch := first | omega | (simp <;> omega) | fail) [hc]; done))))
        refine ret_ok rfl ⟨by simp [retVal], ?_, A, ?_⟩
        · exact ⟨by simp <;> omega, fun x hx hn => by simp (disch := first | omega | (simp <;> omega) | fail), by simp⟩
        · rw [if_neg hc]
          exact ⟨by simp (disch := first | omega | (simp <;> omega) | fail) [h1], by simp (disch := first | omega | (simp <;> omega) | fail) [h2], h3⟩
  | some g =>
    have hm := lk_mem hk
    obtain ⟨hg, hi⟩ := hM.ok _ hm
    have hb := hM.len _ hm
    simp only [] at hg hi hb
    have hes : g.es.length ≤ 1000000 := by omega
    by_cases k5 : p.kd = 5
    · simp only [if_pos k5]
      repeat (first | simp -dsimp -implicitDefEqProofs (disch := first | omega | (simp <;> omega) | fail) [k5] | (with_reducible apply m_draw) | ((with_reducible refine ⟨m_op ?_, ?_⟩); (focus (simp -dsimp -implicitDefEqProofs (disch := first | omega | (simp <;> omega) | fail) [k5]; done))) | ((with_reducible first | apply m_d1 rfl | apply m_dE | apply m_dE0); (focus ((conv => lhs; simp -dsimp -implicitDefEqProofs (disch := first | omega | (simp <;> omega) | fail) [k5]); done))) | ((with_reducible first | apply m_1 | apply m_0); (focus ((conv => lhs; simp -dsimp -implicitDefEqProofs (disch := first | omega | (simp <;> omega) | fail) [k5]); done))) | ((with_reducible first | apply i_T | apply g_T | apply h_T); (focus (simp -dsimp -implicitDefEqProofs (disch := first | omega | (simp <;> omega) | fail) [k5]; done))) | ((with_reducible first | apply i_F | apply g_F | apply h_F); (focus (simp -dsimp -implicitDefEqProofs (disch := first | omega | (simp <;> omega) | fail) [k5]; done))))
      refine ⟨.of_ext (AState.ext_alloc _ _), ?_⟩
      repeat (first | simp -dsimp -implicitDefEqProofs (disch := first | omega | (simp <;> omega) | fail) [k5, h1] | (with_reducible apply m_draw) | ((with_reducible refine ⟨m_op ?_, ?_⟩); (focus (simp -dsimp -implicitDefEqProofs (disch := first | omega | (simp <;> omega) | fail) [k5, h1]; done))) | ((with_reducible first | apply m_d1 rfl | apply m_dE | apply m_dE0); (focus ((conv => lhs; simp -dsimp -implicitDefEqProofs (disch := first | omega | (simp <;> omega) | fail) [k5, h1]); done))) | ((with_reducible first | apply m_1 | apply m_0); (focus ((conv => lhs; simp -dsimp -implicitDefEqProofs (disch := first | omega | (simp <;> omega) | fail) [k5, h1]); done))) | ((with_reducible first | apply i_T | apply g_T | apply h_T); (focus (simp -dsimp -implicitDefEqProofs (disch := first | omega | (simp <;> omega) | fail) [k5, h1]; done))) | ((with_reducible first | apply i_F | apply g_F | apply h_F); (focus (simp -dsimp -implicitDefEqProofs (disch := first | omega | (simp <;> omega) | fail) [k5, h1]; done))))
      refine m_mdel0 (κ := Int) (A := A) (k := p.gr) (b := mb) (enc := Grp.av) (by simp) (by simp (disch := first | omega | (simp <;> omega) | fail) [h2]) (by simp; rfl) ?_
      refine st0 ?_
      refine ret_ok rfl ⟨rfl, ⟨by simp <;> omega, fun x hx hn => by simp only [List.mem_singleton] at hn; simp (disch := first | omega | (simp <;> omega) | fail) [hn], by simp⟩, delM A p.gr, ⟨dz1 h1, dz0, h3.del _⟩⟩
    · simp only [if_neg k5]
      have k3 : True := trivial
      refine sd1 k5 ?_
      refine ⟨.of_ext (AState.ext_alloc _ _), ?_⟩
      refine sd2 k5 k3 ?_
      refine gv (ct_group_Do (g := g) (p := p) hg.s (by omega) (by omega)) ?_
      by_cases hc : chkG g p = 0
      · have hrun : runG g p = doG g p := by unfold runG; rw [if_pos hc]
        refine st3 hc h1 hrun ?_
        refine m_mset (κ := Int) (A := A) (k := p.gr) (v := doG g p) (b := mb) (enc := Grp.av) (by simp) (dz1 h2) (by simp; rfl) (by simp) ?_
        refine st0 ?_
        refine ret_ok rfl ⟨by simp [retVal, hc], ?_, setM A p.gr (doG g p), ?_⟩
        · exact ⟨by simp <;> omega, fun x hx hn => by simp only [List.mem_singleton] at hn; simp (disch := first | omega | (simp <;> omega) | fail) [hn], by simp⟩
        · rw [if_pos hc]
          exact ⟨dz1 h1, dz0, h3.set _ _⟩
      · refine st1 hc ?_
        refine ret_ok rfl ⟨by simp [retVal], ?_, A, ?_⟩
        · exact ⟨by simp <;> omega, fun x hx hn => dz0, by simp⟩
        · rw [if_neg hc]
          exact ⟨dz1 h1, dz1 h2, h3⟩
end Go.Proofs.Ytmfhchaoijiodaa
end
section
namespace Go.Ab
set_option linter.unusedVariables false
def settledS (g : Grp) (p : Prt) : Prt :=
  match atS g.es p.ix with
  | none => p
  | some e => if p.kd = 3 then { p with tm := e.tm } else if p.kd = 4 ∧ p.tm = e.tm then { p with kd := 3 } else p
theorem at_one {l : List Ent} (h : l.Pairwise fun a b => a.ix < b.ix) (i : Int) : (l.filter (inR i (i + 1))).length ≤ 1 := by
  have h1 := h.filter (inR i (i + 1))
  have h2 : ∀ e ∈ l.filter (inR i (i + 1)), e.ix = i := fun e he => by
    have := (List.mem_filter.1 he).2
    simp [inR] at this; omega
  generalize l.filter (inR i (i + 1)) = m at h1 h2
  match m, h1, h2 with
  | [], _, _ => simp
  | [a], _, _ => simp
  | a :: b :: m, h1, h2 =>
    have e1 := h2 a (by simp)
    have e2 := h2 b (by simp)
    have := (List.pairwise_cons.1 h1).1 b (by simp)
    omega
structure StlI (s : AState) (g : Grp) (p q : Prt) (s' : AState) : Prop where
  b0 : s'.get (s.n + 1) = .cells q.cells
  b2 : ∃ cs : List AV, s'.get (s.n + 2) = .cells cs ∧ cs.length = 10
  c1 : s'.get (s.n + 3) = .cells g.cells
  c2 : s'.get (s.n + 4) = .cells [.v (.int .i64 p.ix)]
  c3 : s'.get (s.n + 5) = .cells [.v (.int .i64 (p.ix + 1))]
  g : Grows s s'
  n : s.n + 8 ≤ s'.n
end Go.Ab
namespace Go.Proofs.Ytmfhchaoijiodaa
open Go.Ab
set_option linter.unusedVariables false
set_option linter.unusedSimpArgs false
set_option maxRecDepth 100000
set_option maxHeartbeats 1000000
theorem ct_many_settled {g : Grp} {p : Prt} {s : AState} (hs : g.es.Pairwise fun a b => a.ix < b.ix) (hl : g.es.length ≤ 1000000) (hi : 0 ≤ p.ix ∧ p.ix ≤ MI) : Gives prog F_many_settled [g.av, p.av] s (settledS g p).av s := by
  have hMI := MI_eq
  refine Runs.gives' (runs_e h_many_settled (Nat.le_of_ble_eq_true rfl) ?_) (Prt.row _).flat
  have w1 : IntKind.wrap .i64 (p.ix + 1) = p.ix + 1 := wrap_i64 (by omega) (by omega)
  refine st1 w1 ?_
  refine giv (ct_group_Within (g := g) (lo := p.ix) (hi := p.ix + 1)) (by first | (simp; done) | rfl | (simp; rfl)) ?_
  repeat (first | simp -dsimp -implicitDefEqProofs (disch := first | omega | (simp <;> omega) | fail) | ((with_reducible first | apply m_1 | apply m_0); (focus ((conv => lhs; simp -dsimp -implicitDefEqProofs (disch := first | omega | (simp <;> omega) | fail)); done))) | ((with_reducible first | apply i_T | apply g_T); (focus (simp -dsimp -implicitDefEqProofs (disch := first | omega | (simp <;> omega) | fail); done))) | ((with_reducible first | apply i_F | apply g_F); (focus (simp -dsimp -implicitDefEqProofs (disch := first | omega | (simp <;> omega) | fail); done))))
  have h1 := at_one hs p.ix
  have hset : settledS g p = match (g.es.filter (inR p.ix (p.ix + 1))).head? with
    | none => p
    | some e => if p.kd = 3 then { p with tm := e.tm } else if p.kd = 4 ∧ p.tm = e.tm then { p with kd := 3 } else p := rfl
  have hit := it_group_Within (g := g) (lo := p.ix) (hi := p.ix + 1) (b1 := s.n + 3) (b2 := s.n + 4) (b3 := s.n + 5) (by omega)
  generalize hfl : g.es.filter (inR p.ix (p.ix + 1)) = fl at h1 hset hit
  have hsn : ((((((s.alloc (.cells g.cells)).alloc (.cells p.cells)).alloc (.cells [.v (.int .i64 0), .v (.int .i64 0), .sl [] .zero, .v (.int .i64 0), .v (.int .i64 0), .v (.int .i64 0), .v (.int .i64 0), .v (.int .i64 0), .v (.bool false), .v (.bool false)])).alloc (.cells g.cells)).alloc (.cells [.v (.int .i64 p.ix)])).alloc (.cells [.v (.int .i64 (p.ix + 1))])).n = s.n + 6 := by simp
  refine w_rangeS (m := fl.length) (by simp) hit (by intro x hx; obtain ⟨e, _, rfl⟩ := List.mem_map.1 hx; rfl) (by simp) (fun k s' => StlI s g p (if k = 0 then p else settledS g p) s') (fun j s' => False) ?_ ?_ ?_ ?_ ?_ ?_ ?_
  · intro LR
    refine ⟨by simp (disch := first | omega | (simp <;> omega) | fail), ⟨_, by simp (disch := first | omega | (simp <;> omega) | fail); rfl, rfl⟩, by simp (disch := first | omega | (simp <;> omega) | fail), by simp (disch := first | omega | (simp <;> omega) | fail), by simp (disch := first | omega | (simp <;> omega) | fail), ?_, by simp⟩
    exact ((((((((Grows.refl _).alloc _).alloc _).alloc _).alloc _).alloc _).alloc _).alloc _).alloc _
  · rintro k s' h; exact ⟨h.c1, h.c2, h.c3⟩
  · rintro k s' o hn ⟨b0, ⟨cs, b2, b2'⟩, c1, c2, c3, gr, n⟩
    exact ⟨by simp (disch := first | omega | (simp <;> omega) | fail) [b0], ⟨cs, by simp (disch := first | omega | (simp <;> omega) | fail) [b2], b2'⟩, by simp (disch := first | omega | (simp <;> omega) | fail) [c1], by simp (disch := first | omega | (simp <;> omega) | fail) [c2], by simp (disch := first | omega | (simp <;> omega) | fail) [c3], gr.alloc _, by simp; omega⟩
  · intro j s' o hn h; exact h.elim
  · intro LR LB LJ hLB hLR k hk s' hd hLL hln hI
    have hk' : k < fl.length := by simpa using hk
    have hk0 : k = 0 := by omega
    subst hk0
    obtain ⟨b0, ⟨cs, b2, b2'⟩, c1, c2, c3, gr, n⟩ := hI
    rw [if_pos rfl] at b0
    simp only [hsn, List.getElem_map, List.zip_cons_cons, List.zip_nil_right, List.reverse_cons, List.reverse_nil, List.nil_append, List.cons_append] at hd hLL hln ⊢
    have hh : fl.head? = some fl[0] := by rw [List.head?_eq_getElem?, List.getElem?_eq_getElem hk']
    rw [hh] at hset
    generalize fl[0] = e at hset ⊢
    simp only [] at hset
    by_cases k3 : p.kd = 3
    · rw [if_pos k3] at hset
      repeat (first | simp -dsimp -implicitDefEqProofs (disch := first | omega | (simp <;> omega) | fail) [hLL, b0, k3] | ((with_reducible first | apply m_1 | apply m_0); (focus ((conv => lhs; simp -dsimp -implicitDefEqProofs (disch := first | omega | (simp <;> omega) | fail) [hLL, b0, k3]); done))) | ((with_reducible first | apply i_T | apply g_T); (focus (simp -dsimp -implicitDefEqProofs (disch := first | omega | (simp <;> omega) | fail) [hLL, b0, k3]; done))) | ((with_reducible first | apply i_F | apply g_F); (focus (simp -dsimp -implicitDefEqProofs (disch := first | omega | (simp <;> omega) | fail) [hLL, b0, k3]; done))))
      refine fins_n (fun d hd' => by cases hd'; simp (disch := first | omega | (simp <;> omega) | fail) [hd]) (by simp (disch := first | omega | (simp <;> omega) | fail)) ⟨by rw [if_neg (by omega), hset]; simp (disch := first | omega | (simp <;> omega) | fail) [Prt.cells, k3], ⟨cs, by simp (disch := first | omega | (simp <;> omega) | fail) [b2], b2'⟩, by simp (disch := first | omega | (simp <;> omega) | fail) [c1], by simp (disch := first | omega | (simp <;> omega) | fail) [c2], by simp (disch := first | omega | (simp <;> omega) | fail) [c3], (((gr.set _ (by omega) (by omega)).set _ (by omega) (by simp; omega)).set _ (by omega) (by simp; omega)).alloc _, by simp; omega⟩
    · rw [if_neg k3] at hset
      by_cases k4 : p.kd = 4
      · by_cases ht : p.tm = e.tm
        · rw [if_pos ⟨k4, ht⟩] at hset
          repeat (first | simp -dsimp -implicitDefEqProofs (disch := first | omega | (simp <;> omega) | fail) [hLL, b0, k3, k4, ht] | ((with_reducible first | apply m_1 | apply m_0); (focus ((conv => lhs; simp -dsimp -implicitDefEqProofs (disch := first | omega | (simp <;> omega) | fail) [hLL, b0, k3, k4, ht]); done))) | ((with_reducible first | apply i_T | apply g_T); (focus (simp -dsimp -implicitDefEqProofs (disch := first | omega | (simp <;> omega) | fail) [hLL, b0, k3, k4, ht]; done))) | ((with_reducible first | apply i_F | apply g_F); (focus (simp -dsimp -implicitDefEqProofs (disch := first | omega | (simp <;> omega) | fail) [hLL, b0, k3, k4, ht]; done))))
          refine fins_n (fun d hd' => by cases hd'; simp (disch := first | omega | (simp <;> omega) | fail) [hd]) (by simp (disch := first | omega | (simp <;> omega) | fail)) ⟨by rw [if_neg (by omega), hset]; simp (disch := first | omega | (simp <;> omega) | fail) [Prt.cells, ht], ⟨cs, by simp (disch := first | omega | (simp <;> omega) | fail) [b2], b2'⟩, by simp (disch := first | omega | (simp <;> omega) | fail) [c1], by simp (disch := first | omega | (simp <;> omega) | fail) [c2], by simp (disch := first | omega | (simp <;> omega) | fail) [c3], (((gr.set _ (by omega) (by omega)).set _ (by omega) (by simp; omega)).set _ (by omega) (by simp; omega)).alloc _, by simp; omega⟩
        · rw [if_neg (fun h => ht h.2)] at hset
          repeat (first | simp -dsimp -implicitDefEqProofs (disch := first | omega | (simp <;> omega) | fail) [hLL, b0, k3, k4, ht] | ((with_reducible first | apply m_1 | apply m_0); (focus ((conv => lhs; simp -dsimp -implicitDefEqProofs (disch := first | omega | (simp <;> omega) | fail) [hLL, b0, k3, k4, ht]); done))) | ((with_reducible first | apply i_T | apply g_T); (focus (simp -dsimp -implicitDefEqProofs (disch := first | omega | (simp <;> omega) | fail) [hLL, b0, k3, k4, ht]; done))) | ((with_reducible first | apply i_F | apply g_F); (focus (simp -dsimp -implicitDefEqProofs (disch := first | omega | (simp <;> omega) | fail) [hLL, b0, k3, k4, ht]; done))))
          refine fins_n (fun d hd' => by cases hd'; simp (disch := first | omega | (simp <;> omega) | fail) [hd]) (by simp (disch := first | omega | (simp <;> omega) | fail)) ⟨by rw [if_neg (by omega), hset]; simp (disch := first | omega | (simp <;> omega) | fail) [b0], ⟨cs, by simp (disch := first | omega | (simp <;> omega) | fail) [b2], b2'⟩, by simp (disch := first | omega | (simp <;> omega) | fail) [c1], by simp (disch := first | omega | (simp <;> omega) | fail) [c2], by simp (disch := first | omega | (simp <;> omega) | fail) [c3], (gr.set _ (by omega) (by omega)).alloc _, by simp; omega⟩
      · rw [if_neg (fun h => k4 h.1)] at hset
        repeat (first | simp -dsimp -implicitDefEqProofs (disch := first | omega | (simp <;> omega) | fail) [hLL, b0, k3, k4] | ((with_reducible first | apply m_1 | apply m_0); (focus ((conv => lhs; simp -dsimp -implicitDefEqProofs (disch := first | omega | (simp <;> omega) | fail) [hLL, b0, k3, k4]); done))) | ((with_reducible first | apply i_T | apply g_T); (focus (simp -dsimp -implicitDefEqProofs (disch := first | omega | (simp <;> omega) | fail) [hLL, b0, k3, k4]; done))) | ((with_reducible first | apply i_F | apply g_F); (focus (simp -dsimp -implicitDefEqProofs (disch := first | omega | (simp <;> omega) | fail) [hLL, b0, k3, k4]; done))))
        refine fins_n (fun d hd' => by cases hd'; simp (disch := first | omega | (simp <;> omega) | fail) [hd]) (by simp (disch := first | omega | (simp <;> omega) | fail)) ⟨by rw [if_neg (by omega), hset]; simp (disch := first | omega | (simp <;> omega) | fail) [b0], ⟨cs, by simp (disch := first | omega | (simp <;> omega) | fail) [b2], b2'⟩, by simp (disch := first | omega | (simp <;> omega) | fail) [c1], by simp (disch := first | omega | (simp <;> omega) | fail) [c2], by simp (disch := first | omega | (simp <;> omega) | fail) [c3], (gr.set _ (by omega) (by omega)).alloc _, by simp; omega⟩
  · rintro s' hd hln ⟨b0, ⟨cs, b2, b2'⟩, c1, c2, c3, gr, n⟩
    simp only [hsn] at hd hln ⊢
    have hq : (if fl.length = 0 then p else settledS g p) = settledS g p := by
      split
      · next h => rw [hset, List.eq_nil_of_length_eq_zero h]; rfl
      · rfl
    rw [hq] at b0
    have hcs : List.drop 10 cs = [] := List.drop_eq_nil_of_le (by omega)
    repeat (first | simp -dsimp -implicitDefEqProofs (disch := first | omega | (simp <;> omega) | fail) [b0, b2, b2', hcs] | ((with_reducible first | apply m_1 | apply m_0); (focus ((conv => lhs; simp -dsimp -implicitDefEqProofs (disch := first | omega | (simp <;> omega) | fail) [b0, b2, b2', hcs]); done))) | ((with_reducible first | apply i_T | apply g_T); (focus (simp -dsimp -implicitDefEqProofs (disch := first | omega | (simp <;> omega) | fail) [b0, b2, b2', hcs]; done))) | ((with_reducible first | apply i_F | apply g_F); (focus (simp -dsimp -implicitDefEqProofs (disch := first | omega | (simp <;> omega) | fail) [b0, b2, b2', hcs]; done))))
    have hD : Dfs s.n ((s'.set (s.n + 6 + 1) .dead).set (s.n + 2) (.cells ((settledS g p).cells ++ []))) [s.n + 6] := Dfs.cons (.nil _ _) (by omega) (by simp (disch := first | omega | (simp <;> omega) | fail) [hd]) (by simp)
    refine ret_okD (fun x hx => (hD.1 x hx).2) hD.2 (by simp (disch := first | omega | (simp <;> omega) | fail) [killAll]; rfl) ⟨killAll_grows ((gr.set _ (by omega) (by omega)).set _ (by omega) (by simp; omega)) (Nat.le_refl _) hD, ?_⟩
    simp [retVal]; exact .refl _
  · rintro j s' _ _ h; exact h.elim
end Go.Proofs.Ytmfhchaoijiodaa
end
section
namespace Go.Ab
set_option linter.unusedVariables false
def mayP (p : Prt) : Bool := isPart p && !decide (p.kd = 6)
def stepM (M : List (Int × Grp)) (p : Prt) : List (Int × Grp) := if mayP p = true then oneM M p else M
def outP (M : List (Int × Grp)) (p : Prt) : Prt := if mayP p = true ∧ errM M p = 0 then settledS ((lk M p.gr).getD zeroG') p else p
def stM (M : List (Int × Grp)) (l : List Prt) : List (Int × Grp) := l.foldl stepM M
def outL (M : List (Int × Grp)) : List Prt → List Prt
  | [] => []
  | p :: l => outP M p :: outL (stepM M p) l
theorem outL_append (M : List (Int × Grp)) (a b : List Prt) : outL M (a ++ b) = outL M a ++ outL (stM M a) b := by
  induction a generalizing M with
  | nil => rfl
  | cons p a ih => simp only [List.cons_append, outL, ih]; rfl
theorem outL_len (M : List (Int × Grp)) (l : List Prt) : (outL M l).length = l.length := by
  induction l generalizing M with
  | nil => rfl
  | cons p l ih => simp only [outL, List.length_cons, ih]
theorem outL_snoc {M : List (Int × Grp)} {l : List Prt} {i : Nat} (h : i < l.length) : outL M (l.take (i + 1)) = outL M (l.take i) ++ [outP (stM M (l.take i)) l[i]] := by
  have e : l.take (i + 1) = l.take i ++ [l[i]] := (List.take_append_getElem h).symm
  rw [e, outL_append]; rfl
theorem stM_snoc {M : List (Int × Grp)} {l : List Prt} {i : Nat} (h : i < l.length) : stM M (l.take (i + 1)) = stepM (stM M (l.take i)) l[i] := by
  have e : l.take (i + 1) = l.take i ++ [l[i]] := (List.take_append_getElem h).symm
  unfold stM; rw [e, List.foldl_append]; rfl
theorem ManyOk.step {B : Nat} {M : List (Int × Grp)} (h : ManyOk B M) (p : Prt) : ManyOk (B + 6) (stepM M p) := by
  unfold stepM
  split
  · next hm => exact h.one (by simp only [mayP, Bool.and_eq_true] at hm; exact hm.1)
  · exact h.more (by omega)
theorem ManyOk.st {B : Nat} {M : List (Int × Grp)} (h : ManyOk B M) (l : List Prt) : ManyOk (B + 6 * l.length) (stM M l) := by
  induction l generalizing M B with
  | nil => exact h
  | cons p l ih => exact (ih (h.step p)).more (by simp; omega)
theorem flat_len (l : List Prt) : (l.flatMap Prt.cells).length = l.length * 10 := by
  induction l with
  | nil => rfl
  | cons p l ih => rw [List.flatMap_cons, List.length_append, ih, List.length_cons]; show 10 + _ = _; omega
theorem flat_rep (n : Nat) (z : List AV) : ((List.replicate n z).flatten).length = n * z.length := by
  induction n with
  | zero => simp
  | succ n ih => rw [List.replicate_succ, List.flatten_cons, List.length_append, ih, Nat.add_mul]; omega
structure StI (s : AState) (l : List Prt) (M : List (Int × Grp)) (i : Nat) (s' : AState) : Prop where
  g : ∀ x, x < s.n → s'.get x = s.get x
  n : s.n + 3 ≤ s'.n
  m : ∃ A, ManyAt s' (s.n + 1) s.n A (stM M (l.take i))
  c : ∃ T, s'.get (s.n + 2) = .cells ((outL M (l.take i)).flatMap Prt.cells ++ T) ∧ T.length + i * 10 = l.length * 10
end Go.Ab
namespace Go.Proofs.Ytmfhchaoijiodaa
open Go.Ab
set_option linter.unusedVariables false
set_option linter.unusedSimpArgs false
set_option maxRecDepth 100000
set_option maxHeartbeats 1000000
theorem rn_many_Many_Settle {b mb : Nat} {A M : List (Int × Grp)} {l : List Prt} {s : AState} {B : Nat} (h : ManyAt s b mb A M) (hM : ManyOk B M) (hB : B + 6 * l.length ≤ 1000000) (hl : l.length ≤ 1000) (hes : ∀ p ∈ l, p.es.length ≤ 1000000) :
    Runs (compCode prog) prog F_many_Many_Settle [.p b 0, .sl (l.map Prt.av) .no] s (fun x s' => x = .ms (s.n + 2) 0 l.length ∧ StI s l M l.length s') := by
  have hMI := MI_eq
  refine runs_e h_many_Many_Settle (Nat.le_of_ble_eq_true rfl) ?_
  repeat (first | simp -dsimp -implicitDefEqProofs (disch := first | omega | (simp <;> omega) | fail) | ((with_reducible first | apply m_1 | apply m_0); (focus ((conv => lhs; simp -dsimp -implicitDefEqProofs (disch := first | omega | (simp <;> omega) | fail)); done))) | ((with_reducible first | apply i_T | apply g_T); (focus (simp -dsimp -implicitDefEqProofs (disch := first | omega | (simp <;> omega) | fail); done))) | ((with_reducible first | apply i_F | apply g_F); (focus (simp -dsimp -implicitDefEqProofs (disch := first | omega | (simp <;> omega) | fail); done))))
  refine run (rn_many_Many_Copy h) (by first | (simp; done) | rfl | (simp; rfl)) ?_
  rintro _ s1 ⟨rfl, hs1⟩
  have m1 : ManyAt s1 (s.n + 1) s.n A M := by rw [hs1]; exact ⟨by simp (disch := first | omega | (simp <;> omega) | fail), by simp (disch := first | omega | (simp <;> omega) | fail), h.r⟩
  have g1 : Grows s s1 := by rw [hs1]; exact ((Grows.refl _).alloc _).alloc _
  have n1 : s1.n = s.n + 2 := by rw [hs1]; simp
  clear hs1
  repeat (first | simp -dsimp -implicitDefEqProofs (disch := first | omega | (simp <;> omega) | fail) | ((with_reducible first | apply m_1 | apply m_0); (focus ((conv => lhs; simp -dsimp -implicitDefEqProofs (disch := first | omega | (simp <;> omega) | fail)); done))) | ((with_reducible first | apply i_T | apply g_T); (focus (simp -dsimp -implicitDefEqProofs (disch := first | omega | (simp <;> omega) | fail); done))) | ((with_reducible first | apply i_F | apply g_F); (focus (simp -dsimp -implicitDefEqProofs (disch := first | omega | (simp <;> omega) | fail); done))))
  refine m_mks (kd := .i64) (mm := (l.length : Int)) (by simp) (by omega) ?_
  repeat (first | simp -dsimp -implicitDefEqProofs (disch := first | omega | (simp <;> omega) | fail) | ((with_reducible first | apply m_1 | apply m_0); (focus ((conv => lhs; simp -dsimp -implicitDefEqProofs (disch := first | omega | (simp <;> omega) | fail)); done))) | ((with_reducible first | apply i_T | apply g_T); (focus (simp -dsimp -implicitDefEqProofs (disch := first | omega | (simp <;> omega) | fail); done))) | ((with_reducible first | apply i_F | apply g_F); (focus (simp -dsimp -implicitDefEqProofs (disch := first | omega | (simp <;> omega) | fail); done))))
  refine loop_ok [5, 6, 15, 16, 17] (fun m a s2 => ∃ i : Nat, i + m = l.length ∧ StI s l M i s2 ∧
    a = { t := den 65 [(5, .p (s.n + 1) 0), (6, .ms (s.n + 2) 0 l.length), (15, .sl (l.map Prt.av) .no), (16, .v (.int .i64 l.length)), (17, .v (.int .i64 i))], d := [] }) l.length ?_ ?_
  · refine ⟨0, by simp, ⟨fun x hx => (g1.alloc _).get hx, by simp; omega, ⟨A, ?_⟩, ?_⟩, by simp [n1]⟩
    · exact m1.keep fun x hx => by rcases hx with rfl | rfl <;> simp (disch := first | omega | (simp <;> omega) | fail)
    · refine ⟨_, by rw [show s.n + 2 = s1.n from n1.symm]; simp [outL]; rfl, ?_⟩
      rw [flat_rep]; simp
  rintro m a s2 ⟨i, him, hI, rfl⟩
  obtain ⟨gr, n2, ⟨A2, hA⟩, T, hc, hT⟩ := hI
  by_cases hlt : i < l.length
  · have hw : IntKind.wrap .i64 ((i : Int) + 1) = (i : Int) + 1 := wrap_i64 (by omega) (by omega)
    have hM2 := hM.st (l.take i)
    have hB2 : B + 6 * (l.take i).length ≤ 1000000 := by rw [List.length_take]; omega
    have eo := outL_snoc (M := M) hlt
    have es := stM_snoc (M := M) hlt
    have hpl := hes _ (List.getElem_mem hlt)
    have hR : ((outL M (l.take i)).flatMap Prt.cells).length = i * 10 := by rw [flat_len, outL_len, List.length_take]; omega
    obtain ⟨R, hRe⟩ : ∃ R, (outL M (l.take i)).flatMap Prt.cells = R := ⟨_, rfl⟩
    rw [hRe] at hc hR
    generalize hst : stM M (l.take i) = M2 at hA hM2 eo es
    generalize hq : l[i] = q at hpl eo es
    obtain ⟨lb, lm, lne⟩ := hA.lt
    obtain ⟨a1, a2, a3⟩ := hA
    have lc := AState.lt_of_get hc (by simp)
    have hT10 : 10 ≤ T.length := by omega
    have f1 : ∀ Y, List.take (i * 10) (R ++ Y) = R := fun Y => by rw [← hR]; exact List.take_left
    have f2 : ∀ k Y, List.take (i * 10 + k) (R ++ Y) = R ++ List.take k Y := fun k Y => by rw [← hR, List.take_length_add_append]
    have f3 : ∀ Y, List.drop (i * 10) (R ++ Y) = Y := fun Y => by rw [← hR]; exact List.drop_left
    have f4 : ∀ k Y, List.drop (i * 10 + k) (R ++ Y) = List.drop k Y := fun k Y => by rw [← hR, List.drop_length_add_append]
    repeat (first | simp -dsimp -implicitDefEqProofs (disch := first | omega | (simp <;> omega) | fail) [hlt, hq, hc, hR, f1, f2, f3, f4, hT10] | ((with_reducible first | apply m_1 | apply m_0); (focus ((conv => lhs; simp -dsimp -implicitDefEqProofs (disch := first | omega | (simp <;> omega) | fail) [hlt, hq, hc, hR, f1, f2, f3, f4, hT10]); done))) | ((with_reducible first | apply i_T | apply g_T); (focus (simp -dsimp -implicitDefEqProofs (disch := first | omega | (simp <;> omega) | fail) [hlt, hq, hc, hR, f1, f2, f3, f4, hT10]; done))) | ((with_reducible first | apply i_F | apply g_F); (focus (simp -dsimp -implicitDefEqProofs (disch := first | omega | (simp <;> omega) | fail) [hlt, hq, hc, hR, f1, f2, f3, f4, hT10]; done))))
    refine giv (ct_slices_Clone_Entry (es := q.es) (by omega)) (by first | (simp; done) | rfl | (simp; rfl)) ?_
    have f5 : i * 10 + 2 + 1 ≤ i * 10 + T.length := by omega
    have f6 : List.take 2 (q.cells ++ List.drop 10 T) ++ AV.sl (List.map Ent.av q.es) .no :: List.drop (i * 10 + 2 + 1) (R ++ (q.cells ++ List.drop 10 T)) = q.cells ++ List.drop 10 T := by
      rw [show i * 10 + 2 + 1 = i * 10 + 3 by omega, f4]; rfl
    have hT2 : (List.drop 10 T).length + (i + 1) * 10 = l.length * 10 := by rw [List.length_drop]; omega
    generalize List.drop 10 T = D at *
    have f7 : i * 10 + 2 + 1 ≤ i * 10 + (10 + D.length) := by omega
    repeat (first | simp -dsimp -implicitDefEqProofs (disch := first | omega | (simp <;> omega) | fail) [hR, hlt, f1, f2, f3, f4, f7, f6, a1] | (with_reducible apply m_draw) | ((with_reducible refine ⟨m_op ?_, ?_⟩); (focus (simp -dsimp -implicitDefEqProofs (disch := first | omega | (simp <;> omega) | fail) [hR, hlt, f1, f2, f3, f4, f7, f6, a1]; done))) | ((with_reducible first | apply m_d1 rfl | apply m_dE | apply m_dE0); (focus ((conv => lhs; simp -dsimp -implicitDefEqProofs (disch := first | omega | (simp <;> omega) | fail) [hR, hlt, f1, f2, f3, f4, f7, f6, a1]); done))) | ((with_reducible first | apply m_1 | apply m_0); (focus ((conv => lhs; simp -dsimp -implicitDefEqProofs (disch := first | omega | (simp <;> omega) | fail) [hR, hlt, f1, f2, f3, f4, f7, f6, a1]); done))) | ((with_reducible first | apply i_T | apply g_T | apply h_T); (focus (simp -dsimp -implicitDefEqProofs (disch := first | omega | (simp <;> omega) | fail) [hR, hlt, f1, f2, f3, f4, f7, f6, a1]; done))) | ((with_reducible first | apply i_F | apply g_F | apply h_F); (focus (simp -dsimp -implicitDefEqProofs (disch := first | omega | (simp <;> omega) | fail) [hR, hlt, f1, f2, f3, f4, f7, f6, a1]; done))))
    refine q_look (κ := Int) (A := A2) (enc := Grp.av) (k := q.gr) (b := s.n) (by simp) (by simp (disch := first | omega | (simp <;> omega) | fail) [a2]) (by simp; rfl) ?_
    have hlv : ∃ gc : List AV, lkV Grp.av A2 q.gr (.agg [.v (.int .i64 0), .v (.int .i64 0), .v (.int .i64 0), .v (.int .i64 0), .v (.int .i64 0), .v (.int .i64 0), .sl [] .zero]) false = .agg gc ∧ gc.length = 7 ∧ gc.all AV.one = true ∧ (AV.agg gc).strip = ((lk M2 q.gr).getD zeroG').av := by
      unfold lkV
      rw [a3.lk]
      cases lk M2 q.gr with
      | none => exact ⟨_, rfl, rfl, rfl, rfl⟩
      | some g => exact ⟨_, rfl, rfl, rfl, rfl⟩
    obtain ⟨gc, hgc, gl, go, gs⟩ := hlv
    have gt : List.take 7 gc = gc := List.take_of_length_le (by omega)
    rw [hgc]
    have hnext : ∀ s', (∀ x, x < s.n → s'.get x = s.get x) → s.n + 3 ≤ s'.n → (∃ A, ManyAt s' (s.n + 1) s.n A (stepM M2 q)) → s'.get (s.n + 2) = .cells (R ++ ((outP M2 q).cells ++ D)) → StI s l M (i + 1) s' := fun s' k1 k2 k3 k4 =>
      ⟨k1, k2, by rw [es]; exact k3, D, by rw [eo, List.flatMap_append, hRe, k4]; simp, hT2⟩
    have f8 : List.drop 10 (q.cells ++ D) = D := rfl
    have f9 : List.take 10 (q.cells ++ D) = q.cells := rfl
    have hA' : ∀ s', s'.get (s.n + 1) = s2.get (s.n + 1) → s'.get s.n = s2.get s.n → ManyAt s' (s.n + 1) s.n A2 M2 := fun s' k1 k2 => ⟨k1.trans a1, k2.trans a2, a3⟩
    by_cases hmay : mayP q = true
    · have hip : isPart q = true := by simp only [mayP, Bool.and_eq_true] at hmay; exact hmay.1
      have k6 : ¬ q.kd = 6 := by simp only [mayP, Bool.and_eq_true] at hmay; simpa using hmay.2
      have hst2 : stepM M2 q = oneM M2 q := if_pos hmay
      repeat (first | simp -dsimp -implicitDefEqProofs (disch := first | omega | (simp <;> omega) | fail) [gl, go, gt, hR] | (with_reducible apply m_draw) | ((with_reducible refine ⟨m_op ?_, ?_⟩); (focus (simp -dsimp -implicitDefEqProofs (disch := first | omega | (simp <;> omega) | fail) [gl, go, gt, hR]; done))) | ((with_reducible first | apply m_d1 rfl | apply m_dE | apply m_dE0); (focus ((conv => lhs; simp -dsimp -implicitDefEqProofs (disch := first | omega | (simp <;> omega) | fail) [gl, go, gt, hR]); done))) | ((with_reducible first | apply m_1 | apply m_0); (focus ((conv => lhs; simp -dsimp -implicitDefEqProofs (disch := first | omega | (simp <;> omega) | fail) [gl, go, gt, hR]); done))) | ((with_reducible first | apply i_T | apply g_T | apply h_T); (focus (simp -dsimp -implicitDefEqProofs (disch := first | omega | (simp <;> omega) | fail) [gl, go, gt, hR]; done))) | ((with_reducible first | apply i_F | apply g_F | apply h_F); (focus (simp -dsimp -implicitDefEqProofs (disch := first | omega | (simp <;> omega) | fail) [gl, go, gt, hR]; done))))
      refine ⟨.of_ext (AState.ext_alloc _ _), ?_⟩
      repeat (first | simp -dsimp -implicitDefEqProofs (disch := first | omega | (simp <;> omega) | fail) [gl, go, gt, hR] | (with_reducible apply m_draw) | ((with_reducible refine ⟨m_op ?_, ?_⟩); (focus (simp -dsimp -implicitDefEqProofs (disch := first | omega | (simp <;> omega) | fail) [gl, go, gt, hR]; done))) | ((with_reducible first | apply m_d1 rfl | apply m_dE | apply m_dE0); (focus ((conv => lhs; simp -dsimp -implicitDefEqProofs (disch := first | omega | (simp <;> omega) | fail) [gl, go, gt, hR]); done))) | ((with_reducible first | apply m_1 | apply m_0); (focus ((conv => lhs; simp -dsimp -implicitDefEqProofs (disch := first | omega | (simp <;> omega) | fail) [gl, go, gt, hR]); done))) | ((with_reducible first | apply i_T | apply g_T | apply h_T); (focus (simp -dsimp -implicitDefEqProofs (disch := first | omega | (simp <;> omega) | fail) [gl, go, gt, hR]; done))) | ((with_reducible first | apply i_F | apply g_F | apply h_F); (focus (simp -dsimp -implicitDefEqProofs (disch := first | omega | (simp <;> omega) | fail) [gl, go, gt, hR]; done))))
      refine giv (ct_part_Is (p := q) (by omega)) (by first | (simp; done) | rfl | (simp; rfl)) ?_
      repeat (first | simp -dsimp -implicitDefEqProofs (disch := first | omega | (simp <;> omega) | fail) [hip, k6] | ((with_reducible first | apply m_1 | apply m_0); (focus ((conv => lhs; simp -dsimp -implicitDefEqProofs (disch := first | omega | (simp <;> omega) | fail) [hip, k6]); done))) | ((with_reducible first | apply i_T | apply g_T); (focus (simp -dsimp -implicitDefEqProofs (disch := first | omega | (simp <;> omega) | fail) [hip, k6]; done))) | ((with_reducible first | apply i_F | apply g_F); (focus (simp -dsimp -implicitDefEqProofs (disch := first | omega | (simp <;> omega) | fail) [hip, k6]; done))))
      refine run (rn_many_Many_one (M := M2) (A := A2) (mb := s.n) (hA' _ (by simp (disch := first | omega | (simp <;> omega) | fail)) (by simp (disch := first | omega | (simp <;> omega) | fail))) hM2 hB2 hip) (by first | (simp; done) | rfl | (simp; rfl)) ?_
      rintro _ s3 ⟨rfl, mt, A3, k1⟩
      have n3 := mt.n
      simp at n3
      have c0 : s3.get s2.n = .cells q.cells := (mt.keep _ (by simp <;> omega) (by simp <;> omega)).trans (by simp (disch := first | omega | (simp <;> omega) | fail))
      have c1 : s3.get (s2.n + 1) = .cells gc := (mt.keep _ (by simp <;> omega) (by simp <;> omega)).trans (by simp (disch := first | omega | (simp <;> omega) | fail))
      have c2 : s3.get (s.n + 2) = .cells (R ++ (q.cells ++ D)) := (mt.keep _ (by simp <;> omega) (by simp <;> omega)).trans (by simp (disch := first | omega | (simp <;> omega) | fail))
      have c3 : ∀ x, x < s.n → s3.get x = s.get x := fun x hx => ((mt.keep _ (by simp <;> omega) (by simp <;> omega)).trans (by simp (disch := first | omega | (simp <;> omega) | fail))).trans (gr x hx)
      by_cases he : errM M2 q = 0
      · have ho : outP M2 q = settledS ((lk M2 q.gr).getD zeroG') q := if_pos ⟨hmay, he⟩
        repeat (first | simp -dsimp -implicitDefEqProofs (disch := first | omega | (simp <;> omega) | fail) [he, hip, k6, c0, c1, c2, gl, gt, hR, hlt, f1, f2, f3, f4, f8, f9] | ((with_reducible first | apply m_1 | apply m_0); (focus ((conv => lhs; simp -dsimp -implicitDefEqProofs (disch := first | omega | (simp <;> omega) | fail) [he, hip, k6, c0, c1, c2, gl, gt, hR, hlt, f1, f2, f3, f4, f8, f9]); done))) | ((with_reducible first | apply i_T | apply g_T); (focus (simp -dsimp -implicitDefEqProofs (disch := first | omega | (simp <;> omega) | fail) [he, hip, k6, c0, c1, c2, gl, gt, hR, hlt, f1, f2, f3, f4, f8, f9]; done))) | ((with_reducible first | apply i_F | apply g_F); (focus (simp -dsimp -implicitDefEqProofs (disch := first | omega | (simp <;> omega) | fail) [he, hip, k6, c0, c1, c2, gl, gt, hR, hlt, f1, f2, f3, f4, f8, f9]; done))))
        have hO := okP hip
        have hgs : ((lk M2 q.gr).getD zeroG').es.Pairwise (fun a b => a.ix < b.ix) ∧ ((lk M2 q.gr).getD zeroG').es.length ≤ 1000000 := by
          cases hk : lk M2 q.gr with
          | none => exact ⟨List.Pairwise.nil, Nat.zero_le _⟩
          | some g =>
            have hm := lk_mem hk
            exact ⟨(hM2.ok _ hm).1.s.srt, by have := hM2.len _ hm; simp only [Option.getD_some] at this ⊢; omega⟩
        refine giv (ct_many_settled (g := (lk M2 q.gr).getD zeroG') (p := q) hgs.1 hgs.2 hO.ix) (by simp [gs]) ?_
        have f10 : i * 10 + 10 ≤ i * 10 + (10 + D.length) := by omega
        repeat (first | simp -dsimp -implicitDefEqProofs (disch := first | omega | (simp <;> omega) | fail) [c2, hR, hlt, f1, f4, f8, f10] | ((with_reducible first | apply m_1 | apply m_0); (focus ((conv => lhs; simp -dsimp -implicitDefEqProofs (disch := first | omega | (simp <;> omega) | fail) [c2, hR, hlt, f1, f4, f8, f10]); done))) | ((with_reducible first | apply i_T | apply g_T); (focus (simp -dsimp -implicitDefEqProofs (disch := first | omega | (simp <;> omega) | fail) [c2, hR, hlt, f1, f4, f8, f10]; done))) | ((with_reducible first | apply i_F | apply g_F); (focus (simp -dsimp -implicitDefEqProofs (disch := first | omega | (simp <;> omega) | fail) [c2, hR, hlt, f1, f4, f8, f10]; done))))
        refine ⟨m - 1, by omega, i + 1, by omega, hnext _ (fun x hx => (by simp (disch := first | omega | (simp <;> omega) | fail) : _ = s3.get x).trans (c3 x hx)) (by simp; omega) ⟨A3, by rw [hst2]; exact k1.keep fun x hx => by rcases hx with rfl | rfl <;> simp (disch := first | omega | (simp <;> omega) | fail)⟩ (by rw [ho]; simp (disch := first | omega | (simp <;> omega) | fail)), by simp [hw]⟩
      · have ho : outP M2 q = q := if_neg fun h => he h.2
        repeat (first | simp -dsimp -implicitDefEqProofs (disch := first | omega | (simp <;> omega) | fail) [he, hip, k6] | ((with_reducible first | apply m_1 | apply m_0); (focus ((conv => lhs; simp -dsimp -implicitDefEqProofs (disch := first | omega | (simp <;> omega) | fail) [he, hip, k6]); done))) | ((with_reducible first | apply i_T | apply g_T); (focus (simp -dsimp -implicitDefEqProofs (disch := first | omega | (simp <;> omega) | fail) [he, hip, k6]; done))) | ((with_reducible first | apply i_F | apply g_F); (focus (simp -dsimp -implicitDefEqProofs (disch := first | omega | (simp <;> omega) | fail) [he, hip, k6]; done))))
        refine ⟨m - 1, by omega, i + 1, by omega, hnext _ c3 (by omega) ⟨A3, by rw [hst2]; exact k1⟩ (by rw [ho]; exact c2), by simp [hw]⟩
    · have hst2 : stepM M2 q = M2 := if_neg hmay
      have ho : outP M2 q = q := if_neg fun h => hmay h.1
      have fin : ∀ s', s' = ((s2.set (s.n + 2) (.cells (R ++ (q.cells ++ D)))).alloc (.cells q.cells)).alloc (.cells gc) → StI s l M (i + 1) s' := fun s' e => by
        subst e
        exact hnext _ (fun x hx => (by simp (disch := first | omega | (simp <;> omega) | fail) : _ = s2.get x).trans (gr x hx)) (by simp; omega) ⟨A2, by rw [hst2]; exact hA' _ (by simp (disch := first | omega | (simp <;> omega) | fail)) (by simp (disch := first | omega | (simp <;> omega) | fail))⟩ (by rw [ho]; simp (disch := first | omega | (simp <;> omega) | fail))
      cases hip : isPart q with
      | false =>
        refine sd4 gl go gt hR ?_
        refine ⟨.of_ext (AState.ext_alloc _ _), ?_⟩
        refine sd4 gl go gt hR ?_
        refine gv (ct_part_Is (p := q) (by omega)) ?_
        refine st1 hip ?_
        exact ⟨m - 1, by omega, i + 1, by omega, fin _ rfl, by simp [hw]⟩
      | true =>
        have k6 : q.kd = 6 := by simpa [mayP, hip] using hmay
        refine sd4 gl go gt hR ?_
        refine ⟨.of_ext (AState.ext_alloc _ _), ?_⟩
        refine sd4 gl go gt hR ?_
        refine gv (ct_part_Is (p := q) (by omega)) ?_
        refine st2 hip k6 ?_
        exact ⟨m - 1, by omega, i + 1, by omega, fin _ rfl, by simp [hw]⟩
  · have hie : i = l.length := by omega
    subst hie
    repeat (first | simp -dsimp -implicitDefEqProofs (disch := first | omega | (simp <;> omega) | fail) | ((with_reducible first | apply m_1 | apply m_0); (focus ((conv => lhs; simp -dsimp -implicitDefEqProofs (disch := first | omega | (simp <;> omega) | fail)); done))) | ((with_reducible first | apply i_T | apply g_T); (focus (simp -dsimp -implicitDefEqProofs (disch := first | omega | (simp <;> omega) | fail); done))) | ((with_reducible first | apply i_F | apply g_F); (focus (simp -dsimp -implicitDefEqProofs (disch := first | omega | (simp <;> omega) | fail); done))))
    exact ret_ok rfl ⟨rfl, gr, n2, ⟨A2, hA⟩, T, hc, hT⟩
end Go.Proofs.Ytmfhchaoijiodaa
end
section
namespace Go.Ab
set_option linter.unusedVariables false
theorem settled_part {g : Grp} {p : Prt} (h : isPart p = true) (hg : ∀ e ∈ g.es, okEnt e = true) : isPart (settledS g p) = true ∧ (settledS g p).gr = p.gr ∧ (p.kd ≠ 6 → (settledS g p).kd ≠ 6) := by
  unfold settledS
  cases ha : atS g.es p.ix with
  | none => exact ⟨h, rfl, id⟩
  | some e =>
    have hok := okEnt_iff.1 (hg e (atS_mem ha).1)
    have hMI := MI_eq
    simp only []
    split
    · next k3 =>
      refine ⟨?_, rfl, fun h6 => h6⟩
      have h' := h
      simp only [isPart, Bool.and_eq_true, decide_eq_true_eq] at h' ⊢
      obtain ⟨⟨a1, a2⟩, a3⟩ := h'
      refine ⟨⟨a1, ?_⟩, ?_⟩
      · have : core p = { gr := p.gr, kd := p.kd, es := [], ht := 0, hv := 0, hc := 0, ix := p.ix, tm := p.tm, mr := false, he := false } := by simp [core, k3]
        rw [this] at a2
        have : core { p with tm := e.tm } = { gr := p.gr, kd := p.kd, es := [], ht := 0, hv := 0, hc := 0, ix := p.ix, tm := e.tm, mr := false, he := false } := by simp [core, k3]
        rw [this]
        rw [Prt.ext_iff] at a2 ⊢
        simp only at a2 ⊢
        simp [a2]
      · rw [if_neg (show ¬ p.kd = 1 by omega), if_neg (show ¬ p.kd = 2 by omega), if_pos k3] at a3 ⊢
        simp only [okMrk, btw, Bool.and_eq_true, decide_eq_true_eq] at a3 ⊢
        omega
    split
    · next k3 k4 =>
      obtain ⟨k4, ht⟩ := k4
      refine ⟨?_, rfl, fun _ => by simp⟩
      have h' := h
      simp only [isPart, Bool.and_eq_true, decide_eq_true_eq] at h' ⊢
      obtain ⟨⟨a1, a2⟩, a3⟩ := h'
      refine ⟨⟨a1, ?_⟩, ?_⟩
      · have : core p = { gr := p.gr, kd := p.kd, es := [], ht := 0, hv := 0, hc := 0, ix := p.ix, tm := p.tm, mr := false, he := false } := by simp [core, k4]
        rw [this] at a2
        have : core { p with kd := 3 } = { gr := p.gr, kd := 3, es := [], ht := 0, hv := 0, hc := 0, ix := p.ix, tm := p.tm, mr := false, he := false } := by simp [core]
        rw [this]
        rw [Prt.ext_iff] at a2 ⊢
        simp only at a2 ⊢
        simp [a2]
      · rw [if_neg (show ¬ p.kd = 1 by omega), if_neg (show ¬ p.kd = 2 by omega), if_neg k3, if_pos k4] at a3
        rw [if_neg (show ¬ (3 : Int) = 1 by omega), if_neg (show ¬ (3 : Int) = 2 by omega), if_pos trivial]
        simp only [okMrk, btw, Bool.and_eq_true, decide_eq_true_eq] at a3 ⊢
        omega
    · exact ⟨h, rfl, id⟩
theorem outP_may {B : Nat} {M : List (Int × Grp)} (hM : ManyOk B M) {p : Prt} (h : mayP p = true) : isPart (outP M p) = true ∧ (outP M p).kd ≠ 6 := by
  obtain ⟨h1, h2⟩ : isPart p = true ∧ ¬ p.kd = 6 := by simp only [mayP, Bool.and_eq_true] at h; exact ⟨h.1, by simpa using h.2⟩
  unfold outP
  split
  · have hg : ∀ e ∈ ((lk M p.gr).getD zeroG').es, okEnt e = true := by
      cases hk : lk M p.gr with
      | none => simp [zeroG']
      | some g => exact (hM.ok _ (lk_mem hk)).1.s.ok
    have := settled_part h1 hg
    exact ⟨this.1, this.2.2 h2⟩
  · exact ⟨h1, h2⟩
theorem outL_may {B : Nat} {M : List (Int × Grp)} (hM : ManyOk B M) {l : List Prt} (h : ∀ p ∈ l, mayP p = true) : ∀ p ∈ outL M l, isPart p = true ∧ p.kd ≠ 6 := by
  induction l generalizing M B with
  | nil => intro p hp; cases hp
  | cons q l ih =>
    intro p hp
    rcases List.mem_cons.1 hp with rfl | hp
    · exact outP_may hM (h q (by simp))
    · exact ih (hM.step q) (fun x hx => h x (by simp [hx])) p hp
theorem out_rec {B : Nat} {M : List (Int × Grp)} (hM : ManyOk B M) {l : List Prt} (h : ∀ p ∈ l, mayP p = true) (h1 : 1 ≤ l.length) (h4 : l.length ≤ 4) : isRec ⟨1125899906842624, outL M l⟩ = true := by
  have hm := outL_may hM h
  have hl := outL_len M l
  rw [isRec_iff]
  refine ⟨(by decide : (1 : Int) ≤ 1125899906842624), Int.le_refl _, by simp only [hl]; exact h1, by simp only [hl]; exact h4, fun p hp => ?_⟩
  obtain ⟨a, b⟩ := hm p hp
  have h0 : 0 < (outL M l).length := by omega
  have c : fwdP (outL M l) = false := by
    unfold fwdP
    rw [List.getD_eq_getElem?_getD, List.getElem?_eq_getElem h0]
    exact decide_eq_false (hm _ (List.getElem_mem h0)).2
  unfold goodR
  rw [a, c, decide_eq_false b]; rfl
def wrongM (l : List Prt) : Int := if l.length = 0 ∨ 4 < l.length ∨ l.any (fun p => !mayP p) = true then 11 else 0
end Go.Ab
namespace Go.Proofs.Ytmfhchaoijiodaa
open Go.Ab
set_option linter.unusedVariables false
set_option linter.unusedSimpArgs false
set_option maxRecDepth 100000
set_option maxHeartbeats 1000000
theorem row_flat (l : List Prt) : (l.map Prt.av).flatMap AV.cells = l.flatMap Prt.cells := by
  rw [List.flatMap_map]; rfl
theorem ct_many_Many_Settle {b mb : Nat} {A M : List (Int × Grp)} {l : List Prt} {s : AState} {B : Nat} (h : ManyAt s b mb A M) (hM : ManyOk B M) (hB : B + 6 * l.length ≤ 1000000) (hl : l.length ≤ 1000) (hes : ∀ p ∈ l, p.es.length ≤ 1000000) :
    Gives prog F_many_Many_Settle [.p b 0, .sl (l.map Prt.av) .no] s (.sl ((outL M l).map Prt.av) .no) s := by
  refine Runs.gives (Runs.freeze ((rn_many_Many_Settle h hM hB hl hes).mono ?_)) (flat_sl Prt.row _)
  rintro _ s' ⟨rfl, g, n, m, T, hc, hT⟩
  have hT0 : T = [] := List.eq_nil_of_length_eq_zero (by omega)
  rw [List.take_length, hT0, List.append_nil] at hc
  refine ⟨s.n + 2, l.length, 10, (outL M l).map Prt.av, _, rfl, hc, ?_, by simp [outL_len], (row_flat _).symm, ⟨by simp; omega, fun x hx => .inl ?_⟩, .refl _⟩
  · intro y hy; obtain ⟨p, _, rfl⟩ := List.mem_map.1 hy; rfl
  · simp (disch := first | omega | (simp <;> omega) | fail) [g x hx]
theorem ct_many_wrong1 {p : Prt} {s : AState} (hl : p.es.length ≤ 1000000) : Gives prog F_many_Many_wrong_1 [p.av] s (.v (.bool (!mayP p))) s := by
  refine Runs.gives' (runs_e h_many_Many_wrong_1 (Nat.le_of_ble_eq_true rfl) ?_) (.v _)
  refine st0 ?_
  refine gv (ct_part_Is (p := p) (by omega)) ?_
  cases h : isPart p with
  | false =>
    refine st1 h ?_
    refine ret_ok rfl ⟨(Grows.refl _).alloc _, ?_⟩
    simp [mayP, h, retVal]; exact .refl _
  | true =>
    refine st1 h ?_
    refine ret_ok rfl ⟨(Grows.refl _).alloc _, ?_⟩
    have e : (!mayP p) = (p.kd == 6) := by simp [mayP, h]; by_cases k : p.kd = 6 <;> simp [k]
    rw [e]; simp [retVal]; exact .refl _
theorem ct_many_Many_wrong {b mb : Nat} {A M : List (Int × Grp)} {l : List Prt} {s : AState} {B : Nat} (h : ManyAt s b mb A M) (hM : ManyOk B M) (hB : B + 6 * l.length ≤ 1000000) (hl : l.length ≤ 1000) (hes : ∀ p ∈ l, p.es.length ≤ 1000000) :
    Gives prog F_many_Many_wrong [.p b 0, .sl (l.map Prt.av) .no] s (.v (.int .i64 (wrongM l))) s := by
  refine Runs.gives (runs_e h_many_Many_wrong (Nat.le_of_ble_eq_true rfl) ?_) (.v _)
  unfold wrongM
  by_cases c1 : l.length = 0
  · have : l = [] := List.eq_nil_of_length_eq_zero c1
    subst this
    refine st0 ?_
    exact ret_ok rfl ⟨⟨Nat.le_refl _, fun x hx => .inl rfl⟩, .refl _⟩
  have c1' : ¬ l = [] := fun e => c1 (by rw [e]; rfl)
  by_cases c2 : 4 < l.length
  · have c2' : (4 : Int) < l.length := by omega
    rw [if_pos (.inr (.inl c2))]
    refine st3 c1 c1' c2' ?_
    exact ret_ok rfl ⟨⟨Nat.le_refl _, fun x hx => .inl rfl⟩, .refl _⟩
  have c2' : ¬ (4 : Int) < l.length := by omega
  refine st3 c1 c1' c2' ?_
  refine gv (ct_slices_ContainsFunc_Part (l := l) (g := F_many_Many_wrong_1) (fs := []) (caps := []) (p := fun p => !mayP p) (by omega) (fun p hp => ct_many_wrong1 (hes p hp))) ?_
  cases c3 : l.any (fun p => !mayP p) with
  | true =>
    rw [if_pos (.inr (.inr rfl))]
    refine st1 c3 ?_
    exact ret_ok rfl ⟨⟨Nat.le_refl _, fun x hx => .inl rfl⟩, .refl _⟩
  | false =>
    rw [if_neg (by simp [c1, c2, c1'])]
    have hmay : ∀ p ∈ l, mayP p = true := fun p hp => by
      have := (List.any_eq_false.1 c3) p hp; simpa using this
    have hrec := out_rec hM hmay (by omega) (by omega)
    refine st1 c3 ?_
    refine gv (ct_many_Many_Settle h hM hB hl hes) ?_
    refine st0 ?_
    refine giv (ct_record_Bytes (r := ⟨1125899906842624, outL M l⟩) (by simp only [outL_len]; omega) (fun p hp => by have := (okP (outL_may hM hmay p hp).1).len; omega)) (by simp; rfl) ?_
    rw [if_pos hrec, if_pos hrec]
    refine st0 ?_
    exact ret_ok rfl ⟨⟨Nat.le_refl _, fun x hx => .inl rfl⟩, .refl _⟩
end Go.Proofs.Ytmfhchaoijiodaa
end
section
namespace Go.Ab
set_option linter.unusedVariables false
def errL (M : List (Int × Grp)) : List Prt → Int
  | [] => 0
  | p :: l => if errM M p = 0 then errL (oneM M p) l else errM M p
def triedE (M : List (Int × Grp)) (l : List Prt) : Int := if wrongM l = 0 then errL M l else 11
def doM (M : List (Int × Grp)) (l : List Prt) : List (Int × Grp) := if triedE M l = 0 then stM M l else M
theorem wrong0 {l : List Prt} (h : wrongM l = 0) : 1 ≤ l.length ∧ l.length ≤ 4 ∧ ∀ p ∈ l, mayP p = true := by
  unfold wrongM at h
  split at h
  · cases h
  · next hc =>
    simp only [not_or, Nat.not_lt, Bool.not_eq_true] at hc
    exact ⟨by omega, by omega, fun p hp => by have := (List.any_eq_false.1 hc.2.2) p hp; simpa using this⟩
theorem wrong11 {l : List Prt} (h : ¬ wrongM l = 0) : wrongM l = 11 := by
  unfold wrongM at h ⊢
  split
  · rfl
  · next hc => rw [if_neg hc] at h; exact absurd rfl h
theorem errL_app {M : List (Int × Grp)} {a b : List Prt} (h : errL M a = 0) (hm : ∀ p ∈ a, mayP p = true) : errL M (a ++ b) = errL (stM M a) b := by
  induction a generalizing M with
  | nil => rfl
  | cons p a ih =>
    have hp : stepM M p = oneM M p := if_pos (hm p (by simp))
    by_cases he : errM M p = 0
    · simp only [errL, if_pos he] at h
      simp only [List.cons_append, errL, if_pos he]
      rw [ih h fun x hx => hm x (by simp [hx]), ← hp]; rfl
    · simp only [errL, if_neg he] at h; exact absurd h he
theorem ManyOk.doM {B : Nat} {M : List (Int × Grp)} (h : ManyOk B M) (l : List Prt) : ManyOk (B + 24) (doM M l) := by
  unfold Ab.doM
  split
  · next he =>
    have hw : wrongM l = 0 := by
      unfold triedE at he
      split at he
      · assumption
      · cases he
    exact (h.st l).more (by have := (wrong0 hw).2.1; omega)
  · exact h.more (by omega)
structure TrI (s : AState) (l : List Prt) (M : List (Int × Grp)) (k : Nat) (s' : AState) : Prop where
  old : ∀ x, x < s.n → s'.get x = s.get x
  n : s.n + 8 ≤ s'.n
  c0 : s'.get s.n = .cells [.v (.pointer none)]
  c1 : s'.get (s.n + 1) = .cells [.v (.int .i64 0)]
  c2 : s'.get (s.n + 4) = .cells [.p (s.n + 3) 0]
  m : ∃ A, ManyAt s' (s.n + 3) (s.n + 2) A (stM M (l.take k))
  b : s'.get (s.n + 5) = .cells [.sl (l.map Prt.av) .no]
  e : errL M (l.take k) = 0
structure TrJ (s : AState) (l : List Prt) (M : List (Int × Grp)) (j : AJump) (s' : AState) : Prop where
  j : j = .ret
  old : ∀ x, x < s.n → s'.get x = s.get x
  n : s.n + 8 ≤ s'.n
  c0 : s'.get s.n = .cells [.v (.pointer none)]
  c1 : s'.get (s.n + 1) = .cells [.v (.int .i64 (errL M l))]
  e : ¬ errL M l = 0
end Go.Ab
namespace Go.Proofs.Ytmfhchaoijiodaa
open Go.Ab
set_option linter.unusedVariables false
set_option linter.unusedSimpArgs false
set_option maxRecDepth 100000
set_option maxHeartbeats 1000000
theorem rn_many_Many_tried {b mb : Nat} {A M : List (Int × Grp)} {l : List Prt} {s : AState} {B : Nat} (h : ManyAt s b mb A M) (hM : ManyOk B M) (hB : B + 6 * l.length ≤ 1000000) (hl : l.length ≤ 1000) (hes : ∀ p ∈ l, p.es.length ≤ 1000000) :
    Runs (compCode prog) prog F_many_Many_tried [.p b 0, .sl (l.map Prt.av) .no] s (fun x s' => (∀ x, x < s.n → s'.get x = s.get x) ∧ s.n ≤ s'.n ∧
      ((triedE M l = 0 ∧ ∃ c mc A', x = .tup [.p c 0, .v (.int .i64 0)] ∧ s.n ≤ c ∧ s.n ≤ mc ∧ ManyAt s' c mc A' (stM M l)) ∨ (¬ triedE M l = 0 ∧ x = .tup [.v (.pointer none), .v (.int .i64 (triedE M l))]))) := by
  have hMI := MI_eq
  refine runs_e h_many_Many_tried (Nat.le_of_ble_eq_true rfl) ?_
  obtain ⟨lb, lm, lne⟩ := h.lt
  repeat (first | simp -dsimp -implicitDefEqProofs (disch := first | omega | (simp <;> omega) | fail) | ((with_reducible first | apply m_1 | apply m_0); (focus ((conv => lhs; simp -dsimp -implicitDefEqProofs (disch := first | omega | (simp <;> omega) | fail)); done))) | ((with_reducible first | apply i_T | apply g_T); (focus (simp -dsimp -implicitDefEqProofs (disch := first | omega | (simp <;> omega) | fail); done))) | ((with_reducible first | apply i_F | apply g_F); (focus (simp -dsimp -implicitDefEqProofs (disch := first | omega | (simp <;> omega) | fail); done))))
  refine giv (ct_many_Many_wrong (b := b) (mb := mb) (A := A) (M := M) (l := l) (h.keep fun x hx => by rcases hx with rfl | rfl <;> simp (disch := first | omega | (simp <;> omega) | fail)) hM hB hl hes) (by simp) ?_
  unfold triedE
  by_cases hw : wrongM l = 0
  case neg =>
    rw [wrong11 hw]
    repeat (first | simp -dsimp -implicitDefEqProofs (disch := first | omega | (simp <;> omega) | fail) | ((with_reducible first | apply m_1 | apply m_0); (focus ((conv => lhs; simp -dsimp -implicitDefEqProofs (disch := first | omega | (simp <;> omega) | fail)); done))) | ((with_reducible first | apply i_T | apply g_T); (focus (simp -dsimp -implicitDefEqProofs (disch := first | omega | (simp <;> omega) | fail); done))) | ((with_reducible first | apply i_F | apply g_F); (focus (simp -dsimp -implicitDefEqProofs (disch := first | omega | (simp <;> omega) | fail); done))))
    refine ret_ok (by simp; rfl) ⟨fun x hx => by simp (disch := first | omega | (simp <;> omega) | fail), by simp <;> omega, .inr ⟨by simp, by simp [retVal]⟩⟩
  rw [hw]
  obtain ⟨w1, w2, w3⟩ := wrong0 hw
  repeat (first | simp -dsimp -implicitDefEqProofs (disch := first | omega | (simp <;> omega) | fail) | ((with_reducible first | apply m_1 | apply m_0); (focus ((conv => lhs; simp -dsimp -implicitDefEqProofs (disch := first | omega | (simp <;> omega) | fail)); done))) | ((with_reducible first | apply i_T | apply g_T); (focus (simp -dsimp -implicitDefEqProofs (disch := first | omega | (simp <;> omega) | fail); done))) | ((with_reducible first | apply i_F | apply g_F); (focus (simp -dsimp -implicitDefEqProofs (disch := first | omega | (simp <;> omega) | fail); done))))
  refine run (rn_many_Many_Copy (b := b) (mb := mb) (A := A) (M := M) (h.keep fun x hx => by rcases hx with rfl | rfl <;> simp (disch := first | omega | (simp <;> omega) | fail))) (by simp) ?_
  rintro _ s1 ⟨rfl, rfl⟩
  repeat (first | simp -dsimp -implicitDefEqProofs (disch := first | omega | (simp <;> omega) | fail) | ((with_reducible first | apply m_1 | apply m_0); (focus ((conv => lhs; simp -dsimp -implicitDefEqProofs (disch := first | omega | (simp <;> omega) | fail)); done))) | ((with_reducible first | apply i_T | apply g_T); (focus (simp -dsimp -implicitDefEqProofs (disch := first | omega | (simp <;> omega) | fail); done))) | ((with_reducible first | apply i_F | apply g_F); (focus (simp -dsimp -implicitDefEqProofs (disch := first | omega | (simp <;> omega) | fail); done))))
  refine giv (ct_slices_Values_Part (xs := l.map Prt.av)) (by first | (simp; done) | rfl | (simp; rfl)) ?_
  repeat (first | simp -dsimp -implicitDefEqProofs (disch := first | omega | (simp <;> omega) | fail) | ((with_reducible first | apply m_1 | apply m_0); (focus ((conv => lhs; simp -dsimp -implicitDefEqProofs (disch := first | omega | (simp <;> omega) | fail)); done))) | ((with_reducible first | apply i_T | apply g_T); (focus (simp -dsimp -implicitDefEqProofs (disch := first | omega | (simp <;> omega) | fail); done))) | ((with_reducible first | apply i_F | apply g_F); (focus (simp -dsimp -implicitDefEqProofs (disch := first | omega | (simp <;> omega) | fail); done))))
  have hsn : ((((((s.alloc (.cells [.v (.pointer none)])).alloc (.cells [.v (.int .i64 0)])).alloc (.map (encM Grp.av A))).alloc (.cells [.m (s.n + 1 + 1)])).alloc (.cells [.p (s.n + 1 + 1 + 1) 0])).alloc (.cells [.sl (l.map Prt.av) .no])).n = s.n + 6 := by simp
  refine w_rangeS (m := l.length) (by simp) (it_slices_Values_Part l (s.n + 5) (by omega)) (by intro x hx; obtain ⟨p, _, rfl⟩ := List.mem_map.1 hx; rfl) (by simp) (fun k s' => TrI s l M k s') (fun j s' => TrJ s l M j s') ?_ ?_ ?_ ?_ ?_ ?_ ?_
  · intro LR
    exact ⟨fun x hx => by simp (disch := first | omega | (simp <;> omega) | fail), by simp, by simp (disch := first | omega | (simp <;> omega) | fail), by simp (disch := first | omega | (simp <;> omega) | fail), by simp (disch := first | omega | (simp <;> omega) | fail), ⟨A, by simp (disch := first | omega | (simp <;> omega) | fail), by simp (disch := first | omega | (simp <;> omega) | fail), h.r⟩, by simp (disch := first | omega | (simp <;> omega) | fail), rfl⟩
  · rintro k s' h; exact h.b
  · rintro k s' o hn ⟨old, n, c0, c1, c2, ⟨A1, m⟩, b, e⟩
    exact ⟨fun x hx => by simp (disch := first | omega | (simp <;> omega) | fail) [old x hx], by simp; omega, by simp (disch := first | omega | (simp <;> omega) | fail) [c0], by simp (disch := first | omega | (simp <;> omega) | fail) [c1], by simp (disch := first | omega | (simp <;> omega) | fail) [c2], ⟨A1, m.keep fun x hx => by rcases hx with rfl | rfl <;> simp (disch := first | omega | (simp <;> omega) | fail)⟩, by simp (disch := first | omega | (simp <;> omega) | fail) [b], e⟩
  · rintro j s' o hn ⟨j, old, n, c0, c1, e⟩
    exact ⟨j, fun x hx => by simp (disch := first | omega | (simp <;> omega) | fail) [old x hx], by simp; omega, by simp (disch := first | omega | (simp <;> omega) | fail) [c0], by simp (disch := first | omega | (simp <;> omega) | fail) [c1], e⟩
  · intro LR LB LJ hLB hLR k hk s' hd hLL hln hI
    have hk' : k < l.length := by simpa using hk
    obtain ⟨old, n, c0, c1, c2, ⟨A1, m⟩, b, e⟩ := hI
    simp only [hsn, List.getElem_map, List.zip_cons_cons, List.zip_nil_right, List.reverse_cons, List.reverse_nil, List.nil_append, List.cons_append] at hd hLL hln ⊢
    have hq := w3 _ (List.getElem_mem hk')
    have es := stM_snoc (M := M) hk'
    have et : l.take (k + 1) = l.take k ++ [l[k]] := (List.take_append_getElem hk').symm
    have el : l = l.take k ++ (l[k] :: l.drop (k + 1)) := by rw [← List.drop_eq_getElem_cons hk', List.take_append_drop]
    have hM2 := hM.st (l.take k)
    have hB2 : B + 6 * (l.take k).length ≤ 1000000 := by rw [List.length_take]; omega
    have hw3 : ∀ p ∈ l.take k, mayP p = true := fun p hp => w3 p (List.mem_of_mem_take hp)
    have e1 := errL_app (b := [l[k]]) e hw3
    have e2 := errL_app (b := l[k] :: l.drop (k + 1)) e hw3
    rw [← et] at e1
    rw [← el] at e2
    generalize stM M (l.take k) = M2 at m hM2 es e1 e2
    generalize hqe : l[k] = q at hq es e1 e2
    have hip : isPart q = true := by simp only [mayP, Bool.and_eq_true] at hq; exact hq.1
    have hst : stepM M2 q = oneM M2 q := if_pos hq
    refine st2 hLL c2 ?_
    refine run (rn_many_Many_one (M := M2) (A := A1) (b := s.n + 3) (mb := s.n + 2) (m.keep fun x hx => by rcases hx with rfl | rfl <;> simp (disch := first | omega | (simp <;> omega) | fail)) hM2 hB2 hip) (by simp) ?_
    rintro _ s3 ⟨rfl, mt, A3, k1⟩
    have n3 := mt.n
    simp at n3
    have q0 : s3.get s.n = .cells [.v (.pointer none)] := (mt.keep _ (by simp <;> omega) (by simp <;> omega)).trans (dz1 c0)
    have q1 : s3.get (s.n + 1) = .cells [.v (.int .i64 0)] := (mt.keep _ (by simp <;> omega) (by simp <;> omega)).trans (dz1 c1)
    have q2 : s3.get (s.n + 4) = .cells [.p (s.n + 3) 0] := (mt.keep _ (by simp <;> omega) (by simp <;> omega)).trans (dz1 c2)
    have q3 : s3.get (s.n + 5) = .cells [.sl (l.map Prt.av) .no] := (mt.keep _ (by simp <;> omega) (by simp <;> omega)).trans (dz1 b)
    have q4 : ∀ x, x < s.n → s3.get x = s.get x := fun x hx => ((mt.keep _ (by simp <;> omega) (by simp <;> omega)).trans (dz0)).trans (old x hx)
    have q5 : s3.get (s.n + 6) = .defd := (mt.keep _ (by simp <;> omega) (by simp <;> omega)).trans (by simp (disch := first | omega | (simp <;> omega) | fail) [hd])
    have q6 : s3.get (s.n + 6 + 1) = LB := (mt.keep _ (by simp <;> omega) (by simp <;> omega)).trans (dz0)
    by_cases he : errM M2 q = 0
    · refine st2 he q6 ?_
      refine fins_n (fun d hd' => by cases hd'; simp (disch := first | omega | (simp <;> omega) | fail) [q5]) (dz0) ⟨fun x hx => dz1 (q4 x hx), by simp; omega, dz1 q0, dz1 q1, dz1 q2, ⟨A3, ?_⟩, dz1 q3, ?_⟩
      · rw [es, hst]; exact k1.keep fun x hx => by rcases hx with rfl | rfl <;> simp (disch := first | omega | (simp <;> omega) | fail)
      · rw [e1]; simp only [errL, if_pos he]
    · have e3 : errL M l = errM M2 q := by rw [e2]; simp only [errL, if_neg he]
      refine st4 he q0 q1 q6 ?_
      refine fins_j (fun d hd' => by cases hd'; simp (disch := first | omega | (simp <;> omega) | fail) [q5]) (dz0) ⟨rfl, fun x hx => dz1 (q4 x hx), by simp; omega, dz0, by rw [e3]; simp (disch := first | omega | (simp <;> omega) | fail), by rw [e3]; exact he⟩
  · rintro s' hd hln ⟨old, n, c0, c1, c2, ⟨A1, m⟩, b, e⟩
    simp only [hsn] at hd hln ⊢
    rw [List.take_length] at m e
    refine st3 c0 c1 c2 ?_
    refine ret_okD (by simp (disch := first | omega | (simp <;> omega) | fail) [hd]) (by simp) (by simp (disch := first | omega | (simp <;> omega) | fail) [killAll]; rfl) ⟨fun x hx => by simp (disch := first | omega | (simp <;> omega) | fail) [killAll, old x hx], by simp [killAll]; omega, .inl ⟨e, s.n + 3, s.n + 2, A1, by simp [retVal], by omega, by omega, m.keep fun x hx => by rcases hx with rfl | rfl <;> simp (disch := first | omega | (simp <;> omega) | fail) [killAll]⟩⟩
  · rintro j s' hd hln ⟨rfl, old, n, c0, c1, e⟩
    simp only [hsn] at hd hln ⊢
    repeat (first | simp -dsimp -implicitDefEqProofs (disch := first | omega | (simp <;> omega) | fail) [AJump.exitOf, c0, c1] | ((with_reducible first | apply m_1 | apply m_0); (focus ((conv => lhs; simp -dsimp -implicitDefEqProofs (disch := first | omega | (simp <;> omega) | fail) [AJump.exitOf, c0, c1]); done))) | ((with_reducible first | apply i_T | apply g_T); (focus (simp -dsimp -implicitDefEqProofs (disch := first | omega | (simp <;> omega) | fail) [AJump.exitOf, c0, c1]; done))) | ((with_reducible first | apply i_F | apply g_F); (focus (simp -dsimp -implicitDefEqProofs (disch := first | omega | (simp <;> omega) | fail) [AJump.exitOf, c0, c1]; done))))
    refine ret_okD (by simp (disch := first | omega | (simp <;> omega) | fail) [hd]) (by simp) (by simp (disch := first | omega | (simp <;> omega) | fail) [killAll, c0, c1]; rfl) ⟨fun x hx => by simp (disch := first | omega | (simp <;> omega) | fail) [killAll, old x hx], by simp [killAll]; omega, .inr ⟨e, by simp [retVal]⟩⟩
theorem ct_many_Many_Check {b mb : Nat} {A M : List (Int × Grp)} {l : List Prt} {s : AState} {B : Nat} (h : ManyAt s b mb A M) (hM : ManyOk B M) (hB : B + 6 * l.length ≤ 1000000) (hl : l.length ≤ 1000) (hes : ∀ p ∈ l, p.es.length ≤ 1000000) :
    Gives prog F_many_Many_Check [.p b 0, .sl (l.map Prt.av) .no] s (.v (.int .i64 (triedE M l))) s := by
  refine Runs.gives (runs_e h_many_Many_Check (Nat.le_of_ble_eq_true rfl) ?_) (.v _)
  refine st0 ?_
  refine rn0 (rn_many_Many_tried h hM hB hl hes) ?_
  rintro _ s1 ⟨old, n, ⟨he, c, mc, A', rfl, k1, k2, k3⟩ | ⟨he, rfl⟩⟩
  · refine st1 he ?_
    exact ret_ok rfl ⟨⟨n, fun x hx => .inl (old x hx).symm⟩, by rw [he]; exact .refl _⟩
  · refine st0 ?_
    exact ret_ok rfl ⟨⟨n, fun x hx => .inl (old x hx).symm⟩, .refl _⟩
theorem rn_many_Many_Do {b mb : Nat} {A M : List (Int × Grp)} {l : List Prt} {s : AState} {B : Nat} (h : ManyAt s b mb A M) (hM : ManyOk B M) (hB : B + 6 * l.length ≤ 1000000) (hl : l.length ≤ 1000) (hes : ∀ p ∈ l, p.es.length ≤ 1000000) :
    Runs (compCode prog) prog F_many_Many_Do [.p b 0, .sl (l.map Prt.av) .no] s (fun x s' => x = .v (.int .i64 (triedE M l)) ∧ (∀ x, x < s.n → x ≠ b → s'.get x = s.get x) ∧ s.n ≤ s'.n ∧ ∃ mb' A', (mb' = mb ∨ s.n ≤ mb') ∧ ManyAt s' b mb' A' (doM M l)) := by
  refine runs_e h_many_Many_Do (Nat.le_of_ble_eq_true rfl) ?_
  obtain ⟨lb, lm, lne⟩ := h.lt
  refine st0 ?_
  refine rn0 (rn_many_Many_tried h hM hB hl hes) ?_
  unfold doM
  rintro _ s1 ⟨old, n, ⟨he, c, mc, A', rfl, k1, k2, k3⟩ | ⟨he, rfl⟩⟩
  · have a1 := k3.b
    have a2 := k3.m
    have ln := AState.lt_of_get a2 (by simp)
    have lc := AState.lt_of_get a1 (by simp)
    have hb1 := (old b lb).trans h.b
    rw [if_pos he]
    refine st2 a1 hb1 ?_
    exact ret_ok rfl ⟨by rw [he]; rfl, fun x hx hn => dz2 hn (old x hx), by simp; omega, mc, A', .inr k2, ⟨dz0, dz1 a2, k3.r⟩⟩
  · rw [if_neg he]
    refine st1 he ?_
    exact ret_ok rfl ⟨rfl, fun x hx hn => old x hx, n, mb, A, .inl rfl, h.keep fun x hx => by rcases hx with rfl | rfl <;> exact old _ (by assumption)⟩
end Go.Proofs.Ytmfhchaoijiodaa
end
section
namespace Go.Ab
set_option linter.unusedVariables false
theorem sub_perm {α : Type} [DecidableEq α] : ∀ {a b : List α}, a.Nodup → (∀ x ∈ a, x ∈ b) → b.length ≤ a.length → a.Perm b
  | [], b, _, _, h => by have : b = [] := List.eq_nil_of_length_eq_zero (by simpa using h)
                         subst this; exact .refl _
  | x :: a, b, hn, hs, h => by
    obtain ⟨h1, h2⟩ := List.nodup_cons.1 hn
    have hx := hs x (by simp)
    have hp := List.perm_cons_erase hx
    have hl := hp.length_eq
    simp only [List.length_cons] at hl h
    exact ((sub_perm h2 (fun y hy => (List.mem_erase_of_ne (fun e => h1 (by rw [← e]; exact hy))).2 (hs y (by simp [hy]))) (by omega)).cons x).trans hp.symm
theorem rep_eq {A1 M1 A2 M2 : List (Int × Grp)} (h1 : Rep A1 M1) (h2 : Rep A2 M2) : M1 = M2 ↔ A1.length = A2.length ∧ ∀ x ∈ A1, lk A2 x.1 = some x.2 := by
  constructor
  · rintro rfl
    refine ⟨h1.perm.length_eq.trans h2.perm.length_eq.symm, fun x hx => ?_⟩
    rw [h2.lk, ← h1.lk]
    exact lk_of_mem h1.nodup hx
  · rintro ⟨hl, ha⟩
    have hp : A1.Perm A2 := sub_perm (show A1.Nodup from (List.pairwise_map.1 h1.nodup).imp fun h e => h (by rw [e])) (fun x hx => lk_mem (ha x hx)) (by omega)
    exact Srt.ext h1.srt h2.srt fun k => by rw [← h1.lk, ← h2.lk, lk_perm h1.nodup hp k]
structure EqI (s : AState) (b1 b2 it : Nat) (A1 A2 : List (Int × Grp)) (bs : List Nat) (clk : Nat) (dn : List Nat) (s' : AState) : Prop where
  h : s'.get b1 = .held (encM Grp.av A1) bs clk
  i : s'.get it = .iter b1 bs clk dn
  b : s'.get b2 = .map (encM Grp.av A2)
  old : ∀ x, x < s.n → x ≠ b1 → s'.get x = s.get x
  n : s.n + 1 ≤ s'.n
  nd : dn.Nodup
  lt : ∀ i ∈ dn, i < A1.length
  ok : ∀ i (h : i < A1.length), i ∈ dn → lk A2 A1[i].1 = some A1[i].2
end Go.Ab
namespace Go.Proofs.Ytmfhchaoijiodaa
open Go.Ab
set_option linter.unusedVariables false
set_option linter.unusedSimpArgs false
set_option maxRecDepth 100000
set_option maxHeartbeats 1000000
theorem ct_maps_EqualFunc_Group {b1 b2 : Nat} {A1 M1 A2 M2 : List (Int × Grp)} {s : AState} (h1 : s.get b1 = .map (encM Grp.av A1)) (h2 : s.get b2 = .map (encM Grp.av A2)) (r1 : Rep A1 M1) (r2 : Rep A2 M2) (hne : b1 ≠ b2) (hes : ∀ x ∈ A1, x.2.es.length ≤ 1000000) :
    Gives prog F_maps_EqualFunc_Group [.m b1, .m b2, .f (.func F_group_Same) [] []] s (.v (.bool (decide (M1 = M2)))) s := by
  refine Runs.gives (runs_e h_maps_EqualFunc_Group (Nat.le_of_ble_eq_true rfl) ?_) (.v _)
  have l1 := AState.lt_of_get h1 (by simp)
  have l2 := AState.lt_of_get h2 (by simp)
  have hq := rep_eq r1 r2
  have e1 : (encM Grp.av A1).length = A1.length := by simp [encM]
  have e2 : (encM Grp.av A2).length = A2.length := by simp [encM]
  by_cases hl : A1.length = A2.length
  case neg =>
    have hl' : ¬ (A1.length : Int) = A2.length := by omega
    have hd : decide (M1 = M2) = false := decide_eq_false fun e => hl (hq.1 e).1
    rw [hd]
    repeat (first | simp -dsimp -implicitDefEqProofs (disch := first | omega | (simp <;> omega) | fail) [h1, h2, e1, e2, hl'] | ((with_reducible first | apply m_1 | apply m_0); (focus ((conv => lhs; simp -dsimp -implicitDefEqProofs (disch := first | omega | (simp <;> omega) | fail) [h1, h2, e1, e2, hl']); done))) | ((with_reducible first | apply i_T | apply g_T); (focus (simp -dsimp -implicitDefEqProofs (disch := first | omega | (simp <;> omega) | fail) [h1, h2, e1, e2, hl']; done))) | ((with_reducible first | apply i_F | apply g_F); (focus (simp -dsimp -implicitDefEqProofs (disch := first | omega | (simp <;> omega) | fail) [h1, h2, e1, e2, hl']; done))))
    exact ret_ok rfl ⟨AState.sub.refl _, .refl _⟩
  have hl' : (A1.length : Int) = A2.length := by omega
  repeat (first | simp -dsimp -implicitDefEqProofs (disch := first | omega | (simp <;> omega) | fail) [h1, h2, e1, e2, hl'] | ((with_reducible first | apply m_1 | apply m_0); (focus ((conv => lhs; simp -dsimp -implicitDefEqProofs (disch := first | omega | (simp <;> omega) | fail) [h1, h2, e1, e2, hl']); done))) | ((with_reducible first | apply i_T | apply g_T); (focus (simp -dsimp -implicitDefEqProofs (disch := first | omega | (simp <;> omega) | fail) [h1, h2, e1, e2, hl']; done))) | ((with_reducible first | apply i_F | apply g_F); (focus (simp -dsimp -implicitDefEqProofs (disch := first | omega | (simp <;> omega) | fail) [h1, h2, e1, e2, hl']; done))))
  refine m_rng (b := b1) (es := encM Grp.av A1) (by simp) h1 ?_
  intro bs clk k1 k2 k3
  repeat (first | simp -dsimp -implicitDefEqProofs (disch := first | omega | (simp <;> omega) | fail) | ((with_reducible first | apply m_1 | apply m_0); (focus ((conv => lhs; simp -dsimp -implicitDefEqProofs (disch := first | omega | (simp <;> omega) | fail)); done))) | ((with_reducible first | apply i_T | apply g_T); (focus (simp -dsimp -implicitDefEqProofs (disch := first | omega | (simp <;> omega) | fail); done))) | ((with_reducible first | apply i_F | apply g_F); (focus (simp -dsimp -implicitDefEqProofs (disch := first | omega | (simp <;> omega) | fail); done))))
  refine loop_ok [0, 1, 2, 17] (fun m a s2 => ∃ dn : List Nat, dn.length + m = A1.length ∧ EqI s b1 b2 s.n A1 A2 bs clk dn s2 ∧
    a = { t := den 38 [(0, .m b1), (1, .m b2), (2, .f (.func F_group_Same) [] []), (17, .p s.n 0)], d := [] }) A1.length ?_ ?_
  · exact ⟨[], by simp, ⟨by simp (disch := first | omega | (simp <;> omega) | fail), by simp (disch := first | omega | (simp <;> omega) | fail), by simp (disch := first | omega | (simp <;> omega) | fail) [h2], fun x hx hn => by simp (disch := first | omega | (simp <;> omega) | fail) [hn], by simp, List.nodup_nil, by simp, by simp⟩, by simp⟩
  rintro m a s2 ⟨dn, him, hI, rfl⟩
  obtain ⟨ih, ii, ib, old, n2, nd, lt, ok⟩ := hI
  have lb1 := AState.lt_of_get ih (by simp)
  have lb2 := AState.lt_of_get ib (by simp)
  have lit := AState.lt_of_get ii (by simp)
  repeat (first | simp -dsimp -implicitDefEqProofs (disch := first | omega | (simp <;> omega) | fail) | ((with_reducible first | apply m_1 | apply m_0); (focus ((conv => lhs; simp -dsimp -implicitDefEqProofs (disch := first | omega | (simp <;> omega) | fail)); done))) | ((with_reducible first | apply i_T | apply g_T); (focus (simp -dsimp -implicitDefEqProofs (disch := first | omega | (simp <;> omega) | fail); done))) | ((with_reducible first | apply i_F | apply g_F); (focus (simp -dsimp -implicitDefEqProofs (disch := first | omega | (simp <;> omega) | fail); done))))
  refine m_nxt (b := b1) (it := s.n) (es := encM Grp.av A1) (by simp) ii ih (fun i hi hn => ?_) (fun hall => ?_)
  · rw [e1] at hi
    have hx : (encM Grp.av A1)[i]'(by rw [e1]; exact hi) = (.v (.int .i64 A1[i].1), A1[i].2.av) := by simp only [encM, List.getElem_map]; rfl
    have hgd : (encM Grp.av A1).getD i (AV.any, AV.any) = (.v (.int .i64 A1[i].1), A1[i].2.av) := by rw [List.getD_eq_getElem?_getD, List.getElem?_eq_getElem (by rw [e1]; exact hi), hx]; rfl
    have hgd2 : (encM Grp.av A1)[i]? = some (.v (.int .i64 A1[i].1), A1[i].2.av) := by rw [List.getElem?_eq_getElem (by rw [e1]; exact hi), hx]
    have hie : i < (encM Grp.av A1).length := by rw [e1]; exact hi
    have hle := hes _ (List.getElem_mem hi)
    have hdn : dn.length < A1.length := by
      by_cases h : dn.length < A1.length
      · exact h
      · have hp := sub_perm (b := List.range A1.length) nd (fun x hx => List.mem_range.2 (lt x hx)) (by simp; omega)
        exact absurd (hp.mem_iff.2 (List.mem_range.2 hi)) hn
    have hokx : ∀ j (h : j < A1.length), j ∈ dn ++ [i] → j ∈ dn ∨ j = i := fun j h hj => by simpa using hj
    generalize hxe : A1[i] = x at hx hgd hgd2 hle
    repeat (first | simp -dsimp -implicitDefEqProofs (disch := first | omega | (simp <;> omega) | fail) [hx, hgd, hgd2, hi, ih, ii] | ((with_reducible first | apply m_1 | apply m_0); (focus ((conv => lhs; simp -dsimp -implicitDefEqProofs (disch := first | omega | (simp <;> omega) | fail) [hx, hgd, hgd2, hi, ih, ii]); done))) | ((with_reducible first | apply i_T | apply g_T); (focus (simp -dsimp -implicitDefEqProofs (disch := first | omega | (simp <;> omega) | fail) [hx, hgd, hgd2, hi, ih, ii]; done))) | ((with_reducible first | apply i_F | apply g_F); (focus (simp -dsimp -implicitDefEqProofs (disch := first | omega | (simp <;> omega) | fail) [hx, hgd, hgd2, hi, ih, ii]; done))))
    refine m_look (κ := Int) (A := A2) (enc := Grp.av) (k := x.1) (b := b2) (by simp) (by simp (disch := first | omega | (simp <;> omega) | fail) [ib]) (by simp; rfl) ?_
    unfold lkV
    have bad : ¬ lk A2 x.1 = some x.2 → decide (M1 = M2) = false := fun h => decide_eq_false fun e => h (by
      have := (hq.1 e).2 _ (List.getElem_mem hi)
      rwa [hxe] at this)
    have ext : ∀ s', (∀ y, y < s.n → s'.get y = s2.get y) → s.n ≤ s'.n → s.sub s' := fun s' k n => ⟨n, fun y hy => by
      by_cases e : y = b1
      · subst e; exact .inr (.inr ⟨_, _, _, h1, (k _ hy).trans ih⟩)
      · exact .inl (by rw [k y hy, old y hy e])⟩
    cases hk : lk A2 x.1 with
    | none =>
      have hd := bad (by rw [hk]; simp)
      rw [hd]
      repeat (first | simp -dsimp -implicitDefEqProofs (disch := first | omega | (simp <;> omega) | fail) | ((with_reducible first | apply m_1 | apply m_0); (focus ((conv => lhs; simp -dsimp -implicitDefEqProofs (disch := first | omega | (simp <;> omega) | fail)); done))) | ((with_reducible first | apply i_T | apply g_T); (focus (simp -dsimp -implicitDefEqProofs (disch := first | omega | (simp <;> omega) | fail); done))) | ((with_reducible first | apply i_F | apply g_F); (focus (simp -dsimp -implicitDefEqProofs (disch := first | omega | (simp <;> omega) | fail); done))))
      exact ret_ok rfl ⟨ext _ (fun y hy => by simp (disch := first | omega | (simp <;> omega) | fail)) (by simp; omega), .refl _⟩
    | some y =>
      repeat (first | simp -dsimp -implicitDefEqProofs (disch := first | omega | (simp <;> omega) | fail) | ((with_reducible first | apply m_1 | apply m_0); (focus ((conv => lhs; simp -dsimp -implicitDefEqProofs (disch := first | omega | (simp <;> omega) | fail)); done))) | ((with_reducible first | apply i_T | apply g_T); (focus (simp -dsimp -implicitDefEqProofs (disch := first | omega | (simp <;> omega) | fail); done))) | ((with_reducible first | apply i_F | apply g_F); (focus (simp -dsimp -implicitDefEqProofs (disch := first | omega | (simp <;> omega) | fail); done))))
      refine gv (ct_group_Same (a := x.2) (b := y) (by omega)) ?_
      by_cases he : x.2 = y
      · repeat (first | simp -dsimp -implicitDefEqProofs (disch := first | omega | (simp <;> omega) | fail) [he] | ((with_reducible first | apply m_1 | apply m_0); (focus ((conv => lhs; simp -dsimp -implicitDefEqProofs (disch := first | omega | (simp <;> omega) | fail) [he]); done))) | ((with_reducible first | apply i_T | apply g_T); (focus (simp -dsimp -implicitDefEqProofs (disch := first | omega | (simp <;> omega) | fail) [he]; done))) | ((with_reducible first | apply i_F | apply g_F); (focus (simp -dsimp -implicitDefEqProofs (disch := first | omega | (simp <;> omega) | fail) [he]; done))))
        refine ⟨m - 1, by omega, dn ++ [i], by simp; omega, ⟨by simp (disch := first | omega | (simp <;> omega) | fail) [ih], by simp (disch := first | omega | (simp <;> omega) | fail), dz1 ib, fun z hz hn => by simp (disch := first | omega | (simp <;> omega) | fail) [old z hz hn], by simp; omega, ?_, ?_, ?_⟩, by simp⟩
        · rw [List.nodup_append]
          exact ⟨nd, by simp, fun a ha b hb => by rw [List.mem_singleton] at hb; rintro rfl; exact hn (hb ▸ ha)⟩
        · intro j hj
          rcases List.mem_append.1 hj with hj | hj
          · exact lt j hj
          · rw [List.mem_singleton] at hj; omega
        · intro j hj hm
          rcases hokx j hj hm with hm | rfl
          · exact ok j hj hm
          · rw [hxe, hk, he]
      · have hd := bad (by rw [hk]; simpa using fun e => he e.symm)
        rw [hd]
        refine st1 he ?_
        exact ret_ok rfl ⟨ext _ (fun z hz => dz0) (by simp; omega), .refl _⟩
  · have hd : decide (M1 = M2) = true := decide_eq_true (hq.2 ⟨hl, fun x hx => by
      obtain ⟨i, hi, rfl⟩ := List.getElem_of_mem hx
      exact ok i hi (hall i (by rw [e1]; exact hi))⟩)
    rw [hd]
    refine st0 ?_
    refine ret_ok rfl ⟨⟨by simp; omega, fun x hx => ?_⟩, .refl _⟩
    by_cases e : x = b1
    · subst e; left; simp (disch := first | omega | (simp <;> omega) | fail) [h1]
    · left; simp (disch := first | omega | (simp <;> omega) | fail) [e, old x hx e]
theorem ct_many_Same {b1 m1 b2 m2 : Nat} {A1 M1 A2 M2 : List (Int × Grp)} {s : AState} {B : Nat} (h1 : ManyAt s b1 m1 A1 M1) (h2 : ManyAt s b2 m2 A2 M2) (hne : m1 ≠ m2) (hM : ManyOk B M1) (hB : B ≤ 1000000) :
    Gives prog F_many_Same [.p b1 0, .p b2 0] s (.v (.bool (decide (M1 = M2)))) s := by
  refine Runs.gives (runs_e h_many_Same (Nat.le_of_ble_eq_true rfl) ?_) (.v _)
  have a1 := h1.b
  have a2 := h2.b
  repeat (first | simp -dsimp -implicitDefEqProofs (disch := first | omega | (simp <;> omega) | fail) [a1, a2] | ((with_reducible first | apply m_1 | apply m_0); (focus ((conv => lhs; simp -dsimp -implicitDefEqProofs (disch := first | omega | (simp <;> omega) | fail) [a1, a2]); done))) | ((with_reducible first | apply i_T | apply g_T); (focus (simp -dsimp -implicitDefEqProofs (disch := first | omega | (simp <;> omega) | fail) [a1, a2]; done))) | ((with_reducible first | apply i_F | apply g_F); (focus (simp -dsimp -implicitDefEqProofs (disch := first | omega | (simp <;> omega) | fail) [a1, a2]; done))))
  refine gv (ct_maps_EqualFunc_Group h1.m h2.m h1.r h2.r hne (fun x hx => by have := hM.len x (h1.r.perm.mem_iff.1 hx); omega)) ?_
  repeat (first | simp -dsimp -implicitDefEqProofs (disch := first | omega | (simp <;> omega) | fail) | ((with_reducible first | apply m_1 | apply m_0); (focus ((conv => lhs; simp -dsimp -implicitDefEqProofs (disch := first | omega | (simp <;> omega) | fail)); done))) | ((with_reducible first | apply i_T | apply g_T); (focus (simp -dsimp -implicitDefEqProofs (disch := first | omega | (simp <;> omega) | fail); done))) | ((with_reducible first | apply i_F | apply g_F); (focus (simp -dsimp -implicitDefEqProofs (disch := first | omega | (simp <;> omega) | fail); done))))
  exact ret_ok rfl ⟨AState.sub.refl _, .refl _⟩
end Go.Proofs.Ytmfhchaoijiodaa
end
section
namespace Go.Proofs.Ytmfhchaoijiodaa
open Go.Ab
set_option linter.unusedVariables false
set_option linter.unusedSimpArgs false
set_option maxRecDepth 100000
set_option maxHeartbeats 4000000
def Ones (xs : List AV) : Prop := ∀ x ∈ xs, x.cells = [x] ∧ x.one = true ∧ x.strip = x
theorem Ones.ints {k : IntKind} (l : List Int) : Ones (l.map fun n => .v (.int k n)) := by intro x hx; obtain ⟨n, _, rfl⟩ := List.mem_map.1 hx; exact ⟨rfl, rfl, rfl⟩
theorem ct_slices_Values_int {xs : List AV} {s : AState} : Gives prog F_slices_Values_int [.sl xs .no] s (.f (.func F_slices_Values_int_1) [] [.p s.n 0]) (s.alloc (.cells [.sl xs .no])) := by
  refine runs_e h_slices_Values_int (Nat.le_of_ble_eq_true rfl) ?_
  refine st0 ?_
  exact ret_ok rfl ⟨rfl, rfl⟩
theorem it_slices_Values_int (xs : List AV) (hx : Ones xs) (b : Nat) (hlen : xs.length < 9223372036854775808) : Iter prog F_slices_Values_int_1 [] [.p b 0] (xs.map fun e => [e]) (fun s => s.get b = .cells [.sl xs .no]) := by
  intro l s I J hp ha hj hy h0
  refine runs_e h_slices_Values_int_1 (Nat.le_of_ble_eq_true rfl) ?_
  refine st1 (hp 0 s h0) ?_
  refine loop_ok [0, 5, 6, 7] (fun m a s1 => ∃ j : Nat, j + m = xs.length ∧ I j s1 ∧ a = { t := den 16 [(0, .y l), (5, .sl xs .no), (6, .v (.int .i64 xs.length)), (7, .v (.int .i64 j))], d := [] }) xs.length ?_ ?_
  · exact ⟨0, by simp, h0, by simp⟩
  · rintro m a s1 ⟨j, hjm, hI, rfl⟩
    by_cases hlt : j < xs.length
    · have hw : IntKind.wrap .i64 ((j : Int) + 1) = ((j + 1 : Nat) : Int) := by rw [wrap_i64 (by omega) (by omega)]; omega
      obtain ⟨hc, ho, _⟩ := hx _ (List.getElem_mem hlt)
      refine st3 hlt hc ho ?_
      have hy' := hy j (by simpa using hlt) _ hI
      simp only [List.getElem_map] at hy'
      refine yr0 (hy') ?_
      rintro _ s2 (⟨rfl, hI2⟩ | ⟨rfl, hJ⟩)
      · refine st1 hw ?_
        exact ⟨m - 1, by omega, j + 1, by omega, hI2, by simp⟩
      · refine st0 ?_
        exact ret_ok rfl (.inr hJ)
    · refine st1 hlt ?_
      have : j = xs.length := by omega
      subst this
      exact end_ok rfl (.inl (by simpa using hI))
end Go.Proofs.Ytmfhchaoijiodaa
end
section
namespace Go.Ab
set_option linter.unusedVariables false
def grpsM (M : List (Int × Grp)) : List Grp := M.map (·.2)
structure AllI (s : AState) (b : Nat) (ks l : List AV) (s' : AState) : Prop where
  b0 : ∃ tk, s'.get (s.n + 1) = .cells [.sl l tk] ∧ May (s.n + 6) s' l tk
  b1 : s'.get s.n = .cells [.p b 0]
  b2 : s'.get (s.n + 3) = .cells [.sl ks .no]
  n : s.n + 6 ≤ s'.n
  old : ∀ x, x < s.n → s'.get x = s.get x
theorem AllI.alloc {s : AState} {b : Nat} {ks l : List AV} {s' : AState} (h : AllI s b ks l s') (o : AObj) : AllI s b ks l (s'.alloc o) := by
  obtain ⟨⟨tk, g1, g2⟩, b1, b2, n, old⟩ := h
  exact ⟨⟨tk, dz1 g1, g2.alloc o⟩, dz1 b1, dz1 b2, by simp; omega, fun x hx => dz1 (old x hx)⟩
end Go.Ab
namespace Go.Proofs.Ytmfhchaoijiodaa
open Go.Ab
set_option linter.unusedVariables false
set_option linter.unusedSimpArgs false
set_option maxRecDepth 100000
set_option maxHeartbeats 8000000
theorem ct_many_Many_All {b mb : Nat} {A M : List (Int × Grp)} {s : AState} {B : Nat} (h : ManyAt s b mb A M) (hM : ManyOk B M) (hB : B ≤ 1000000) : Gives prog F_many_Many_All [.p b 0] s (.sl ((grpsM M).map Grp.av) .no) s := by
  obtain ⟨lb, lm, lne⟩ := h.lt
  obtain ⟨h1, h2, h3⟩ := h
  have hrng := hM.rng
  have hsz := hM.size
  refine Runs.gives (runs_e h_many_Many_All (Nat.le_of_ble_eq_true rfl) ?_) (flat_sl Grp.row _)
  repeat (first | simp -dsimp -implicitDefEqProofs (disch := first | omega | (simp <;> omega) | fail) [h1] | ((with_reducible first | apply m_1 | apply m_0); (focus ((conv => lhs; simp -dsimp -implicitDefEqProofs (disch := first | omega | (simp <;> omega) | fail) [h1]); done))) | ((with_reducible first | apply i_T | apply g_T); (focus (simp -dsimp -implicitDefEqProofs (disch := first | omega | (simp <;> omega) | fail) [h1]; done))) | ((with_reducible first | apply i_F | apply g_F); (focus (simp -dsimp -implicitDefEqProofs (disch := first | omega | (simp <;> omega) | fail) [h1]; done))))
  refine giv (ct_maps_Keys_Group (b := mb)) (by first | (simp; done) | rfl | (simp; rfl)) ?_
  repeat (first | simp -dsimp -implicitDefEqProofs (disch := first | omega | (simp <;> omega) | fail) | ((with_reducible first | apply m_1 | apply m_0); (focus ((conv => lhs; simp -dsimp -implicitDefEqProofs (disch := first | omega | (simp <;> omega) | fail)); done))) | ((with_reducible first | apply i_T | apply g_T); (focus (simp -dsimp -implicitDefEqProofs (disch := first | omega | (simp <;> omega) | fail); done))) | ((with_reducible first | apply i_F | apply g_F); (focus (simp -dsimp -implicitDefEqProofs (disch := first | omega | (simp <;> omega) | fail); done))))
  obtain ⟨ks, hks⟩ : ∃ ks : List AV, ks = (M.map (·.1)).map fun n => .v (.int .i64 n) := ⟨_, rfl⟩
  have hon : Ones ks := by rw [hks]; exact Ones.ints _
  have hkl : ks.length = M.length := by rw [hks]; simp
  have hkg : ∀ k (h : k < M.length) (h' : k < ks.length), ks[k] = .v (.int .i64 M[k].1) := fun k h h' => by simp only [hks, List.getElem_map]
  have hso : ∀ {s' : AState}, s'.get (s.n + 2) = .cells [.m mb] → s'.get mb = .map (encM Grp.av A) → Gives prog F_slices_Sorted_int [.f (.func F_maps_Keys_Group_1) [] [.p (s.n + 2) 0]] s' (.sl ks .no) s' := fun {s'} q1 q2 => by
    rw [hks]; exact ct_sorted_Group (B := M) (A := A) (enc := Grp.av) (cb := s.n + 2) (b := mb) q1 q2 h3 (fun x hx => by have := hrng x hx; omega) (by omega)
  refine giv (hso (by simp (disch := first | omega | (simp <;> omega) | fail)) (by simp (disch := first | omega | (simp <;> omega) | fail) [h2])) (by first | (simp; done) | rfl | (simp; rfl)) ?_
  repeat (first | simp -dsimp -implicitDefEqProofs (disch := first | omega | (simp <;> omega) | fail) | ((with_reducible first | apply m_1 | apply m_0); (focus ((conv => lhs; simp -dsimp -implicitDefEqProofs (disch := first | omega | (simp <;> omega) | fail)); done))) | ((with_reducible first | apply i_T | apply g_T); (focus (simp -dsimp -implicitDefEqProofs (disch := first | omega | (simp <;> omega) | fail); done))) | ((with_reducible first | apply i_F | apply g_F); (focus (simp -dsimp -implicitDefEqProofs (disch := first | omega | (simp <;> omega) | fail); done))))
  refine giv (ct_slices_Values_int (xs := ks)) (by first | (simp; done) | rfl | (simp; rfl)) ?_
  repeat (first | simp -dsimp -implicitDefEqProofs (disch := first | omega | (simp <;> omega) | fail) | ((with_reducible first | apply m_1 | apply m_0); (focus ((conv => lhs; simp -dsimp -implicitDefEqProofs (disch := first | omega | (simp <;> omega) | fail)); done))) | ((with_reducible first | apply i_T | apply g_T); (focus (simp -dsimp -implicitDefEqProofs (disch := first | omega | (simp <;> omega) | fail); done))) | ((with_reducible first | apply i_F | apply g_F); (focus (simp -dsimp -implicitDefEqProofs (disch := first | omega | (simp <;> omega) | fail); done))))
  have hsn : ((((s.alloc (.cells [.p b 0])).alloc (.cells [.sl [] .zero])).alloc (.cells [.m mb])).alloc (.cells [.sl ks .no])).n = s.n + 4 := by simp
  have hgl : ∀ k, (grpsM (M.take k)).length ≤ 1000 := fun k => by simp only [grpsM, List.length_map, List.length_take]; omega
  refine w_rangeS (m := M.length) (by simp) (it_slices_Values_int ks hon (s.n + 3) (by omega)) (by intro x hx; obtain ⟨p, _, rfl⟩ := List.mem_map.1 hx; rfl) (by simp [hkl])
    (fun k s' => AllI s b ks ((grpsM (M.take k)).map Grp.av) s') (fun j s' => False) ?_ ?_ ?_ ?_ ?_ ?_ ?_
  · intro LR
    exact ⟨⟨.zero, by simp (disch := first | omega | (simp <;> omega) | fail) [grpsM], trivial⟩, by simp (disch := first | omega | (simp <;> omega) | fail), by simp (disch := first | omega | (simp <;> omega) | fail), by simp, fun x hx => by simp (disch := first | omega | (simp <;> omega) | fail)⟩
  · intro k s' h; exact h.b2
  · intro k s' o hn h; exact h.alloc o
  · intro j s' o hn h; exact h.elim
  · intro LR LB LJ hLB hLR k hk s' hd hLL hln hI
    have hk' : k < M.length := by simpa [hkl] using hk
    have hkk := hkg k hk' (by omega)
    obtain ⟨⟨tk, g1, g2⟩, b1, b2, n, old⟩ := hI
    have hlk : lk A M[k].1 = some M[k].2 := by rw [h3.lk]; exact hM.srt.lk_mem (List.getElem_mem hk')
    have hgs : grpsM (M.take (k + 1)) = grpsM (M.take k) ++ [M[k].2] := by
      have e : M.take (k + 1) = M.take k ++ [M[k]] := (List.take_append_getElem hk').symm
      unfold grpsM; rw [e, List.map_append]; rfl
    have hgk := hgl k
    have hbl := hM.len _ (List.getElem_mem hk')
    simp only [hsn, List.getElem_map, List.zip_cons_cons, List.zip_nil_right, List.reverse_cons, List.reverse_nil, List.nil_append, List.cons_append] at hd hLL hln ⊢
    rw [hkk]
    generalize M[k] = x at hlk hgs hbl ⊢
    have o1 := (old b lb).trans h1
    have o2 := (old mb lm).trans h2
    repeat (first | simp -dsimp -implicitDefEqProofs (disch := first | omega | (simp <;> omega) | fail) [hLL, g1, b1, o1] | (with_reducible apply m_draw) | ((with_reducible refine ⟨m_op ?_, ?_⟩); (focus (simp -dsimp -implicitDefEqProofs (disch := first | omega | (simp <;> omega) | fail) [hLL, g1, b1, o1]; done))) | ((with_reducible first | apply m_d1 rfl | apply m_dE | apply m_dE0); (focus ((conv => lhs; simp -dsimp -implicitDefEqProofs (disch := first | omega | (simp <;> omega) | fail) [hLL, g1, b1, o1]); done))) | ((with_reducible first | apply m_1 | apply m_0); (focus ((conv => lhs; simp -dsimp -implicitDefEqProofs (disch := first | omega | (simp <;> omega) | fail) [hLL, g1, b1, o1]); done))) | ((with_reducible first | apply i_T | apply g_T | apply h_T); (focus (simp -dsimp -implicitDefEqProofs (disch := first | omega | (simp <;> omega) | fail) [hLL, g1, b1, o1]; done))) | ((with_reducible first | apply i_F | apply g_F | apply h_F); (focus (simp -dsimp -implicitDefEqProofs (disch := first | omega | (simp <;> omega) | fail) [hLL, g1, b1, o1]; done))))
    refine q_look (κ := Int) (A := A) (enc := Grp.av) (k := x.1) (b := mb) (by simp) (by simp (disch := first | omega | (simp <;> omega) | fail) [o2]) (by simp; rfl) ?_
    unfold lkV
    rw [hlk]
    refine sd4 hLL g1 b1 o1 ?_
    refine gv (ct_many_copied (g := x.2) (by omega)) ?_
    repeat (first | simp -dsimp -implicitDefEqProofs (disch := first | omega | (simp <;> omega) | fail) [g1] | (with_reducible apply m_draw) | ((with_reducible refine ⟨m_op ?_, ?_⟩); (focus (simp -dsimp -implicitDefEqProofs (disch := first | omega | (simp <;> omega) | fail) [g1]; done))) | ((with_reducible first | apply m_d1 rfl | apply m_dE | apply m_dE0); (focus ((conv => lhs; simp -dsimp -implicitDefEqProofs (disch := first | omega | (simp <;> omega) | fail) [g1]); done))) | ((with_reducible first | apply m_1 | apply m_0); (focus ((conv => lhs; simp -dsimp -implicitDefEqProofs (disch := first | omega | (simp <;> omega) | fail) [g1]); done))) | ((with_reducible first | apply i_T | apply g_T | apply h_T); (focus (simp -dsimp -implicitDefEqProofs (disch := first | omega | (simp <;> omega) | fail) [g1]; done))) | ((with_reducible first | apply i_F | apply g_F | apply h_F); (focus (simp -dsimp -implicitDefEqProofs (disch := first | omega | (simp <;> omega) | fail) [g1]; done))))
    refine q_appS (xs := (grpsM (M.take k)).map Grp.av) (tk := tk) (ys := [x.2.av]) (t2 := .zero) (N := s.n + 6) (by simp) (by simp) (by simp; omega) (g2.set _ (by omega)) (head_map Grp.row _) (by simp) (by simp; omega) (by simp; omega) ?_
    intro s2 tk2 hm2 hlow hext
    have k0 : s2.get (s.n + 1) = .cells [.sl ((grpsM (M.take k)).map Grp.av) tk] := by rw [hlow _ (by omega)]; simp (disch := first | omega | (simp <;> omega) | fail) [g1]
    have k1 : s2.get s.n = .cells [.p b 0] := by rw [hlow _ (by omega)]; simp (disch := first | omega | (simp <;> omega) | fail) [b1]
    have k2 : s2.get (s.n + 4) = .defd := by rw [hlow _ (by omega)]; simp (disch := first | omega | (simp <;> omega) | fail) [hd]
    have k3 : s2.get (s.n + 4 + 1) = LB := by rw [hlow _ (by omega)]; simp (disch := first | omega | (simp <;> omega) | fail)
    have k5 : s2.get (s.n + 3) = .cells [.sl ks .no] := by rw [hlow _ (by omega)]; simp (disch := first | omega | (simp <;> omega) | fail) [b2]
    have k4 : ∀ x, x < s.n → s2.get x = s.get x := fun x hx => by rw [hlow _ (by omega)]; simp (disch := first | omega | (simp <;> omega) | fail) [old x hx]
    have hn2 : s.n + 6 ≤ s2.n := by have := hext.1; simp at this; omega
    clear hext hlow
    repeat (first | simp -dsimp -implicitDefEqProofs (disch := first | omega | (simp <;> omega) | fail) [k0] | (with_reducible apply m_draw) | ((with_reducible refine ⟨m_op ?_, ?_⟩); (focus (simp -dsimp -implicitDefEqProofs (disch := first | omega | (simp <;> omega) | fail) [k0]; done))) | ((with_reducible first | apply m_d1 rfl | apply m_dE | apply m_dE0); (focus ((conv => lhs; simp -dsimp -implicitDefEqProofs (disch := first | omega | (simp <;> omega) | fail) [k0]); done))) | ((with_reducible first | apply m_1 | apply m_0); (focus ((conv => lhs; simp -dsimp -implicitDefEqProofs (disch := first | omega | (simp <;> omega) | fail) [k0]); done))) | ((with_reducible first | apply i_T | apply g_T | apply h_T); (focus (simp -dsimp -implicitDefEqProofs (disch := first | omega | (simp <;> omega) | fail) [k0]; done))) | ((with_reducible first | apply i_F | apply g_F | apply h_F); (focus (simp -dsimp -implicitDefEqProofs (disch := first | omega | (simp <;> omega) | fail) [k0]; done))))
    repeat (first | simp -dsimp -implicitDefEqProofs (disch := first | omega | (simp <;> omega) | fail) [k0, k3] | ((with_reducible first | apply m_1 | apply m_0); (focus ((conv => lhs; simp -dsimp -implicitDefEqProofs (disch := first | omega | (simp <;> omega) | fail) [k0, k3]); done))) | ((with_reducible first | apply i_T | apply g_T); (focus (simp -dsimp -implicitDefEqProofs (disch := first | omega | (simp <;> omega) | fail) [k0, k3]; done))) | ((with_reducible first | apply i_F | apply g_F); (focus (simp -dsimp -implicitDefEqProofs (disch := first | omega | (simp <;> omega) | fail) [k0, k3]; done))))
    refine fins_n (fun d hd => by cases hd; simp (disch := first | omega | (simp <;> omega) | fail) [k2]) (by simp (disch := first | omega | (simp <;> omega) | fail)) ⟨⟨tk2, by simp (disch := first | omega | (simp <;> omega) | fail) [hgs], ?_⟩, by simp (disch := first | omega | (simp <;> omega) | fail) [k1], by simp (disch := first | omega | (simp <;> omega) | fail) [k5], by simpa using hn2, fun x hx => by simp (disch := first | omega | (simp <;> omega) | fail) [k4 x hx]⟩
    rw [hgs]
    simpa using (hm2.set _ (by omega)).set _ (by omega)
  · rintro s' hd hln ⟨⟨tk, g1, g2⟩, b1, b2, n, old⟩
    rw [List.take_length] at g1 g2
    simp only [hsn] at hd hln ⊢
    refine st1 g1 ?_
    refine ret_okD ?_ ?_ rfl ⟨⟨?_, fun x hx => .inl ?_⟩, AV.le_no _ _⟩
    · simp (disch := first | omega | (simp <;> omega) | fail) [hd]
    · simp
    · simp [killAll]; omega
    · simp (disch := first | omega | (simp <;> omega) | fail) [killAll, old x hx]
  · intro j s' _ _ h; exact h.elim
end Go.Proofs.Ytmfhchaoijiodaa
end
section
namespace Go.Ab
set_option linter.unusedVariables false
def ptr (b : Nat) : AV := .p b 0
end Go.Ab
end
section
namespace Go.Ab
set_option linter.unusedVariables false
def dlB : Int → List Ent → Bool
  | _, [] => true
  | f, e :: l => okEnt e && decide (e.ix = f) && dlB (f + 1) l
def isG (g : Grp) : Bool := dlB g.fi g.es && okHead g
theorem dlB_get {f : Int} {l : List Ent} : dlB f l = true ↔ ∀ (j : Nat) (h : j < l.length), okEnt l[j] = true ∧ l[j].ix = f + j := by
  induction l generalizing f with
  | nil => simp [dlB]
  | cons e l ih =>
    simp only [dlB, Bool.and_eq_true, decide_eq_true_eq, ih]
    constructor
    · rintro ⟨⟨h0, h1⟩, h2⟩ j hj
      cases j with
      | zero => simpa using ⟨h0, h1⟩
      | succ j =>
        have := h2 j (by simpa using hj)
        simp only [List.getElem_cons_succ]
        exact ⟨this.1, by omega⟩
    · intro h
      have h0 := h 0 (by simp)
      simp only [List.getElem_cons_zero] at h0
      refine ⟨⟨h0.1, by omega⟩, fun j hj => ?_⟩
      have := h (j + 1) (by simpa using hj)
      simp only [List.getElem_cons_succ] at this
      exact ⟨this.1, by omega⟩
structure IsJ (s : AState) (g : Grp) (k : Nat) (s' : AState) : Prop where
  b0 : s'.get s.n = .cells g.cells
  b1 : s'.get (s.n + 1) = .cells [.v (.bool false)]
  b2 : s'.get (s.n + 2) = .cells [.v (.int .i64 (g.fi + k))]
  b3 : s'.get (s.n + 3) = .cells [.sl (g.es.map Ent.av) .no]
  n : s.n + 6 ≤ s'.n
  gr : Grows s s'
  dn : ∀ j (h : j < g.es.length), j < k → okEnt g.es[j] = true ∧ g.es[j].ix = g.fi + (j : Int)
def ofS (M : List (Int × Grp)) (g : Grp) : List (Int × Grp) := if (lk M g.id).isSome = true ∨ isG g = false then M else putL M g.id g
def ofM (l : List Grp) : List (Int × Grp) := l.foldl ofS []
structure OfI (s : AState) (l : List Grp) (k : Nat) (s' : AState) : Prop where
  old : ∀ x, x < s.n → s'.get x = s.get x
  n : s.n + 6 ≤ s'.n
  c : s'.get (s.n + 2) = .cells [.p (s.n + 1) 0]
  m : ∃ A, ManyAt s' (s.n + 1) s.n A (ofM (l.take k))
  b : s'.get (s.n + 3) = .cells [.sl (l.map Grp.av) .no]
end Go.Ab
namespace Go.Proofs.Ytmfhchaoijiodaa
open Go.Ab
set_option linter.unusedVariables false
set_option linter.unusedSimpArgs false
set_option maxRecDepth 100000
set_option maxHeartbeats 8000000
theorem ct_group_IsG {g : Grp} {s : AState} (hlen : g.es.length ≤ 1000000000) : Gives prog F_group_Is [g.av] s (.v (.bool (isG g))) s := by
  have hMI := MI_eq
  refine Runs.gives' (runs_e h_group_Is (Nat.le_of_ble_eq_true rfl) ?_) (.v _)
  repeat (first | simp -dsimp -implicitDefEqProofs (disch := first | omega | (simp <;> omega) | fail) | ((with_reducible first | apply m_1 | apply m_0); (focus ((conv => lhs; simp -dsimp -implicitDefEqProofs (disch := first | omega | (simp <;> omega) | fail)); done))) | ((with_reducible first | apply i_T | apply g_T); (focus (simp -dsimp -implicitDefEqProofs (disch := first | omega | (simp <;> omega) | fail); done))) | ((with_reducible first | apply i_F | apply g_F); (focus (simp -dsimp -implicitDefEqProofs (disch := first | omega | (simp <;> omega) | fail); done))))
  refine gv (ct_slices_Values_Entry (xs := g.es.map Ent.av)) ?_
  repeat (first | simp -dsimp -implicitDefEqProofs (disch := first | omega | (simp <;> omega) | fail) | ((with_reducible first | apply m_1 | apply m_0); (focus ((conv => lhs; simp -dsimp -implicitDefEqProofs (disch := first | omega | (simp <;> omega) | fail)); done))) | ((with_reducible first | apply i_T | apply g_T); (focus (simp -dsimp -implicitDefEqProofs (disch := first | omega | (simp <;> omega) | fail); done))) | ((with_reducible first | apply i_F | apply g_F); (focus (simp -dsimp -implicitDefEqProofs (disch := first | omega | (simp <;> omega) | fail); done))))
  have hit := it_slices_Values_Entry g.es (s.n + 3) (by omega)
  have hsn : ((((s.alloc (.cells g.cells)).alloc (.cells [.v (.bool false)])).alloc (.cells [.v (.int .i64 g.fi)])).alloc (.cells [.sl (g.es.map Ent.av) .no])).n = s.n + 4 := by simp
  refine w_rangeS (m := g.es.length) (by simp) hit (by intro x hx; obtain ⟨p, _, rfl⟩ := List.mem_map.1 hx; rfl) (by simp) (fun k s' => IsJ s g k s')
    (fun j s' => j = .ret ∧ s'.get (s.n + 1) = .cells [.v (.bool false)] ∧ s.n + 6 ≤ s'.n ∧ Grows s s' ∧ isG g = false) ?_ ?_ ?_ ?_ ?_ ?_ ?_
  · intro LR
    exact ⟨dz0, dz0, dz0, dz0, by simp, ((((((Grows.refl _).alloc _).alloc _).alloc _).alloc _).alloc _).alloc _, fun x hx h => by omega⟩
  · intro k s' hI; exact hI.b3
  · rintro k s' o hn ⟨b0, b1, b2, b3, n, gr, dn⟩
    exact ⟨dz1 b0, dz1 b1, dz1 b2, by simp (disch := first | omega | (simp <;> omega) | fail) [b3], by simp; omega, gr.alloc _, dn⟩
  · rintro j s' o hn ⟨rfl, b1, n, gr, dn⟩
    exact ⟨rfl, dz1 b1, by simp; omega, gr.alloc _, dn⟩
  · intro LR LB LJ hLB hLR k hk s' hd hLL hln hI
    have hk' : k < g.es.length := by simpa using hk
    obtain ⟨b0, b1, b2, b3, n, gr, dn⟩ := hI
    simp only [hsn, List.getElem_map, List.zip_cons_cons, List.zip_nil_right, List.reverse_cons, List.reverse_nil, List.nil_append, List.cons_append] at hd hLL hln ⊢
    have bad : ¬ (okEnt g.es[k] = true ∧ g.es[k].ix = g.fi + (k : Int)) → isG g = false := fun h => by
      rw [Bool.eq_false_iff]; intro h'
      unfold isG at h'
      rw [Bool.and_eq_true, dlB_get] at h'
      exact h (h'.1 k hk')
    have hdn : okEnt g.es[k] = true ∧ g.es[k].ix = g.fi + (k : Int) → ∀ j (h : j < g.es.length), j < k + 1 → okEnt g.es[j] = true ∧ g.es[j].ix = g.fi + (j : Int) := fun h j hj hjk => by
      by_cases e : j = k
      · subst e; exact h
      · exact dn j hj (by omega)
    generalize hxe : g.es[k] = x at bad hdn ⊢
    have gJ := gr.n
    cases hok : okEnt x with
    | false =>
      have hb := bad (by rw [hok]; simp)
      refine st4c1 @ct_part_IsEntry b1 b2 hLL hok ?_
      refine fins_j (fun d hd' => by cases hd'; simp (disch := first | omega | (simp <;> omega) | fail) [hd]) (dz0) ⟨rfl, dz0, by simp; omega, ?_, hb⟩
      exact (((gr.set _ (by omega) (by omega)).set _ (by omega) (by simp; omega)).set _ (by omega) (by simp; omega)).alloc _
    | true =>
      have hxo := (okEnt_iff.1 hok).1
      by_cases he : x.ix = g.fi + (k : Int)
      · have hw : IntKind.wrap .i64 (g.fi + (k : Int) + 1) = g.fi + ((k + 1 : Nat) : Int) := by rw [wrap_i64 (by omega) (by omega)]; omega
        refine st6c1 @ct_part_IsEntry b1 b2 hLL hok he hw ?_
        refine fins_n (fun d hd' => by cases hd'; simp (disch := first | omega | (simp <;> omega) | fail) [hd]) (dz0) ⟨dz1 b0, dz1 b1, dz0, dz1 b3, by simp; omega, ?_, hdn ⟨hok, he⟩⟩
        exact (((gr.set _ (by omega) (by omega)).set _ (by omega) (by simp; omega)).set _ (by omega) (by simp; omega)).alloc _
      · have hb := bad (fun h => he h.2)
        refine st5c1 @ct_part_IsEntry b1 b2 hLL hok he ?_
        refine fins_j (fun d hd' => by cases hd'; simp (disch := first | omega | (simp <;> omega) | fail) [hd]) (dz0) ⟨rfl, dz0, by simp; omega, ?_, hb⟩
        exact (((gr.set _ (by omega) (by omega)).set _ (by omega) (by simp; omega)).set _ (by omega) (by simp; omega)).alloc _
  · rintro s' hd hln ⟨b0, b1, b2, b3, n, gr, dn⟩
    simp only [hsn] at hd hln ⊢
    have gJ := gr.n
    have hG : isG g = okHead g := by
      unfold isG
      rw [dlB_get.2 (fun j hj => dn j hj hj), Bool.true_and]
    refine st2c1 @ct_group_Head b0 b1 ?_
    have hD : Dfs s.n ((s'.set (s.n + 4 + 1) .dead).set (s.n + 1) (.cells [.v (.bool (okHead g))])) [s.n + 4] := Dfs.cons (.nil _ _) (by omega) (by simp (disch := first | omega | (simp <;> omega) | fail) [hd]) (by simp)
    refine ret_okD (fun x hx => (hD.1 x hx).2) hD.2 (by simp (disch := first | omega | (simp <;> omega) | fail) [killAll]; rfl) ⟨killAll_grows ((gr.set _ (by omega) (by omega)).set _ (by omega) (by simp; omega)) (Nat.le_refl _) hD, ?_⟩
    rw [hG]; simp [retVal]; exact .refl _
  · rintro j s' hd hln ⟨rfl, b1, n, gr, dn⟩
    simp only [hsn] at hd hln ⊢
    have gJ := gr.n
    repeat (first | simp -dsimp -implicitDefEqProofs (disch := first | omega | (simp <;> omega) | fail) [AJump.exitOf] | ((with_reducible first | apply m_1 | apply m_0); (focus ((conv => lhs; simp -dsimp -implicitDefEqProofs (disch := first | omega | (simp <;> omega) | fail) [AJump.exitOf]); done))) | ((with_reducible first | apply i_T | apply g_T); (focus (simp -dsimp -implicitDefEqProofs (disch := first | omega | (simp <;> omega) | fail) [AJump.exitOf]; done))) | ((with_reducible first | apply i_F | apply g_F); (focus (simp -dsimp -implicitDefEqProofs (disch := first | omega | (simp <;> omega) | fail) [AJump.exitOf]; done))))
    have hD : Dfs s.n (s'.set (s.n + 4 + 1) .dead) [s.n + 4] := Dfs.cons (.nil _ _) (by omega) (by simp (disch := first | omega | (simp <;> omega) | fail) [hd]) (by simp)
    refine ret_okD (fun x hx => (hD.1 x hx).2) hD.2 (by simp (disch := first | omega | (simp <;> omega) | fail) [killAll, b1]; rfl) ⟨killAll_grows (gr.set _ (by omega) (by omega)) (Nat.le_refl _) hD, ?_⟩
    rw [dn]; simp [retVal]; exact .refl _
theorem ofM_snoc {l : List Grp} {k : Nat} (h : k < l.length) : ofM (l.take (k + 1)) = ofS (ofM (l.take k)) l[k] := by
  have e : l.take (k + 1) = l.take k ++ [l[k]] := (List.take_append_getElem h).symm
  unfold ofM; rw [e, List.foldl_append]; rfl
theorem rn_many_Of {l : List Grp} {s : AState} {B : Nat} (hl : l.length ≤ 1000000) (hes : ∀ g ∈ l, g.es.length ≤ B) (hB : B ≤ 1000000) :
    Runs (compCode prog) prog F_many_Of [.sl (l.map Grp.av) .no] s (fun x s' => x = .p (s.n + 1) 0 ∧ (∀ x, x < s.n → s'.get x = s.get x) ∧ s.n + 2 ≤ s'.n ∧ ∃ A, ManyAt s' (s.n + 1) s.n A (ofM l)) := by
  refine runs_e h_many_Of (Nat.le_of_ble_eq_true rfl) ?_
  refine st0 ?_
  refine rn0 (rn_many_New) ?_
  rintro _ s1 ⟨rfl, rfl⟩
  refine st0 ?_
  refine gv (ct_slices_Values_Group (xs := l.map Grp.av)) ?_
  refine st0 ?_
  have hsn : ((((s.alloc (.map [])).alloc (.cells [.m s.n])).alloc (.cells [.p (s.n + 1) 0])).alloc (.cells [.sl (l.map Grp.av) .no])).n = s.n + 4 := by simp
  refine w_rangeS (m := l.length) (by simp) (it_slices_Values_Group l (s.n + 3) (by omega)) (by intro x hx; obtain ⟨p, _, rfl⟩ := List.mem_map.1 hx; rfl) (by simp) (fun k s' => OfI s l k s') (fun j s' => False) ?_ ?_ ?_ ?_ ?_ ?_ ?_
  · intro LR
    exact ⟨fun x hx => dz0, by simp, dz0, ⟨[], dz0, by simp (disch := first | omega | (simp <;> omega) | fail) [encM], Rep.nil⟩, dz0⟩
  · intro k s' h; exact h.b
  · rintro k s' o hn ⟨old, n, c, ⟨A, m⟩, b⟩
    exact ⟨fun x hx => dz1 (old x hx), by simp; omega, dz1 c, ⟨A, m.keep fun x hx => by rcases hx with rfl | rfl <;> simp (disch := first | omega | (simp <;> omega) | fail)⟩, dz1 b⟩
  · intro j s' o hn h; exact h.elim
  · intro LR LB LJ hLB hLR k hk s' hd hLL hln hI
    have hk' : k < l.length := by simpa using hk
    obtain ⟨old, n, c, ⟨A, m⟩, b⟩ := hI
    simp only [hsn, List.getElem_map, List.zip_cons_cons, List.zip_nil_right, List.reverse_cons, List.reverse_nil, List.nil_append, List.cons_append] at hd hLL hln ⊢
    have hbl := hes _ (List.getElem_mem hk')
    have hsnoc := ofM_snoc hk'
    generalize ofM (l.take k) = M at m hsnoc
    generalize l[k] = g at hbl hsnoc ⊢
    obtain ⟨m1, m2, m3⟩ := m
    have fin : ∀ s' A', (∀ x, x < s.n → s'.get x = s.get x) → s.n + 6 ≤ s'.n → s'.get (s.n + 2) = .cells [.p (s.n + 1) 0] → s'.get (s.n + 3) = .cells [.sl (l.map Grp.av) .no] → s'.get (s.n + 1) = .cells [.m s.n] → s'.get s.n = .map (encM Grp.av A') → Rep A' (ofS M g) → OfI s l (k + 1) s' :=
      fun s' A' k1 k2 k3 k4 k5 k6 k7 => ⟨k1, k2, k3, ⟨A', by rw [hsnoc]; exact ⟨k5, k6, k7⟩⟩, k4⟩
    refine sd3 hLL c m1 ?_
    refine q_look (κ := Int) (A := A) (enc := Grp.av) (k := g.id) (b := s.n) (by simp) (dz1 m2) (by simp; rfl) ?_
    unfold lkV
    rw [m3.lk]
    have hlk := m3.lk g.id
    cases hk : lk M g.id with
    | some y =>
      have ho : ofS M g = M := by unfold ofS; rw [if_pos (.inl (by rw [hk]; rfl))]
      rw [ho] at fin
      refine sd3 hLL c m1 ?_
      refine ⟨.of_ext (AState.ext_alloc _ _), ?_⟩
      refine sd3 hLL c m1 ?_
      refine fins_n (fun d hd' => by cases hd'; simp (disch := first | omega | (simp <;> omega) | fail) [hd]) (dz0) (fin _ A (fun x hx => dz1 (old x hx)) (by simp; omega) (dz1 c) (dz1 b) (dz1 m1) (dz1 m2) m3)
    | none =>
      refine sd3 hLL c m1 ?_
      refine ⟨.of_ext (AState.ext_alloc _ _), ?_⟩
      refine sd3 hLL c m1 ?_
      refine gv (ct_group_IsG (g := g) (by omega)) ?_
      cases hg : isG g with
      | false =>
        have ho : ofS M g = M := by unfold ofS; rw [if_pos (.inr hg)]
        rw [ho] at fin
        refine sd4 hg hLL c m1 ?_
        refine fins_n (fun d hd' => by cases hd'; simp (disch := first | omega | (simp <;> omega) | fail) [hd]) (dz0) (fin _ A (fun x hx => dz1 (old x hx)) (by simp; omega) (dz1 c) (dz1 b) (dz1 m1) (dz1 m2) m3)
      | true =>
        have ho : ofS M g = putL M g.id g := by unfold ofS; rw [if_neg (by rw [hk, hg]; simp)]
        rw [ho] at fin
        refine sd4 hg hLL c m1 ?_
        refine gv (ct_many_copied (g := g) (by omega)) ?_
        refine sd4 hg hLL c m1 ?_
        refine q_mset (κ := Int) (A := A) (k := g.id) (v := g) (b := s.n) (enc := Grp.av) (by simp) (dz1 m2) (by simp; rfl) (by simp) ?_
        refine sd1 hLL ?_
        refine fins_n (fun d hd' => by cases hd'; simp (disch := first | omega | (simp <;> omega) | fail) [hd]) (dz0) (fin _ (setM A g.id g) (fun x hx => dz1 (old x hx)) (by simp; omega) (dz1 c) (dz1 b) (dz1 m1) (dz0) (m3.set _ _))
  · rintro s' hd hln ⟨old, n, c, ⟨A, m⟩, b⟩
    simp only [hsn] at hd hln ⊢
    rw [List.take_length] at m
    refine st1 c ?_
    refine ret_okD (by simp (disch := first | omega | (simp <;> omega) | fail) [hd]) (by simp) rfl ⟨by simp [retVal], fun x hx => by simp (disch := first | omega | (simp <;> omega) | fail) [killAll, old x hx], by simp [killAll]; omega, A, m.keep fun x hx => by rcases hx with rfl | rfl <;> simp (disch := first | omega | (simp <;> omega) | fail) [killAll]⟩
  · intro j s' _ _ h; exact h.elim
end Go.Proofs.Ytmfhchaoijiodaa
end
section
namespace Go.Ab
set_option linter.unusedVariables false
def appP (g i : Int) (d : ByteArray) : Prt := ⟨g, 1, [⟨i, 3, d⟩], 0, 0, 0, 0, 0, false, false⟩
def desP (g : Int) : Prt := ⟨g, 5, [], 0, 0, 0, 0, 0, false, false⟩
def kL1 : List Prt := [appP 5 1 ⟨#[97]⟩, appP 2 1 ⟨#[98]⟩]
def kL3 : List Prt := [appP 5 2 ⟨#[99]⟩, appP 5 9 ⟨#[100]⟩]
def kL5 : List Prt := [⟨5, 4, [], 0, 0, 0, 1, 3, false, false⟩]
def kM : List (Int × Grp) := [(2, ⟨2, 1, 0, 0, 0, 0, [⟨1, 3, ⟨#[98]⟩⟩]⟩), (5, ⟨5, 1, 0, 0, 0, 0, [⟨1, 3, ⟨#[97]⟩⟩]⟩)]
theorem k1 : triedE [] kL1 = 0 ∧ doM [] kL1 = kM := by decide +kernel
theorem k2 : triedE kM [desP 9] = 13 ∧ doM kM [desP 9] = kM := by decide +kernel
theorem k3 : triedE kM kL3 = 14 ∧ doM kM kL3 = kM := by decide +kernel
theorem k4 : triedE kM [] = 11 ∧ doM kM [] = kM := by decide +kernel
theorem k5 : lk kM 5 = some ⟨5, 1, 0, 0, 0, 0, [⟨1, 3, ⟨#[97]⟩⟩]⟩ ∧ lk kM 9 = none := by decide +kernel
theorem k6 : outL kM kL5 = [⟨5, 3, [], 0, 0, 0, 1, 3, false, false⟩] := by decide +kernel
theorem k7 : triedE kM [desP 2] = 0 ∧ decide (doM kM [desP 2] = kM) = false := by decide +kernel
theorem k8 : triedE kM [appP 2 2 ⟨#[120]⟩] = 0 := by decide +kernel
theorem k9 : ofM (grpsM kM) = kM := by decide +kernel
def kG2 : Grp := ⟨2, 1, 0, 0, 0, 0, [⟨1, 3, ⟨#[98]⟩⟩]⟩
def kG5 : Grp := ⟨5, 1, 0, 0, 0, 0, [⟨1, 3, ⟨#[97]⟩⟩]⟩
theorem kg : grpsM kM = [kG2, kG5] := rfl
theorem kOk : ManyOk 24 kM := by have := (ManyOk.nil 0).doM kL1; rwa [k1.2] at this
end Go.Ab
namespace Go.Proofs.Ytmfhchaoijiodaa
open Go.Ab
set_option linter.unusedVariables false
set_option linter.unusedSimpArgs false
set_option maxRecDepth 100000
set_option maxHeartbeats 1000000
section
variable {P : Program} {g : FuncId} {args : List AV} {s : AState} {R K : AV → AState → Prop}
theorem runT (h : Runs (compCode P) P g (args.map AV.strip) s R) (k : ∀ x s', R x s' → K x s') : Lruns (compCode P) P g args s K .a := run (Runs.strip h) rfl k
theorem runU {args' : List AV} (h : Runs (compCode P) P g args' s R) (ha : args.map AV.strip = args') (k : ∀ x s', R x s' → K x s') : Lruns (compCode P) P g args s K .a := runT (ha ▸ h) k
end
theorem ct_ladelaw7_app {g i : Int} {d : ByteArray} {s : AState} : Gives prog F_ladelaw7_app [.v (.int .i64 g), .v (.int .i64 i), .v (.string d)] s (appP g i d).av s := by
  refine Runs.gives' (runs_e h_ladelaw7_app (Nat.le_of_ble_eq_true rfl) ?_) (Prt.row _).flat
  refine st0 ?_
  refine ret_ok (by simp; rfl) ⟨(Grows.refl _).alloc _, ?_⟩
  simp [retVal]
  exact AV.le_strip _
structure MkI (s : AState) (n : Nat) (b mb : Nat) (M : List (Int × Grp)) (s' : AState) : Prop where
  old : ∀ x, x < s.n → s'.get x = s.get x
  n : s.n + n ≤ s'.n
  hb : s.n ≤ b
  hm : s.n ≤ mb
  m : ∃ A, ManyAt s' b mb A M
theorem MkI.alloc {s : AState} {n b mb : Nat} {M : List (Int × Grp)} {s' : AState} (h : MkI s n b mb M s') (o : AObj) : MkI s n b mb M (s'.alloc o) := by
  obtain ⟨old, n, hb, hm, A, m⟩ := h
  obtain ⟨l1, l2, l3⟩ := m.lt
  exact ⟨fun x hx => dz1 (old x hx), by simp; omega, hb, hm, A, m.keep fun x hx => by rcases hx with rfl | rfl <;> simp (disch := first | omega | (simp <;> omega) | fail)⟩
theorem MkI.doR {s : AState} {n b mb : Nat} {M : List (Int × Grp)} {s' : AState} (h : MkI s n b mb M s') {B : Nat} (hM : ManyOk B M) {l : List Prt} (hB : B + 6 * l.length ≤ 1000000) (hl : l.length ≤ 1000) (hes : ∀ p ∈ l, p.es.length ≤ 1000000) :
    Runs (compCode prog) prog F_many_Many_Do [.p b 0, .sl (l.map Prt.av) .no] s' (fun x s'' => x = .v (.int .i64 (triedE M l)) ∧ ∃ mb', MkI s n b mb' (doM M l) s'' ∧ (∀ x, x < s'.n → x ≠ b → s''.get x = s'.get x) ∧ s'.n ≤ s''.n ∧ (mb' = mb ∨ s'.n ≤ mb')) := by
  obtain ⟨old, n1, hb, hm, A, m⟩ := h
  refine (rn_many_Many_Do m hM hB hl hes).mono ?_
  rintro x s'' ⟨rfl, k1, k2, mb', A', k3, k4⟩
  exact ⟨rfl, mb', ⟨fun x hx => (k1 x (by omega) (by omega)).trans (old x hx), by omega, hb, by omega, A', k4⟩, k1, k2, k3⟩
theorem MkI.newR {s : AState} : Runs (compCode prog) prog F_many_New [] s (fun x s' => x = .p (s.n + 1) 0 ∧ MkI s 2 (s.n + 1) s.n [] s') :=
  rn_many_New.mono fun x s' ⟨h1, h2⟩ => ⟨h1, by subst h2; exact ⟨fun x hx => dz0, by simp, by omega, Nat.le_refl _, [], dz0, by simp (disch := first | omega | (simp <;> omega) | fail) [encM], Rep.nil⟩⟩
section
variable {s s' s'' : AState} {n b mb c B : Nat} {M : List (Int × Grp)}
theorem MkI.lt (h : MkI s n b mb M s') : b < s'.n ∧ mb < s'.n ∧ b ≠ mb := by obtain ⟨A, m⟩ := h.m; exact m.lt
theorem MkI.keep (h : MkI s n b mb M s') (k : ∀ x, x < s'.n → x ≠ c → s''.get x = s'.get x) (hn : s'.n ≤ s''.n) (h1 : b ≠ c) (h2 : mb ≠ c) (hc : s.n ≤ c) : MkI s n b mb M s'' := by
  obtain ⟨l1, l2, l3⟩ := h.lt
  obtain ⟨old, n, hb, hm, A, m⟩ := h
  exact ⟨fun x hx => (k x (by omega) (by omega)).trans (old x hx), by omega, hb, hm, A, m.keep fun x hx => by rcases hx with rfl | rfl <;> exact k _ (by omega) (by omega)⟩
theorem MkI.getR {i : Int} (h : MkI s n b mb M s') (hM : ManyOk B M) (hB : B ≤ 1000000) : Gives prog F_many_Many_Get [.p b 0, .v (.int .i64 i)] s' (.tup [((lk M i).getD zeroG').av, .v (.bool (lk M i).isSome)]) s' := by
  obtain ⟨A, m⟩ := h.m; exact ct_many_Many_Get m hM hB
theorem MkI.allR (h : MkI s n b mb M s') (hM : ManyOk B M) (hB : B ≤ 1000000) : Gives prog F_many_Many_All [.p b 0] s' (.sl ((grpsM M).map Grp.av) .no) s' := by
  obtain ⟨A, m⟩ := h.m; exact ct_many_Many_All m hM hB
theorem MkI.settleR {l : List Prt} (h : MkI s n b mb M s') (hM : ManyOk B M) (hB : B + 6 * l.length ≤ 1000000) (hl : l.length ≤ 1000) (hes : ∀ p ∈ l, p.es.length ≤ 1000000) :
    Gives prog F_many_Many_Settle [.p b 0, .sl (l.map Prt.av) .no] s' (.sl ((outL M l).map Prt.av) .no) s' := by
  obtain ⟨A, m⟩ := h.m; exact ct_many_Many_Settle m hM hB hl hes
theorem MkI.checkR {l : List Prt} (h : MkI s n b mb M s') (hM : ManyOk B M) (hB : B + 6 * l.length ≤ 1000000) (hl : l.length ≤ 1000) (hes : ∀ p ∈ l, p.es.length ≤ 1000000) :
    Gives prog F_many_Many_Check [.p b 0, .sl (l.map Prt.av) .no] s' (.v (.int .i64 (triedE M l))) s' := by
  obtain ⟨A, m⟩ := h.m; exact ct_many_Many_Check m hM hB hl hes
theorem MkI.copyR (h : MkI s n b mb M s') : Runs (compCode prog) prog F_many_Many_Copy [.p b 0] s' (fun x s'' => x = .p (s'.n + 1) 0 ∧ MkI s n b mb M s'' ∧ MkI s n (s'.n + 1) s'.n M s'' ∧ (∀ x, x < s'.n → s''.get x = s'.get x) ∧ s''.n = s'.n + 2) := by
  have h0 := h
  obtain ⟨old, n1, hb, hm, A, m⟩ := h
  refine (rn_many_Many_Copy m).mono ?_
  rintro _ s2 ⟨rfl, rfl⟩
  exact ⟨rfl, (h0.alloc _).alloc _, ⟨fun x hx => dz1 (old x hx), by simp; omega, by omega, by omega, A, dz0, dz0, m.r⟩, fun x hx => dz0, by simp⟩
theorem MkI.sameR {b2 mb2 : Nat} {M2 : List (Int × Grp)} (h : MkI s n b mb M s') (h2 : MkI s n b2 mb2 M2 s') (hne : mb ≠ mb2) (hM : ManyOk B M) (hB : B ≤ 1000000) : Gives prog F_many_Same [.p b 0, .p b2 0] s' (.v (.bool (decide (M = M2)))) s' := by
  obtain ⟨A, m⟩ := h.m; obtain ⟨A2, m2⟩ := h2.m; exact ct_many_Same m m2 hne hM hB
end
theorem ct_ladelaw7_known {s : AState} : Gives prog F_ladelaw7_known [] s (.v (.bool true)) s := by
  refine Runs.gives (runs_e h_ladelaw7_known (Nat.le_of_ble_eq_true rfl) ?_) (.v _)
  refine st0 ?_
  refine rn0 (MkI.newR) ?_
  rintro _ s1 ⟨rfl, i1⟩
  refine st0 ?_
  refine gv (ct_ladelaw7_app (g := 5) (i := 1) (d := ⟨#[97]⟩)) ?_
  refine st0 ?_
  refine gv (ct_ladelaw7_app (g := 2) (i := 1) (d := ⟨#[98]⟩)) ?_
  refine st0 ?_
  refine runT (i1.doR (ManyOk.nil 0) (l := kL1) (by decide) (by decide) (by decide)) ?_
  rw [k1.1, k1.2]
  rintro _ s2 ⟨rfl, mb2, i2, -, -, -⟩
  refine st0 ?_
  refine runT (i2.doR kOk (l := [desP 9]) (by decide) (by decide) (by decide)) ?_
  rw [k2.1, k2.2]
  rintro _ s3 ⟨rfl, mb3, i3, -, -, -⟩
  refine st0 ?_
  refine gv (ct_ladelaw7_app (g := 5) (i := 2) (d := ⟨#[99]⟩)) ?_
  refine st0 ?_
  refine gv (ct_ladelaw7_app (g := 5) (i := 9) (d := ⟨#[100]⟩)) ?_
  refine st0 ?_
  refine runT (i3.doR kOk (l := kL3) (by decide) (by decide) (by decide)) ?_
  rw [k3.1, k3.2]
  rintro _ s4 ⟨rfl, mb4, i4, -, -, -⟩
  refine st0 ?_
  refine runT (i4.doR kOk (l := []) (by decide) (by decide) (by decide)) ?_
  rw [k4.1, k4.2]
  rintro _ s5 ⟨rfl, mb5, i5, -, -, -⟩
  refine st0 ?_
  refine gv (MkI.getR (i := 5) i5 kOk (by omega)) ?_
  rw [k5.1]
  refine st0 ?_
  refine gv (MkI.getR (i := 9) (i5.alloc _) kOk (by omega)) ?_
  rw [k5.2]
  refine st0 ?_
  refine gv (MkI.allR ((i5.alloc _).alloc _) kOk (by omega)) ?_
  rw [kg]
  have kid : kG2.id = 2 := rfl
  refine st0 ?_
  refine giv (MkI.settleR (l := kL5) ((i5.alloc _).alloc _) kOk (by decide) (by decide) (by decide)) (by simp [kL5]; rfl) ?_
  rw [k6]
  refine st0 ?_
  refine run (MkI.copyR ((i5.alloc _).alloc _)) (by simp) ?_
  rintro _ s6 ⟨rfl, i6, j6, q6, n6⟩
  have c1 : s6.get s5.n = .cells (Grp.cells ⟨5, 1, 0, 0, 0, 0, [⟨1, 3, ⟨#[97]⟩⟩]⟩) := (q6 _ (by simp <;> omega)).trans (by simp (disch := first | omega | (simp <;> omega) | fail) [Grp.cells, Ent.av, Ent.cells])
  simp at n6
  have b6 := i6.lt
  refine st0 ?_
  have ln5 := i5.n
  have lt5 := i5.lt
  refine runT (j6.doR kOk (l := [desP 2]) (by decide) (by decide) (by decide)) ?_
  rw [k7.1]
  rintro _ s7 ⟨rfl, mb7, j7, q7, n7, o7⟩
  simp at q7 n7 o7
  have i7 : MkI s 2 (s.n + 1) mb5 kM s7 := i6.keep (c := s5.n + 1 + 1 + 1) q7 n7 (by omega) (by omega) (by omega)
  have c2 : s7.get s5.n = .cells (Grp.cells ⟨5, 1, 0, 0, 0, 0, [⟨1, 3, ⟨#[97]⟩⟩]⟩) := (q7 _ (by omega) (by omega)).trans c1
  unfold Grp.cells at c2
  refine st2 c2 kid ?_
  have k72 : (doM kM [desP 2] = kM) ↔ False := by have := k7.2; simpa using this
  refine giv (MkI.sameR j7 i7 (by omega) (kOk.doM _) (by omega)) (by simp) ?_
  rw [k7.2]
  refine st0 ?_
  refine run (MkI.copyR i7) (by simp) ?_
  rintro _ s8 ⟨rfl, i8, j8, q8, n8⟩
  refine st0 ?_
  have lt7 := i7.lt
  refine giv (MkI.sameR i8 j8 (by omega) kOk (by omega)) (by simp) ?_
  rw [decide_eq_true rfl]
  refine st0 ?_
  refine gv (ct_ladelaw7_app (g := 2) (i := 2) (d := ⟨#[120]⟩)) ?_
  refine st0 ?_
  refine giv (MkI.checkR (l := [appP 2 2 ⟨#[120]⟩]) i8 kOk (by decide) (by decide) (by decide)) (by simp) ?_
  rw [k8]
  refine st0 ?_
  refine runT ((rn_many_Of (l := [kG2, kG5]) (B := 24) (s := s8) (by decide) (by decide) (by omega)).mono (fun x s' h => h)) ?_
  rintro _ s9 ⟨rfl, q9, n9, A9, m9⟩
  rw [show ofM [kG2, kG5] = kM from k9] at m9
  refine st0 ?_
  refine gv (ct_many_Many_All m9 kOk (by omega)) ?_
  rw [kg]
  refine st0 ?_
  refine ret_ok rfl ⟨⟨by have := i8.n; omega, fun x hx => .inl ?_⟩, .refl _⟩
  rw [q9 x (by have := i8.n; omega), i8.old x hx]
end Go.Proofs.Ytmfhchaoijiodaa
end
section
namespace Go.Ab
set_option linter.unusedVariables false
def limL (k : Nat) : List Prt := (List.range k).map fun i : Nat => appP i 1 ⟨#[120]⟩
theorem limL_snoc (k : Nat) : limL (k + 1) = limL k ++ [appP k 1 ⟨#[120]⟩] := by unfold limL; rw [List.range_succ, List.map_append]; rfl
theorem limL_len (k : Nat) : (limL k).length = k := by simp [limL]
theorem lim_a : ∀ k, k < 7 → triedE [] (limL k) = (if k = 0 ∨ 4 < k then 11 else 0) ∧ (¬ (k = 0 ∨ 4 < k) → (grpsM (doM [] (limL k))).length = k) := by decide +kernel
theorem lim_b : ∀ m, m < 256 → triedE [] [⟨(m : Nat), 3, [], 0, 0, 0, 1, 0, false, false⟩] = 13 ∧ triedE [] [⟨(m : Nat), 6, [], 0, 0, 0, 0, 0, false, true⟩] = 11 ∧ triedE [] [⟨(m : Nat), 5, [], 0, 0, 0, 0, 0, false, false⟩] = 13 ∧ triedE [] [⟨(m : Nat), 9, [], 0, 0, 0, 0, 0, false, false⟩] = 11 := by decide +kernel
theorem rem_u8 {n m : Int} (hn : 0 ≤ n) (hm : 0 < m) : 0 ≤ n.tmod m ∧ n.tmod m < m := ⟨Int.tmod_nonneg _ hn, Int.tmod_lt_of_pos _ hm⟩
end Go.Ab
namespace Go.Proofs.Ytmfhchaoijiodaa
open Go.Ab
set_option linter.unusedVariables false
set_option linter.unusedSimpArgs false
set_option maxRecDepth 100000
set_option maxHeartbeats 1000000
theorem MkI.ext {s s' s'' : AState} {n b mb : Nat} {M : List (Int × Grp)} (h : MkI s n b mb M s') (he : s'.ext s'') (hlo : ∀ x, x < s.n → s''.get x = s'.get x) : MkI s n b mb M s'' := by
  obtain ⟨old, n, hb, hm, A, m⟩ := h
  have hn := he.1
  exact ⟨fun x hx => (hlo x hx).trans (old x hx), by omega, hb, hm, A, ⟨(he.2 b (by rw [m.b]; simp) (by rw [m.b]; simp)).trans m.b, (he.2 mb (by rw [m.m]; simp) (by rw [m.m]; simp)).trans m.m, m.r⟩⟩
theorem ct_ladelaw7_ManyLimits {n u : Int} {s : AState} (hn : 0 ≤ n ∧ n < 256) (hu : 0 ≤ u ∧ u < 256) : Gives prog F_ladelaw7_ManyLimits [.v (.int .u8 n), .v (.int .u8 u)] s (.v (.bool true)) s := by
  refine Runs.gives (runs_e h_ladelaw7_ManyLimits (Nat.le_of_ble_eq_true rfl) ?_) (.v _)
  obtain ⟨m, rfl⟩ : ∃ m : Nat, u = m := ⟨u.toNat, by omega⟩
  have hr := rem_u8 hn.1 (show (0 : Int) < 7 by omega)
  obtain ⟨k, hk⟩ : ∃ k : Nat, (k : Int) = n.tmod 7 := ⟨(n.tmod 7).toNat, by omega⟩
  have hw : IntKind.wrap .i64 (n.tmod 7) = k := by rw [wrap_i64 (by omega) (by omega), hk]
  have hwm : IntKind.wrap .i64 (m : Int) = m := wrap_i64 (by omega) (by omega)
  obtain ⟨a1, a2⟩ := lim_a k (by omega)
  obtain ⟨b1, b2, b3, b4⟩ := lim_b m (by omega)
  repeat (first | simp -dsimp -implicitDefEqProofs (disch := first | omega | (simp <;> omega) | fail) | ((with_reducible first | apply m_1 | apply m_0); (focus ((conv => lhs; simp -dsimp -implicitDefEqProofs (disch := first | omega | (simp <;> omega) | fail)); done))) | ((with_reducible first | apply i_T | apply g_T); (focus (simp -dsimp -implicitDefEqProofs (disch := first | omega | (simp <;> omega) | fail); done))) | ((with_reducible first | apply i_F | apply g_F); (focus (simp -dsimp -implicitDefEqProofs (disch := first | omega | (simp <;> omega) | fail); done))))
  refine giv (ct_ladelaw7_known) (by first | (simp; done) | rfl | (simp; rfl)) ?_
  repeat (first | simp -dsimp -implicitDefEqProofs (disch := first | omega | (simp <;> omega) | fail) | ((with_reducible first | apply m_1 | apply m_0); (focus ((conv => lhs; simp -dsimp -implicitDefEqProofs (disch := first | omega | (simp <;> omega) | fail)); done))) | ((with_reducible first | apply i_T | apply g_T); (focus (simp -dsimp -implicitDefEqProofs (disch := first | omega | (simp <;> omega) | fail); done))) | ((with_reducible first | apply i_F | apply g_F); (focus (simp -dsimp -implicitDefEqProofs (disch := first | omega | (simp <;> omega) | fail); done))))
  refine run (MkI.newR) (by first | (simp; done) | rfl | (simp; rfl)) ?_
  rintro _ s1 ⟨rfl, i1⟩
  repeat (first | simp -dsimp -implicitDefEqProofs (disch := first | omega | (simp <;> omega) | fail) [hw] | ((with_reducible first | apply m_1 | apply m_0); (focus ((conv => lhs; simp -dsimp -implicitDefEqProofs (disch := first | omega | (simp <;> omega) | fail) [hw]); done))) | ((with_reducible first | apply i_T | apply g_T); (focus (simp -dsimp -implicitDefEqProofs (disch := first | omega | (simp <;> omega) | fail) [hw]; done))) | ((with_reducible first | apply i_F | apply g_F); (focus (simp -dsimp -implicitDefEqProofs (disch := first | omega | (simp <;> omega) | fail) [hw]; done))))
  have n1 := i1.n
  refine loop_ok [1, 5, 6, 7, 8] (fun r a s2 => ∃ (j : Nat) (tk : Tok), j + r = k ∧ MkI s 2 (s.n + 1) s.n [] s2 ∧ May s.n s2 ((limL j).map Prt.av) tk ∧
    a = { t := den 103 [(1, .v (.int .u8 m)), (5, .p (s.n + 1) 0), (6, .sl ((limL j).map Prt.av) tk), (7, .v (.int .i64 k)), (8, .v (.int .i64 j))], d := [] }) k ?_ ?_
  · exact ⟨0, .zero, by simp, i1, trivial, by simp [limL]⟩
  rintro r a s2 ⟨j, tk, hjr, i2, may, rfl⟩
  have n2 := i2.n
  by_cases hlt : j < k
  · have w3 : IntKind.wrap .i64 ((j : Int) + 1) = (j : Int) + 1 := wrap_i64 (by omega) (by omega)
    repeat (first | simp -dsimp -implicitDefEqProofs (disch := first | omega | (simp <;> omega) | fail) [hlt] | ((with_reducible first | apply m_1 | apply m_0); (focus ((conv => lhs; simp -dsimp -implicitDefEqProofs (disch := first | omega | (simp <;> omega) | fail) [hlt]); done))) | ((with_reducible first | apply i_T | apply g_T); (focus (simp -dsimp -implicitDefEqProofs (disch := first | omega | (simp <;> omega) | fail) [hlt]; done))) | ((with_reducible first | apply i_F | apply g_F); (focus (simp -dsimp -implicitDefEqProofs (disch := first | omega | (simp <;> omega) | fail) [hlt]; done))))
    refine giv (ct_ladelaw7_app (g := (j : Int)) (i := 1) (d := ⟨#[120]⟩)) (by first | (simp; done) | rfl | (simp; rfl)) ?_
    repeat (first | simp -dsimp -implicitDefEqProofs (disch := first | omega | (simp <;> omega) | fail) | ((with_reducible first | apply m_1 | apply m_0); (focus ((conv => lhs; simp -dsimp -implicitDefEqProofs (disch := first | omega | (simp <;> omega) | fail)); done))) | ((with_reducible first | apply i_T | apply g_T); (focus (simp -dsimp -implicitDefEqProofs (disch := first | omega | (simp <;> omega) | fail); done))) | ((with_reducible first | apply i_F | apply g_F); (focus (simp -dsimp -implicitDefEqProofs (disch := first | omega | (simp <;> omega) | fail); done))))
    refine m_appS (xs := (limL j).map Prt.av) (tk := tk) (ys := [(appP j 1 ⟨#[120]⟩).av]) (t2 := .zero) (N := s.n) (by simp) (by simp) (by omega) may (head_map Prt.row _) (by simp) (by simp [limL_len]; omega) (by simp [limL_len]; omega) ?_
    intro s3 tk2 hm2 hlow hext
    repeat (first | simp -dsimp -implicitDefEqProofs (disch := first | omega | (simp <;> omega) | fail) | ((with_reducible first | apply m_1 | apply m_0); (focus ((conv => lhs; simp -dsimp -implicitDefEqProofs (disch := first | omega | (simp <;> omega) | fail)); done))) | ((with_reducible first | apply i_T | apply g_T); (focus (simp -dsimp -implicitDefEqProofs (disch := first | omega | (simp <;> omega) | fail); done))) | ((with_reducible first | apply i_F | apply g_F); (focus (simp -dsimp -implicitDefEqProofs (disch := first | omega | (simp <;> omega) | fail); done))))
    refine ⟨r - 1, by omega, j + 1, tk2, by omega, i2.ext hext hlow, by rw [limL_snoc, List.map_append]; simpa using hm2, by rw [limL_snoc]; simp [w3]⟩
  · have hje : j = k := by omega
    subst hje
    have hl := limL_len j
    have ok0 := ManyOk.nil 0
    have hes : ∀ p ∈ limL j, p.es.length ≤ 1000000 := fun p hp => by obtain ⟨i, _, rfl⟩ := List.mem_map.1 hp; exact (by decide : 1 ≤ 1000000)
    have hj0 : ((j : Int) = 0 ∨ (4 : Int) < j) ↔ (j = 0 ∨ 4 < j) := by omega
    have e1 : ∀ q : Prt, (∀ p ∈ [q], p.es.length ≤ 1000000) ↔ q.es.length ≤ 1000000 := fun q => by simp
    repeat (first | simp -dsimp -implicitDefEqProofs (disch := first | omega | (simp <;> omega) | fail) [hlt] | ((with_reducible first | apply m_1 | apply m_0); (focus ((conv => lhs; simp -dsimp -implicitDefEqProofs (disch := first | omega | (simp <;> omega) | fail) [hlt]); done))) | ((with_reducible first | apply i_T | apply g_T); (focus (simp -dsimp -implicitDefEqProofs (disch := first | omega | (simp <;> omega) | fail) [hlt]; done))) | ((with_reducible first | apply i_F | apply g_F); (focus (simp -dsimp -implicitDefEqProofs (disch := first | omega | (simp <;> omega) | fail) [hlt]; done))))
    by_cases hc : j = 0 ∨ 4 < j
    · rw [if_pos hc] at a1
      by_cases h0 : j = 0
      · subst h0
        repeat (first | simp -dsimp -implicitDefEqProofs (disch := first | omega | (simp <;> omega) | fail) | ((with_reducible first | apply m_1 | apply m_0); (focus ((conv => lhs; simp -dsimp -implicitDefEqProofs (disch := first | omega | (simp <;> omega) | fail)); done))) | ((with_reducible first | apply i_T | apply g_T); (focus (simp -dsimp -implicitDefEqProofs (disch := first | omega | (simp <;> omega) | fail); done))) | ((with_reducible first | apply i_F | apply g_F); (focus (simp -dsimp -implicitDefEqProofs (disch := first | omega | (simp <;> omega) | fail); done))))
        refine giv (MkI.checkR (l := limL 0) i2 ok0 (by decide) (by decide) hes) (by simp) ?_
        rw [a1]
        repeat (first | simp -dsimp -implicitDefEqProofs (disch := first | omega | (simp <;> omega) | fail) [hwm] | ((with_reducible first | apply m_1 | apply m_0); (focus ((conv => lhs; simp -dsimp -implicitDefEqProofs (disch := first | omega | (simp <;> omega) | fail) [hwm]); done))) | ((with_reducible first | apply i_T | apply g_T); (focus (simp -dsimp -implicitDefEqProofs (disch := first | omega | (simp <;> omega) | fail) [hwm]; done))) | ((with_reducible first | apply i_F | apply g_F); (focus (simp -dsimp -implicitDefEqProofs (disch := first | omega | (simp <;> omega) | fail) [hwm]; done))))
        refine giv (MkI.checkR (l := [⟨(m : Nat), 3, [], 0, 0, 0, 1, 0, false, false⟩]) i2 ok0 (by simp) (by simp) (by simp)) (by simp; rfl) ?_
        rw [b1]
        repeat (first | simp -dsimp -implicitDefEqProofs (disch := first | omega | (simp <;> omega) | fail) [hwm] | ((with_reducible first | apply m_1 | apply m_0); (focus ((conv => lhs; simp -dsimp -implicitDefEqProofs (disch := first | omega | (simp <;> omega) | fail) [hwm]); done))) | ((with_reducible first | apply i_T | apply g_T); (focus (simp -dsimp -implicitDefEqProofs (disch := first | omega | (simp <;> omega) | fail) [hwm]; done))) | ((with_reducible first | apply i_F | apply g_F); (focus (simp -dsimp -implicitDefEqProofs (disch := first | omega | (simp <;> omega) | fail) [hwm]; done))))
        refine giv (MkI.checkR (l := [⟨(m : Nat), 6, [], 0, 0, 0, 0, 0, false, true⟩]) i2 ok0 (by simp) (by simp) (by simp)) (by simp; rfl) ?_
        rw [b2]
        repeat (first | simp -dsimp -implicitDefEqProofs (disch := first | omega | (simp <;> omega) | fail) [hwm] | ((with_reducible first | apply m_1 | apply m_0); (focus ((conv => lhs; simp -dsimp -implicitDefEqProofs (disch := first | omega | (simp <;> omega) | fail) [hwm]); done))) | ((with_reducible first | apply i_T | apply g_T); (focus (simp -dsimp -implicitDefEqProofs (disch := first | omega | (simp <;> omega) | fail) [hwm]; done))) | ((with_reducible first | apply i_F | apply g_F); (focus (simp -dsimp -implicitDefEqProofs (disch := first | omega | (simp <;> omega) | fail) [hwm]; done))))
        refine giv (MkI.checkR (l := [⟨(m : Nat), 5, [], 0, 0, 0, 0, 0, false, false⟩]) i2 ok0 (by simp) (by simp) (by simp)) (by simp; rfl) ?_
        rw [b3]
        repeat (first | simp -dsimp -implicitDefEqProofs (disch := first | omega | (simp <;> omega) | fail) [hwm] | ((with_reducible first | apply m_1 | apply m_0); (focus ((conv => lhs; simp -dsimp -implicitDefEqProofs (disch := first | omega | (simp <;> omega) | fail) [hwm]); done))) | ((with_reducible first | apply i_T | apply g_T); (focus (simp -dsimp -implicitDefEqProofs (disch := first | omega | (simp <;> omega) | fail) [hwm]; done))) | ((with_reducible first | apply i_F | apply g_F); (focus (simp -dsimp -implicitDefEqProofs (disch := first | omega | (simp <;> omega) | fail) [hwm]; done))))
        refine giv (MkI.checkR (l := [⟨(m : Nat), 9, [], 0, 0, 0, 0, 0, false, false⟩]) i2 ok0 (by simp) (by simp) (by simp)) (by simp; rfl) ?_
        rw [b4]
        repeat (first | simp -dsimp -implicitDefEqProofs (disch := first | omega | (simp <;> omega) | fail) | ((with_reducible first | apply m_1 | apply m_0); (focus ((conv => lhs; simp -dsimp -implicitDefEqProofs (disch := first | omega | (simp <;> omega) | fail)); done))) | ((with_reducible first | apply i_T | apply g_T); (focus (simp -dsimp -implicitDefEqProofs (disch := first | omega | (simp <;> omega) | fail); done))) | ((with_reducible first | apply i_F | apply g_F); (focus (simp -dsimp -implicitDefEqProofs (disch := first | omega | (simp <;> omega) | fail); done))))
        refine runT (R := _) (by simpa using i2.doR ok0 (l := limL 0) (by omega) (by omega) hes) ?_
        rw [a1]
        rintro _ s4 ⟨rfl, mb4, i4, -, -, -⟩
        repeat (first | simp -dsimp -implicitDefEqProofs (disch := first | omega | (simp <;> omega) | fail) | ((with_reducible first | apply m_1 | apply m_0); (focus ((conv => lhs; simp -dsimp -implicitDefEqProofs (disch := first | omega | (simp <;> omega) | fail)); done))) | ((with_reducible first | apply i_T | apply g_T); (focus (simp -dsimp -implicitDefEqProofs (disch := first | omega | (simp <;> omega) | fail); done))) | ((with_reducible first | apply i_F | apply g_F); (focus (simp -dsimp -implicitDefEqProofs (disch := first | omega | (simp <;> omega) | fail); done))))
        refine ret_ok rfl ⟨⟨by have := i4.n; omega, fun x hx => .inl (i4.old x hx).symm⟩, .refl _⟩
      · have h4 : (4 : Int) < j := by omega
        repeat (first | simp -dsimp -implicitDefEqProofs (disch := first | omega | (simp <;> omega) | fail) [h0, h4] | ((with_reducible first | apply m_1 | apply m_0); (focus ((conv => lhs; simp -dsimp -implicitDefEqProofs (disch := first | omega | (simp <;> omega) | fail) [h0, h4]); done))) | ((with_reducible first | apply i_T | apply g_T); (focus (simp -dsimp -implicitDefEqProofs (disch := first | omega | (simp <;> omega) | fail) [h0, h4]; done))) | ((with_reducible first | apply i_F | apply g_F); (focus (simp -dsimp -implicitDefEqProofs (disch := first | omega | (simp <;> omega) | fail) [h0, h4]; done))))
        refine giv (MkI.checkR (l := limL j) i2 ok0 (by omega) (by omega) hes) (by simp) ?_
        rw [a1]
        repeat (first | simp -dsimp -implicitDefEqProofs (disch := first | omega | (simp <;> omega) | fail) [hwm] | ((with_reducible first | apply m_1 | apply m_0); (focus ((conv => lhs; simp -dsimp -implicitDefEqProofs (disch := first | omega | (simp <;> omega) | fail) [hwm]); done))) | ((with_reducible first | apply i_T | apply g_T); (focus (simp -dsimp -implicitDefEqProofs (disch := first | omega | (simp <;> omega) | fail) [hwm]; done))) | ((with_reducible first | apply i_F | apply g_F); (focus (simp -dsimp -implicitDefEqProofs (disch := first | omega | (simp <;> omega) | fail) [hwm]; done))))
        refine giv (MkI.checkR (l := [⟨(m : Nat), 3, [], 0, 0, 0, 1, 0, false, false⟩]) i2 ok0 (by simp) (by simp) (by simp)) (by simp; rfl) ?_
        rw [b1]
        refine st1 hwm ?_
        refine giv (MkI.checkR (l := [⟨(m : Nat), 6, [], 0, 0, 0, 0, 0, false, true⟩]) i2 ok0 (by simp) (by simp) (by simp)) (by simp; rfl) ?_
        rw [b2]
        refine st1 hwm ?_
        refine giv (MkI.checkR (l := [⟨(m : Nat), 5, [], 0, 0, 0, 0, 0, false, false⟩]) i2 ok0 (by simp) (by simp) (by simp)) (by simp; rfl) ?_
        rw [b3]
        refine st1 hwm ?_
        refine giv (MkI.checkR (l := [⟨(m : Nat), 9, [], 0, 0, 0, 0, 0, false, false⟩]) i2 ok0 (by simp) (by simp) (by simp)) (by simp; rfl) ?_
        rw [b4]
        refine st0 ?_
        refine runT (R := _) (by simpa using i2.doR ok0 (l := limL j) (by omega) (by omega) hes) ?_
        rw [a1]
        rintro _ s4 ⟨rfl, mb4, i4, -, -, -⟩
        refine st0 ?_
        refine ret_ok rfl ⟨⟨by have := i4.n; omega, fun x hx => .inl (i4.old x hx).symm⟩, .refl _⟩
    · rw [if_neg hc] at a1
      have h0 : ¬ j = 0 := fun h => hc (.inl h)
      have h4 : ¬ (4 : Int) < j := by omega
      refine st2 h0 h4 ?_
      refine giv (MkI.checkR (l := limL j) i2 ok0 (by omega) (by omega) hes) (by simp) ?_
      rw [a1]
      refine st1 hwm ?_
      refine giv (MkI.checkR (l := [⟨(m : Nat), 3, [], 0, 0, 0, 1, 0, false, false⟩]) i2 ok0 (by simp) (by simp) (by simp)) (by simp; rfl) ?_
      rw [b1]
      refine st1 hwm ?_
      refine giv (MkI.checkR (l := [⟨(m : Nat), 6, [], 0, 0, 0, 0, 0, false, true⟩]) i2 ok0 (by simp) (by simp) (by simp)) (by simp; rfl) ?_
      rw [b2]
      refine st1 hwm ?_
      refine giv (MkI.checkR (l := [⟨(m : Nat), 5, [], 0, 0, 0, 0, 0, false, false⟩]) i2 ok0 (by simp) (by simp) (by simp)) (by simp; rfl) ?_
      rw [b3]
      refine st1 hwm ?_
      refine giv (MkI.checkR (l := [⟨(m : Nat), 9, [], 0, 0, 0, 0, 0, false, false⟩]) i2 ok0 (by simp) (by simp) (by simp)) (by simp; rfl) ?_
      rw [b4]
      refine st0 ?_
      refine runT (R := _) (by simpa using i2.doR ok0 (l := limL j) (by omega) (by omega) hes) ?_
      rw [a1]
      rintro _ s4 ⟨rfl, mb4, i4, -, -, -⟩
      refine st0 ?_
      refine gv (MkI.allR i4 (ok0.doM _) (by omega)) ?_
      have a3 := a2 hc
      refine st1 a3 ?_
      refine ret_ok rfl ⟨⟨by have := i4.n; omega, fun x hx => .inl (i4.old x hx).symm⟩, .refl _⟩
end Go.Proofs.Ytmfhchaoijiodaa
end
section
namespace Go.Ab
set_option linter.unusedVariables false
def oldB : ByteArray := ⟨#[111, 108, 100]⟩
def newB : ByteArray := ⟨#[110, 101, 119]⟩
def anM (m : Nat) : Nat → List (Int × Grp)
  | 0 => []
  | j + 1 => doM (anM m j) [appP m ((j : Int) + 1) oldB]
def anL (m : Nat) : List Prt := [⟨(m : Nat), 2, [], 5, 0, 0, 0, 0, false, false⟩, desP m, appP m 1 newB]
def anG (m : Nat) : Grp := ⟨(m : Nat), 1, 0, 0, 0, 0, [⟨1, 3, newB⟩]⟩
def anT (m j : Nat) : Bool := decide (triedE (anM m j) [appP m ((j : Int) + 1) oldB] = 0)
def anU (m j : Nat) : Bool := decide (triedE (anM m j) (anL m) = 0) && decide (doM (anM m j) (anL m) = [(((m : Nat) : Int), anG m)])
def anV (m : Nat) : Bool := decide (triedE [(((m : Nat) : Int), anG m)] [desP m, desP m] = 13)
theorem an_v : ∀ m, m < 256 → anV m = true := by decide +kernel
theorem an_t : ∀ m, m < 256 → ∀ j, j < 5 → anT m j = true := by decide +kernel
theorem an_u : ∀ m, m < 256 → ∀ j, j < 6 → 0 < j → anU m j = true := by decide +kernel
end Go.Ab
end
section
namespace Go.Proofs.Ytmfhchaoijiodaa
open Go.Ab
set_option linter.unusedVariables false
set_option linter.unusedSimpArgs false
set_option maxRecDepth 100000
set_option maxHeartbeats 1000000
theorem an_ok (m j : Nat) : ManyOk (24 * j) (anM m j) := by
  induction j with
  | zero => exact ManyOk.nil _
  | succ j ih => exact (ih.doM _).more (by omega)
theorem ct_ladelaw7_ManyAnew {u n : Int} {s : AState} (hu : 0 ≤ u ∧ u < 256) (hn : 0 ≤ n ∧ n < 256) : Gives prog F_ladelaw7_ManyAnew [.v (.int .u8 u), .v (.int .u8 n)] s (.v (.bool true)) s := by
  refine Runs.gives (runs_e h_ladelaw7_ManyAnew (Nat.le_of_ble_eq_true rfl) ?_) (.v _)
  obtain ⟨m, rfl⟩ : ∃ m : Nat, u = m := ⟨u.toNat, by omega⟩
  have hr := rem_u8 hn.1 (show (0 : Int) < 5 by omega)
  obtain ⟨k, hk⟩ : ∃ k : Nat, (k : Int) = n.tmod 5 := ⟨(n.tmod 5).toNat, by omega⟩
  have hw : IntKind.wrap .i64 (n.tmod 5) = k := by rw [wrap_i64 (by omega) (by omega), hk]
  have hw1 : IntKind.wrap .i64 ((k : Int) + 1) = (k : Int) + 1 := wrap_i64 (by omega) (by omega)
  have hwm : IntKind.wrap .i64 (m : Int) = m := wrap_i64 (by omega) (by omega)
  have hk5 : k < 5 := by omega
  repeat (first | simp -dsimp -implicitDefEqProofs (disch := first | omega | (simp <;> omega) | fail) | ((with_reducible first | apply m_1 | apply m_0); (focus ((conv => lhs; simp -dsimp -implicitDefEqProofs (disch := first | omega | (simp <;> omega) | fail)); done))) | ((with_reducible first | apply i_T | apply g_T); (focus (simp -dsimp -implicitDefEqProofs (disch := first | omega | (simp <;> omega) | fail); done))) | ((with_reducible first | apply i_F | apply g_F); (focus (simp -dsimp -implicitDefEqProofs (disch := first | omega | (simp <;> omega) | fail); done))))
  refine giv (ct_ladelaw7_known) (by first | (simp; done) | rfl | (simp; rfl)) ?_
  repeat (first | simp -dsimp -implicitDefEqProofs (disch := first | omega | (simp <;> omega) | fail) | ((with_reducible first | apply m_1 | apply m_0); (focus ((conv => lhs; simp -dsimp -implicitDefEqProofs (disch := first | omega | (simp <;> omega) | fail)); done))) | ((with_reducible first | apply i_T | apply g_T); (focus (simp -dsimp -implicitDefEqProofs (disch := first | omega | (simp <;> omega) | fail); done))) | ((with_reducible first | apply i_F | apply g_F); (focus (simp -dsimp -implicitDefEqProofs (disch := first | omega | (simp <;> omega) | fail); done))))
  refine run (MkI.newR) (by first | (simp; done) | rfl | (simp; rfl)) ?_
  rintro _ s1 ⟨rfl, i1⟩
  repeat (first | simp -dsimp -implicitDefEqProofs (disch := first | omega | (simp <;> omega) | fail) [hw, hw1] | ((with_reducible first | apply m_1 | apply m_0); (focus ((conv => lhs; simp -dsimp -implicitDefEqProofs (disch := first | omega | (simp <;> omega) | fail) [hw, hw1]); done))) | ((with_reducible first | apply i_T | apply g_T); (focus (simp -dsimp -implicitDefEqProofs (disch := first | omega | (simp <;> omega) | fail) [hw, hw1]; done))) | ((with_reducible first | apply i_F | apply g_F); (focus (simp -dsimp -implicitDefEqProofs (disch := first | omega | (simp <;> omega) | fail) [hw, hw1]; done))))
  refine loop_ok [0, 5, 6, 7] (fun r a s2 => ∃ (j mb : Nat), j + r = k + 1 ∧ MkI s 2 (s.n + 1) mb (anM m j) s2 ∧
    a = { t := den 108 [(0, .v (.int .u8 m)), (5, .p (s.n + 1) 0), (6, .v (.int .i64 ((k : Int) + 1))), (7, .v (.int .i64 ((j : Int) + 1)))], d := [] }) (k + 1) ?_ ?_
  · exact ⟨0, s.n, by simp, i1, by simp⟩
  rintro r a s2 ⟨j, mb, hjr, i2, rfl⟩
  have ok := an_ok m j
  by_cases hlt : j < k + 1
  · have hle : (j : Int) + 1 ≤ (k : Int) + 1 := by omega
    have w3 : IntKind.wrap .i64 ((j : Int) + 1 + 1) = ((j + 1 : Nat) : Int) + 1 := by rw [wrap_i64 (by omega) (by omega)]; omega
    have ht : triedE (anM m j) [appP m ((j : Int) + 1) oldB] = 0 := of_decide_eq_true (an_t m (by omega) j (by omega))
    repeat (first | simp -dsimp -implicitDefEqProofs (disch := first | omega | (simp <;> omega) | fail) [hle, hwm] | ((with_reducible first | apply m_1 | apply m_0); (focus ((conv => lhs; simp -dsimp -implicitDefEqProofs (disch := first | omega | (simp <;> omega) | fail) [hle, hwm]); done))) | ((with_reducible first | apply i_T | apply g_T); (focus (simp -dsimp -implicitDefEqProofs (disch := first | omega | (simp <;> omega) | fail) [hle, hwm]; done))) | ((with_reducible first | apply i_F | apply g_F); (focus (simp -dsimp -implicitDefEqProofs (disch := first | omega | (simp <;> omega) | fail) [hle, hwm]; done))))
    refine giv (ct_ladelaw7_app (g := (m : Int)) (i := (j : Int) + 1) (d := oldB)) (by simp [oldB]) ?_
    repeat (first | simp -dsimp -implicitDefEqProofs (disch := first | omega | (simp <;> omega) | fail) | ((with_reducible first | apply m_1 | apply m_0); (focus ((conv => lhs; simp -dsimp -implicitDefEqProofs (disch := first | omega | (simp <;> omega) | fail)); done))) | ((with_reducible first | apply i_T | apply g_T); (focus (simp -dsimp -implicitDefEqProofs (disch := first | omega | (simp <;> omega) | fail); done))) | ((with_reducible first | apply i_F | apply g_F); (focus (simp -dsimp -implicitDefEqProofs (disch := first | omega | (simp <;> omega) | fail); done))))
    refine runU (i2.doR ok (l := [appP m ((j : Int) + 1) oldB]) (by simp; omega) (by simp) (by simp [appP])) (by first | rfl | (simp; rfl)) ?_
    rw [ht]
    rintro _ s3 ⟨rfl, mb3, i3, -, -, -⟩
    repeat (first | simp -dsimp -implicitDefEqProofs (disch := first | omega | (simp <;> omega) | fail) | ((with_reducible first | apply m_1 | apply m_0); (focus ((conv => lhs; simp -dsimp -implicitDefEqProofs (disch := first | omega | (simp <;> omega) | fail)); done))) | ((with_reducible first | apply i_T | apply g_T); (focus (simp -dsimp -implicitDefEqProofs (disch := first | omega | (simp <;> omega) | fail); done))) | ((with_reducible first | apply i_F | apply g_F); (focus (simp -dsimp -implicitDefEqProofs (disch := first | omega | (simp <;> omega) | fail); done))))
    exact ⟨r - 1, by omega, j + 1, mb3, by omega, i3, by simp [w3]⟩
  · have hle : ¬ (k : Int) + 1 ≤ (k : Int) := by omega
    have hje : j = k + 1 := by omega
    subst hje
    have hU := an_u m (by omega) (k + 1) (by omega) (by omega)
    simp only [anU, Bool.and_eq_true, decide_eq_true_eq] at hU
    obtain ⟨u1, u2⟩ := hU
    have hV : triedE [((m : Int), anG m)] [desP m, desP m] = 13 := of_decide_eq_true (an_v m (by omega))
    have hlk : lk [((m : Int), anG m)] (m : Int) = some (anG m) := by simp [lk_cons]
    repeat (first | simp -dsimp -implicitDefEqProofs (disch := first | omega | (simp <;> omega) | fail) [hle, hwm] | ((with_reducible first | apply m_1 | apply m_0); (focus ((conv => lhs; simp -dsimp -implicitDefEqProofs (disch := first | omega | (simp <;> omega) | fail) [hle, hwm]); done))) | ((with_reducible first | apply i_T | apply g_T); (focus (simp -dsimp -implicitDefEqProofs (disch := first | omega | (simp <;> omega) | fail) [hle, hwm]; done))) | ((with_reducible first | apply i_F | apply g_F); (focus (simp -dsimp -implicitDefEqProofs (disch := first | omega | (simp <;> omega) | fail) [hle, hwm]; done))))
    refine giv (ct_ladelaw7_app (g := (m : Int)) (i := 1) (d := newB)) (by simp [newB]) ?_
    repeat (first | simp -dsimp -implicitDefEqProofs (disch := first | omega | (simp <;> omega) | fail) | ((with_reducible first | apply m_1 | apply m_0); (focus ((conv => lhs; simp -dsimp -implicitDefEqProofs (disch := first | omega | (simp <;> omega) | fail)); done))) | ((with_reducible first | apply i_T | apply g_T); (focus (simp -dsimp -implicitDefEqProofs (disch := first | omega | (simp <;> omega) | fail); done))) | ((with_reducible first | apply i_F | apply g_F); (focus (simp -dsimp -implicitDefEqProofs (disch := first | omega | (simp <;> omega) | fail); done))))
    refine runU (i2.doR ok (l := anL m) (by simp [anL]; omega) (by simp [anL]) (by simp [anL, appP, desP])) (by first | rfl | (simp; rfl)) ?_
    rw [u1, u2]
    rintro _ s3 ⟨rfl, mb3, i3, -, -, -⟩
    have ok3 : ManyOk (24 * (k + 1) + 24) [((m : Int), anG m)] := by rw [← u2]; exact ok.doM _
    repeat (first | simp -dsimp -implicitDefEqProofs (disch := first | omega | (simp <;> omega) | fail) [hwm] | ((with_reducible first | apply m_1 | apply m_0); (focus ((conv => lhs; simp -dsimp -implicitDefEqProofs (disch := first | omega | (simp <;> omega) | fail) [hwm]); done))) | ((with_reducible first | apply i_T | apply g_T); (focus (simp -dsimp -implicitDefEqProofs (disch := first | omega | (simp <;> omega) | fail) [hwm]; done))) | ((with_reducible first | apply i_F | apply g_F); (focus (simp -dsimp -implicitDefEqProofs (disch := first | omega | (simp <;> omega) | fail) [hwm]; done))))
    refine giv (MkI.getR (i := (m : Int)) i3 ok3 (by omega)) (by simp) ?_
    rw [hlk]
    have hG : (Option.getD (some (anG m)) zeroG') = anG m := rfl
    rw [hG]
    have q1 : (anG m).es = [⟨1, 3, ⟨#[110, 101, 119]⟩⟩] := rfl
    have q2 : (anG m).ht = 0 ∧ (anG m).hv = 0 ∧ (anG m).hc = 0 := ⟨rfl, rfl, rfl⟩
    repeat (first | simp -dsimp -implicitDefEqProofs (disch := first | omega | (simp <;> omega) | fail) [hwm] | ((with_reducible first | apply m_1 | apply m_0); (focus ((conv => lhs; simp -dsimp -implicitDefEqProofs (disch := first | omega | (simp <;> omega) | fail) [hwm]); done))) | ((with_reducible first | apply i_T | apply g_T); (focus (simp -dsimp -implicitDefEqProofs (disch := first | omega | (simp <;> omega) | fail) [hwm]; done))) | ((with_reducible first | apply i_F | apply g_F); (focus (simp -dsimp -implicitDefEqProofs (disch := first | omega | (simp <;> omega) | fail) [hwm]; done))))
    refine runU ((i3.alloc (.cells (anG m).cells)).doR ok3 (l := [desP m, desP m]) (by simp; omega) (by simp) (by simp [desP])) (by first | rfl | (simp; rfl)) ?_
    have hdo : doM [((m : Int), anG m)] [desP m, desP m] = [((m : Int), anG m)] := by unfold doM; rw [hV]; rfl
    rw [hV, hdo]
    rintro _ s4 ⟨rfl, mb4, i4, k4, n4, -⟩
    simp at k4 n4
    have c1 : s4.get s3.n = .cells (anG m).cells := (k4 _ (by omega) (by have := i3.n; omega)).trans (by simp (disch := first | omega | (simp <;> omega) | fail))
    repeat (first | simp -dsimp -implicitDefEqProofs (disch := first | omega | (simp <;> omega) | fail) [hwm] | ((with_reducible first | apply m_1 | apply m_0); (focus ((conv => lhs; simp -dsimp -implicitDefEqProofs (disch := first | omega | (simp <;> omega) | fail) [hwm]); done))) | ((with_reducible first | apply i_T | apply g_T); (focus (simp -dsimp -implicitDefEqProofs (disch := first | omega | (simp <;> omega) | fail) [hwm]; done))) | ((with_reducible first | apply i_F | apply g_F); (focus (simp -dsimp -implicitDefEqProofs (disch := first | omega | (simp <;> omega) | fail) [hwm]; done))))
    refine giv (MkI.getR (i := (m : Int)) i4 ok3 (by omega)) (by simp) ?_
    rw [hlk, hG]
    have q3 : strEq ⟨#[110, 101, 119]⟩ ⟨#[110, 101, 119]⟩ = true := by decide
    repeat (first | simp -dsimp -implicitDefEqProofs (disch := first | omega | (simp <;> omega) | fail) [hwm, c1, q1, q3, q2.1, q2.2.1, q2.2.2] | ((with_reducible first | apply m_1 | apply m_0); (focus ((conv => lhs; simp -dsimp -implicitDefEqProofs (disch := first | omega | (simp <;> omega) | fail) [hwm, c1, q1, q3, q2.1, q2.2.1, q2.2.2]); done))) | ((with_reducible first | apply i_T | apply g_T); (focus (simp -dsimp -implicitDefEqProofs (disch := first | omega | (simp <;> omega) | fail) [hwm, c1, q1, q3, q2.1, q2.2.1, q2.2.2]; done))) | ((with_reducible first | apply i_F | apply g_F); (focus (simp -dsimp -implicitDefEqProofs (disch := first | omega | (simp <;> omega) | fail) [hwm, c1, q1, q3, q2.1, q2.2.1, q2.2.2]; done))))
    have n4' := i4.n
    refine ret_ok rfl ⟨⟨by simp; omega, fun x hx => .inl ?_⟩, .refl _⟩
    rw [AState.get_alloc_old _ _ (by omega)]; exact (i4.old x hx).symm
end Go.Proofs.Ytmfhchaoijiodaa
end
section
namespace Go.Ab
set_option linter.unusedVariables false
def stE (t i : Int) : Ent := ⟨i, t + i, ⟨#[]⟩⟩
def stA (k t : Int) : Prt := ⟨k, 1, [stE t 1, stE t 2, stE t 3], 0, 0, 0, 0, 0, false, false⟩
def stC (k x : Int) : Prt := ⟨k, 3, [], 0, 0, 0, 1, x, false, false⟩
def stS (k kd x : Int) : Prt := ⟨k, kd, [], 0, 0, 0, 2, x, false, false⟩
def stG1 (k t : Int) : Grp := ⟨k, 1, 0, 0, 0, 0, [stE t 1, stE t 2, stE t 3]⟩
def stG2 (k t : Int) : Grp := ⟨k, 2, t + 1, 0, 0, 0, [stE t 2, stE t 3]⟩
section
variable {k t x : Int} (hk : 0 ≤ k ∧ k < 256) (ht : 0 ≤ t ∧ t < 65536)
theorem st_okE {i : Int} (ht : 0 ≤ t ∧ t < 65536) (hi : 1 ≤ i ∧ i ≤ 3) : okEnt (stE t i) = true := by
  have := MI_eq
  rw [okEnt_iff]; simp only [stE]
  refine ⟨by omega, by omega, by decide⟩
include hk ht
theorem st_pA : isPart (stA k t) = true := by
  have h1 := st_okE ht (i := 1) (by omega)
  have h2 := st_okE ht (i := 2) (by omega)
  have h3 := st_okE ht (i := 3) (by omega)
  have e : core (stA k t) = stA k t := rfl
  have r : rising [stE t 1, stE t 2, stE t 3] true = true := by
    simp [rising, List.range_succ, riseAt, h1, h2, h3]
    simp [stE]
  have h0 : isPart (stA k t) = (btw k 0 999 && decide (stA k t = core (stA k t)) && (true && rising [stE t 1, stE t 2, stE t 3] true)) := rfl
  rw [h0, e, r]
  simp only [btw, Bool.and_eq_true, decide_eq_true_eq]
  exact ⟨⟨by omega, trivial⟩, trivial, trivial⟩
omit ht in
theorem st_pC (hx : 0 ≤ x ∧ x ≤ 100000) : isPart (stC k x) = true := by
  have := MI_eq
  have e : core (stC k x) = stC k x := rfl
  have h0 : isPart (stC k x) = (btw k 0 999 && decide (stC k x = core (stC k x)) && (btw 1 1 MI && btw x 0 MI)) := rfl
  rw [h0, e]
  simp only [btw, Bool.and_eq_true, decide_eq_true_eq]
  exact ⟨⟨by omega, trivial⟩, by omega, by omega⟩
omit ht in
theorem st_pS {kd : Int} (hx : 1 ≤ x ∧ x ≤ 100000) (hd : kd = 3 ∨ kd = 4) : isPart (stS k kd x) = true := by
  have := MI_eq
  rcases hd with rfl | rfl
  · have e : core (stS k 3 x) = stS k 3 x := rfl
    have h0 : isPart (stS k 3 x) = (btw k 0 999 && decide (stS k 3 x = core (stS k 3 x)) && (btw 2 1 MI && btw x 0 MI)) := rfl
    rw [h0, e]
    simp only [btw, Bool.and_eq_true, decide_eq_true_eq]
    exact ⟨⟨by omega, trivial⟩, by omega, by omega⟩
  · have e : core (stS k 4 x) = stS k 4 x := rfl
    have h0 : isPart (stS k 4 x) = (btw k 0 999 && decide (stS k 4 x = core (stS k 4 x)) && (btw 2 1 MI && btw x 1 MI)) := rfl
    rw [h0, e]
    simp only [btw, Bool.and_eq_true, decide_eq_true_eq]
    exact ⟨⟨by omega, trivial⟩, by omega, by omega⟩
omit hk ht in
theorem st_a1 (i : Int) : atS (stG1 k t).es i = if i = 1 then some (stE t 1) else if i = 2 then some (stE t 2) else if i = 3 then some (stE t 3) else none := by
  rw [at_dense (g := stG1 k t) ⟨rfl, rfl, rfl, trivial⟩]
  show (if 1 ≤ i then _ else _) = _
  by_cases h : 1 ≤ i
  · rw [if_pos h]
    by_cases h3 : i ≤ 3
    · rcases (show i = 1 ∨ i = 2 ∨ i = 3 by omega) with rfl | rfl | rfl <;> rfl
    · rw [if_neg (by omega), if_neg (by omega), if_neg (by omega)]
      exact List.getElem?_eq_none (by show 3 ≤ (i - 1).toNat; omega)
  · rw [if_neg h, if_neg (by omega), if_neg (by omega), if_neg (by omega)]
omit hk ht in
theorem st_a2 (i : Int) : atS (stG2 k t).es i = if i = 2 then some (stE t 2) else if i = 3 then some (stE t 3) else none := by
  rw [at_dense (g := stG2 k t) ⟨rfl, rfl, trivial⟩]
  show (if 2 ≤ i then _ else _) = _
  by_cases h : 2 ≤ i
  · rw [if_pos h]
    by_cases h3 : i ≤ 3
    · rcases (show i = 2 ∨ i = 3 by omega) with rfl | rfl <;> rfl
    · rw [if_neg (by omega), if_neg (by omega)]
      exact List.getElem?_eq_none (by show 2 ≤ (i - 2).toNat; omega)
  · rw [if_neg h, if_neg (by omega), if_neg (by omega)]
theorem st_c1 : chkG (newG k) (stA k t) = 0 ∧ doG (newG k) (stA k t) = stG1 k t := by
  have hp := st_pA hk ht
  constructor
  · unfold chkG
    rw [if_neg (by simp [hp]; simp [stA, newG])]
    rfl
  · rfl
theorem st_c2 (hx : x = 0 ∨ x = t + 1) : chkG (stG1 k t) (stC k x) = 0 ∧ doG (stG1 k t) (stC k x) = stG2 k t := by
  have hp := st_pC (k := k) (x := x) hk (by omega)
  constructor
  · unfold chkG
    rw [if_neg (by simp [hp]; simp [stC, stG1])]
    show (if (1 : Int) < 1 then 15 else if lastG (stG1 k t) < 1 then 16 else if ¬ x = 0 ∧ fitsG (stG1 k t) 1 x = false then 11 else 0) = 0
    rw [if_neg (by omega), if_neg (show ¬ lastG (stG1 k t) < 1 by show ¬ (3 : Int) < 1; omega), if_neg]
    rintro ⟨h1, h2⟩
    unfold fitsG at h2
    rw [st_a1, if_pos rfl] at h2
    have h2' : decide (t + 1 = x) = false := h2
    have h3' := of_decide_eq_false h2'
    omega
  · have e : doG (stG1 k t) (stC k x) = goneG (stG1 k t) 1 ((atS (stG1 k t).es 1).getD zeroE).tm := rfl
    rw [e, st_a1, if_pos rfl]
    rfl
theorem st_may : mayP (stA k t) = true := by
  have : mayP (stA k t) = (isPart (stA k t) && true) := rfl
  rw [this, st_pA hk ht]; rfl
omit ht in
theorem st_mayC (hx : 0 ≤ x ∧ x ≤ 100000) : mayP (stC k x) = true := by
  have : mayP (stC k x) = (isPart (stC k x) && true) := rfl
  rw [this, st_pC hk hx]; rfl
omit ht in
theorem st_mayS {kd : Int} (hx : 1 ≤ x ∧ x ≤ 100000) (hd : kd = 3 ∨ kd = 4) : mayP (stS k kd x) = true := by
  unfold mayP
  rw [st_pS hk hx hd]
  rcases hd with rfl | rfl <;> rfl
theorem st_o1 : errM [] (stA k t) = 0 ∧ oneM [] (stA k t) = [(k, stG1 k t)] := by
  obtain ⟨h1, h2⟩ := st_c1 hk ht
  have e : ∀ y, errM [] (stA k y) = chkG (newG k) (stA k y) := fun y => rfl
  have o : oneM [] (stA k t) = if chkG (newG k) (stA k t) = 0 then [(k, doG (newG k) (stA k t))] else [] := rfl
  rw [e, o, h1, h2]; exact ⟨rfl, rfl⟩
omit hk ht in
theorem st_lk (g : Grp) : lk [(k, g)] k = some g := by simp [lk_cons]
omit hk ht in
theorem st_put (g g' : Grp) : putL [(k, g)] k g' = [(k, g')] := by
  unfold putL
  rw [if_neg (Key.irrefl k), if_pos rfl]
theorem st_o2 (hx : x = 0 ∨ x = t + 1) : errM [(k, stG1 k t)] (stC k x) = 0 ∧ oneM [(k, stG1 k t)] (stC k x) = [(k, stG2 k t)] := by
  obtain ⟨h1, h2⟩ := st_c2 hk ht hx
  have hl : lk [(k, stG1 k t)] (stC k x).gr = some (stG1 k t) := st_lk _
  constructor
  · unfold errM
    rw [hl]
    exact h1
  · unfold oneM
    rw [hl]
    show (if (3 : Int) = 5 then _ else if chkG (stG1 k t) (stC k x) = 0 then putL [(k, stG1 k t)] k (doG (stG1 k t) (stC k x)) else _) = _
    rw [if_neg (by decide), if_pos h1, h2, st_put]
omit hk ht in
theorem st_s2 : settledS (stG1 k t) (stC k 0) = stC k (t + 1) := by
  have h : atS (stG1 k t).es (stC k 0).ix = some (stE t 1) := by rw [show (stC k 0).ix = 1 from rfl, st_a1]; rfl
  unfold settledS
  rw [h]
  rfl
omit hk ht in
theorem st_s3 : settledS (stG2 k t) (stS k 4 x) = stS k (if x = t + 2 then 3 else 4) x := by
  have h : atS (stG2 k t).es (stS k 4 x).ix = some (stE t 2) := by rw [show (stS k 4 x).ix = 2 from rfl, st_a2]; rfl
  unfold settledS
  rw [h]
  show (if (4 : Int) = 3 then _ else if (4 : Int) = 4 ∧ x = t + 2 then _ else _) = _
  rw [if_neg (by decide)]
  by_cases h : x = t + 2
  · rw [if_pos ⟨rfl, h⟩, if_pos h]; rfl
  · rw [if_neg (fun h' => h h'.2), if_neg h]
def stG3 (k x t : Int) (f : Bool) : Grp := ⟨k, 3, x, 0, 0, 0, if f = true then [stE t 3] else []⟩
theorem st_c3 (hx : x = t + 2 ∨ x = t + 9) (kd : Int) (hd : kd = if x = t + 2 then 3 else 4) : chkG (stG2 k t) (stS k kd x) = 0 ∧ doG (stG2 k t) (stS k kd x) = stG3 k x t (decide (x = t + 2)) := by
  by_cases h : x = t + 2
  · rw [if_pos h] at hd
    subst hd
    have hp := st_pS (k := k) (x := x) (kd := 3) hk (by omega) (.inl rfl)
    have hf : fitsG (stG2 k t) 2 x = true := by
      unfold fitsG; rw [st_a2]; exact decide_eq_true h.symm
    constructor
    · unfold chkG
      rw [if_neg (by simp [hp]; simp [stS, stG2])]
      show (if (2 : Int) < 2 then 15 else if lastG (stG2 k t) < 2 then 16 else if ¬ x = 0 ∧ fitsG (stG2 k t) 2 x = false then 11 else 0) = 0
      rw [if_neg (by omega), if_neg (show ¬ lastG (stG2 k t) < 2 by show ¬ (3 : Int) < 2; omega), if_neg (by rw [hf]; simp)]
    · have e : doG (stG2 k t) (stS k 3 x) = goneG (stG2 k t) 2 ((atS (stG2 k t).es 2).getD zeroE).tm := rfl
      rw [e, st_a2, decide_eq_true h, h]
      rfl
  · rw [if_neg h] at hd
    subst hd
    have hp := st_pS (k := k) (x := x) (kd := 4) hk (by omega) (.inr rfl)
    have hf : fitsG (stG2 k t) 2 x = false := by
      unfold fitsG; rw [st_a2]; exact decide_eq_false (fun e => h e.symm)
    constructor
    · unfold chkG
      rw [if_neg (by simp [hp]; simp [stS, stG2])]
      rfl
    · have e : doG (stG2 k t) (stS k 4 x) = goneG (if fitsG (stG2 k t) 2 x = true then stG2 k t else { stG2 k t with es := [] }) 2 x := rfl
      rw [e, hf, decide_eq_false h]
      rfl
theorem st_o3 (hx : x = t + 2 ∨ x = t + 9) (kd : Int) (hd : kd = if x = t + 2 then 3 else 4) : errM [(k, stG2 k t)] (stS k kd x) = 0 ∧ oneM [(k, stG2 k t)] (stS k kd x) = [(k, stG3 k x t (decide (x = t + 2)))] := by
  obtain ⟨h1, h2⟩ := st_c3 hk ht hx kd hd
  have hl : lk [(k, stG2 k t)] (stS k kd x).gr = some (stG2 k t) := st_lk _
  have h5 : ¬ (stS k kd x).kd = 5 := by show ¬ kd = 5; rw [hd]; split <;> decide
  constructor
  · unfold errM
    rw [hl]
    show (if (stS k kd x).kd = 5 then 0 else _) = _
    rw [if_neg h5]
    exact h1
  · unfold oneM
    rw [hl]
    show (if (stS k kd x).kd = 5 then _ else if chkG (stG2 k t) (stS k kd x) = 0 then putL [(k, stG2 k t)] k (doG (stG2 k t) (stS k kd x)) else _) = _
    rw [if_neg h5, if_pos h1, h2, st_put]
def stL (k t x : Int) : List Prt := [stA k t, stC k 0, stS k 4 x]
def stX (k t x : Int) : List Prt := [stA k t, stC k (t + 1), stS k (if x = t + 2 then 3 else 4) x]
theorem st_out (hx : x = t + 2 ∨ x = t + 9) : outL [] (stL k t x) = stX k t x := by
  obtain ⟨a1, a2⟩ := st_o1 hk ht
  obtain ⟨b1, b2⟩ := st_o2 hk ht (x := 0) (.inl rfl)
  have mA := st_may hk ht
  have mC := st_mayC (k := k) (x := 0) hk (by omega)
  have mS := st_mayS (k := k) (x := x) (kd := 4) hk (by omega) (.inr rfl)
  have g3 : errM [(k, stG2 k t)] (stS k 4 x) = 0 := by
    have hl : lk [(k, stG2 k t)] (stS k 4 x).gr = some (stG2 k t) := st_lk _
    unfold errM
    rw [hl]
    show chkG (stG2 k t) (stS k 4 x) = 0
    have hp := st_pS (k := k) (x := x) (kd := 4) hk (by omega) (.inr rfl)
    unfold chkG
    rw [if_neg (by simp [hp]; simp [stS, stG2])]
    rfl
  have o1 : outP [] (stA k t) = stA k t := by unfold outP; rw [if_pos ⟨mA, a1⟩]; rfl
  have o2 : outP [(k, stG1 k t)] (stC k 0) = stC k (t + 1) := by
    unfold outP; rw [if_pos ⟨mC, b1⟩, show (stC k 0).gr = k from rfl, st_lk]; exact st_s2
  have o3 : outP [(k, stG2 k t)] (stS k 4 x) = stS k (if x = t + 2 then 3 else 4) x := by
    unfold outP; rw [if_pos ⟨mS, g3⟩, show (stS k 4 x).gr = k from rfl, st_lk]; exact st_s3
  have t1 : stepM [] (stA k t) = [(k, stG1 k t)] := by unfold stepM; rw [if_pos mA, a2]
  have t2 : stepM [(k, stG1 k t)] (stC k 0) = [(k, stG2 k t)] := by unfold stepM; rw [if_pos mC, b2]
  simp only [stL, stX, outL, o1, t1, o2, t2, o3]
theorem st_do (hx : x = t + 2 ∨ x = t + 9) : triedE [] (stX k t x) = 0 ∧ doM [] (stX k t x) = [(k, stG3 k x t (decide (x = t + 2)))] := by
  obtain ⟨a1, a2⟩ := st_o1 hk ht
  obtain ⟨b1, b2⟩ := st_o2 hk ht (x := t + 1) (.inr rfl)
  obtain ⟨c1, c2⟩ := st_o3 hk ht hx (if x = t + 2 then 3 else 4) rfl
  have mA := st_may hk ht
  have mC := st_mayC (k := k) (x := t + 1) hk (by omega)
  have mS := st_mayS (k := k) (x := x) (kd := if x = t + 2 then 3 else 4) hk (by omega) (by split <;> simp)
  have hw : wrongM (stX k t x) = 0 := by unfold wrongM; rw [if_neg]; simp [stX, mA, mC, mS]
  have he : errL [] (stX k t x) = 0 := by simp only [stX, errL, a1, a2, b1, b2, c1, if_true]
  have ht' : triedE [] (stX k t x) = 0 := by unfold triedE; rw [if_pos hw, he]
  refine ⟨ht', ?_⟩
  unfold doM
  rw [if_pos ht']
  simp only [stX, stM, List.foldl, stepM, mA, mC, mS, if_true, a2, b2, c2]
end
end Go.Ab
end
section
namespace Go.Proofs.Ytmfhchaoijiodaa
open Go.Ab
set_option linter.unusedVariables false
set_option linter.unusedSimpArgs false
set_option maxRecDepth 100000
set_option maxHeartbeats 1000000
theorem ct_ladelaw7_ManySettled {u t : Int} {f : Bool} {s : AState} (hu : 0 ≤ u ∧ u < 256) (ht : 0 ≤ t ∧ t < 65536) : Gives prog F_ladelaw7_ManySettled [.v (.int .u8 u), .v (.int .u16 t), .v (.bool f)] s (.v (.bool true)) s := by
  refine Runs.gives (runs_e h_ladelaw7_ManySettled (Nat.le_of_ble_eq_true rfl) ?_) (.v _)
  have wu : IntKind.wrap .i64 u = u := wrap_i64 (by omega) (by omega)
  have wt : IntKind.wrap .i64 t = t := wrap_i64 (by omega) (by omega)
  have w1 : IntKind.wrap .i64 (t + 1) = t + 1 := wrap_i64 (by omega) (by omega)
  have w2 : IntKind.wrap .i64 (t + 2) = t + 2 := wrap_i64 (by omega) (by omega)
  have w3 : IntKind.wrap .i64 (t + 3) = t + 3 := wrap_i64 (by omega) (by omega)
  have w9 : IntKind.wrap .i64 (t + 9) = t + 9 := wrap_i64 (by omega) (by omega)
  have ok0 := ManyOk.nil 0
  repeat (first | simp -dsimp -implicitDefEqProofs (disch := first | omega | (simp <;> omega) | fail) | ((with_reducible first | apply m_1 | apply m_0); (focus ((conv => lhs; simp -dsimp -implicitDefEqProofs (disch := first | omega | (simp <;> omega) | fail)); done))) | ((with_reducible first | apply i_T | apply g_T); (focus (simp -dsimp -implicitDefEqProofs (disch := first | omega | (simp <;> omega) | fail); done))) | ((with_reducible first | apply i_F | apply g_F); (focus (simp -dsimp -implicitDefEqProofs (disch := first | omega | (simp <;> omega) | fail); done))))
  refine gv (ct_ladelaw7_known) ?_
  repeat (first | simp -dsimp -implicitDefEqProofs (disch := first | omega | (simp <;> omega) | fail) | ((with_reducible first | apply m_1 | apply m_0); (focus ((conv => lhs; simp -dsimp -implicitDefEqProofs (disch := first | omega | (simp <;> omega) | fail)); done))) | ((with_reducible first | apply i_T | apply g_T); (focus (simp -dsimp -implicitDefEqProofs (disch := first | omega | (simp <;> omega) | fail); done))) | ((with_reducible first | apply i_F | apply g_F); (focus (simp -dsimp -implicitDefEqProofs (disch := first | omega | (simp <;> omega) | fail); done))))
  refine rn0 (MkI.newR) ?_
  rintro _ s1 ⟨rfl, i1⟩
  have n1 := i1.n
  cases f with
  | true =>
    obtain ⟨x, hx⟩ : ∃ x, x = t + 2 := ⟨_, rfl⟩
    have hout := st_out hu ht (x := x) (.inl hx)
    obtain ⟨d1, d2⟩ := st_do hu ht (x := x) (.inl hx)
    have hk3 : (if x = t + 2 then 3 else 4 : Int) = 3 := if_pos hx
    have hX : stX u t x = [stA u t, stC u (t + 1), stS u 3 x] := by unfold stX; rw [hk3]
    rw [decide_eq_true hx] at d2
    have hl3 : (stG3 u x t true).es.length = 1 := rfl
    have f1 : (stA u t).kd = 1 := rfl
    have f2 : (stC u (t + 1)).kd = 3 := rfl
    have f3 : (stC u (t + 1)).tm = t + 1 := rfl
    have f4 : (stS u 3 x).ix = 2 := rfl
    have f5 : (stS u 3 x).tm = t + 2 := hx
    have f6 : (stS u 3 x).kd = 3 := rfl
    have g1 : (stG3 u x t true).fi = 3 := rfl
    have g2 : (stG3 u x t true).tm = t + 2 := hx
    repeat (first | simp -dsimp -implicitDefEqProofs (disch := first | omega | (simp <;> omega) | fail) [wu, wt, w1, w2, w3, w9] | ((with_reducible first | apply m_1 | apply m_0); (focus ((conv => lhs; simp -dsimp -implicitDefEqProofs (disch := first | omega | (simp <;> omega) | fail) [wu, wt, w1, w2, w3, w9]); done))) | ((with_reducible first | apply i_T | apply g_T); (focus (simp -dsimp -implicitDefEqProofs (disch := first | omega | (simp <;> omega) | fail) [wu, wt, w1, w2, w3, w9]; done))) | ((with_reducible first | apply i_F | apply g_F); (focus (simp -dsimp -implicitDefEqProofs (disch := first | omega | (simp <;> omega) | fail) [wu, wt, w1, w2, w3, w9]; done))))
    refine giv (MkI.settleR (l := stL u t x) ((i1.alloc _).alloc _) ok0 (by simp [stL]) (by simp [stL]) (by simp [stL, stA, stC, stS])) (by subst hx; first | rfl | (simp; rfl)) ?_
    rw [hout, hX]
    repeat (first | simp -dsimp -implicitDefEqProofs (disch := first | omega | (simp <;> omega) | fail) [wt, w1, w2, w9, f1, f2, f3, f4, f5, f6] | ((with_reducible first | apply m_1 | apply m_0); (focus ((conv => lhs; simp -dsimp -implicitDefEqProofs (disch := first | omega | (simp <;> omega) | fail) [wt, w1, w2, w9, f1, f2, f3, f4, f5, f6]); done))) | ((with_reducible first | apply i_T | apply g_T); (focus (simp -dsimp -implicitDefEqProofs (disch := first | omega | (simp <;> omega) | fail) [wt, w1, w2, w9, f1, f2, f3, f4, f5, f6]; done))) | ((with_reducible first | apply i_F | apply g_F); (focus (simp -dsimp -implicitDefEqProofs (disch := first | omega | (simp <;> omega) | fail) [wt, w1, w2, w9, f1, f2, f3, f4, f5, f6]; done))))
    refine giv (MkI.allR ((i1.alloc _).alloc _) ok0 (by omega)) (by simp) ?_
    rw [show grpsM [] = [] from rfl]
    repeat (first | simp -dsimp -implicitDefEqProofs (disch := first | omega | (simp <;> omega) | fail) [f6] | ((with_reducible first | apply m_1 | apply m_0); (focus ((conv => lhs; simp -dsimp -implicitDefEqProofs (disch := first | omega | (simp <;> omega) | fail) [f6]); done))) | ((with_reducible first | apply i_T | apply g_T); (focus (simp -dsimp -implicitDefEqProofs (disch := first | omega | (simp <;> omega) | fail) [f6]; done))) | ((with_reducible first | apply i_F | apply g_F); (focus (simp -dsimp -implicitDefEqProofs (disch := first | omega | (simp <;> omega) | fail) [f6]; done))))
    refine runU (((i1.alloc _).alloc _).doR ok0 (l := stX u t x) (by simp [stX]) (by simp [stX]) (by simp [stX, stA, stC, stS])) (by rw [hX]; first | (simp; done) | rfl | (simp; rfl)) ?_
    rw [d1, d2]
    rintro _ s2 ⟨rfl, mb2, i2, k2, n2, -⟩
    simp at k2 n2
    have ok2 : ManyOk 24 [(u, stG3 u x t true)] := by rw [← d2]; exact (ok0.doM _).more (by omega)
    have c1 : s2.get (s1.n + 1) = .cells [.v (.int .i64 u), .v (.int .i64 4), .sl [] .zero, .v (.int .i64 0), .v (.int .i64 0), .v (.int .i64 0), .v (.int .i64 2), .v (.int .i64 (t + 2)), .v (.bool false), .v (.bool false)] := (k2 _ (by omega) (by omega)).trans (by simp (disch := first | omega | (simp <;> omega) | fail))
    repeat (first | simp -dsimp -implicitDefEqProofs (disch := first | omega | (simp <;> omega) | fail) [wu] | ((with_reducible first | apply m_1 | apply m_0); (focus ((conv => lhs; simp -dsimp -implicitDefEqProofs (disch := first | omega | (simp <;> omega) | fail) [wu]); done))) | ((with_reducible first | apply i_T | apply g_T); (focus (simp -dsimp -implicitDefEqProofs (disch := first | omega | (simp <;> omega) | fail) [wu]; done))) | ((with_reducible first | apply i_F | apply g_F); (focus (simp -dsimp -implicitDefEqProofs (disch := first | omega | (simp <;> omega) | fail) [wu]; done))))
    refine giv (MkI.getR (i := u) i2 ok2 (by omega)) (by simp) ?_
    rw [st_lk, show Option.getD (some (stG3 u x t true)) zeroG' = stG3 u x t true from rfl]
    have c2 : (stS u 4 x).tm = t + 2 := hx
    repeat (first | simp -dsimp -implicitDefEqProofs (disch := first | omega | (simp <;> omega) | fail) [c1, c2, g1, g2, hl3] | ((with_reducible first | apply m_1 | apply m_0); (focus ((conv => lhs; simp -dsimp -implicitDefEqProofs (disch := first | omega | (simp <;> omega) | fail) [c1, c2, g1, g2, hl3]); done))) | ((with_reducible first | apply i_T | apply g_T); (focus (simp -dsimp -implicitDefEqProofs (disch := first | omega | (simp <;> omega) | fail) [c1, c2, g1, g2, hl3]; done))) | ((with_reducible first | apply i_F | apply g_F); (focus (simp -dsimp -implicitDefEqProofs (disch := first | omega | (simp <;> omega) | fail) [c1, c2, g1, g2, hl3]; done))))
    refine ret_ok rfl ⟨⟨by have := i2.n; simp; omega, fun y hy => .inl ?_⟩, .refl _⟩
    simp (disch := first | omega | (simp <;> omega) | fail) [i2.old y hy]
  | false =>
    obtain ⟨x, hx⟩ : ∃ x, x = t + 9 := ⟨_, rfl⟩
    have hout := st_out hu ht (x := x) (.inr hx)
    obtain ⟨d1, d2⟩ := st_do hu ht (x := x) (.inr hx)
    have hk3 : (if x = t + 2 then 3 else 4 : Int) = 4 := if_neg (by omega)
    have hX : stX u t x = [stA u t, stC u (t + 1), stS u 4 x] := by unfold stX; rw [hk3]
    rw [decide_eq_false (by omega : ¬ x = t + 2)] at d2
    have hl3 : (stG3 u x t false).es.length = 0 := rfl
    have f1 : (stA u t).kd = 1 := rfl
    have f2 : (stC u (t + 1)).kd = 3 := rfl
    have f3 : (stC u (t + 1)).tm = t + 1 := rfl
    have f4 : (stS u 4 x).ix = 2 := rfl
    have f5 : (stS u 4 x).tm = t + 9 := hx
    have f6 : (stS u 4 x).kd = 4 := rfl
    have g1 : (stG3 u x t false).fi = 3 := rfl
    have g2 : (stG3 u x t false).tm = t + 9 := hx
    repeat (first | simp -dsimp -implicitDefEqProofs (disch := first | omega | (simp <;> omega) | fail) [wu, wt, w1, w2, w3, w9] | ((with_reducible first | apply m_1 | apply m_0); (focus ((conv => lhs; simp -dsimp -implicitDefEqProofs (disch := first | omega | (simp <;> omega) | fail) [wu, wt, w1, w2, w3, w9]); done))) | ((with_reducible first | apply i_T | apply g_T); (focus (simp -dsimp -implicitDefEqProofs (disch := first | omega | (simp <;> omega) | fail) [wu, wt, w1, w2, w3, w9]; done))) | ((with_reducible first | apply i_F | apply g_F); (focus (simp -dsimp -implicitDefEqProofs (disch := first | omega | (simp <;> omega) | fail) [wu, wt, w1, w2, w3, w9]; done))))
    refine giv (MkI.settleR (l := stL u t x) ((i1.alloc _).alloc _) ok0 (by simp [stL]) (by simp [stL]) (by simp [stL, stA, stC, stS])) (by subst hx; first | rfl | (simp; rfl)) ?_
    rw [hout, hX]
    repeat (first | simp -dsimp -implicitDefEqProofs (disch := first | omega | (simp <;> omega) | fail) [wt, w1, w2, w9, f1, f2, f3, f4, f5, f6] | ((with_reducible first | apply m_1 | apply m_0); (focus ((conv => lhs; simp -dsimp -implicitDefEqProofs (disch := first | omega | (simp <;> omega) | fail) [wt, w1, w2, w9, f1, f2, f3, f4, f5, f6]); done))) | ((with_reducible first | apply i_T | apply g_T); (focus (simp -dsimp -implicitDefEqProofs (disch := first | omega | (simp <;> omega) | fail) [wt, w1, w2, w9, f1, f2, f3, f4, f5, f6]; done))) | ((with_reducible first | apply i_F | apply g_F); (focus (simp -dsimp -implicitDefEqProofs (disch := first | omega | (simp <;> omega) | fail) [wt, w1, w2, w9, f1, f2, f3, f4, f5, f6]; done))))
    refine giv (MkI.allR ((i1.alloc _).alloc _) ok0 (by omega)) (by simp) ?_
    rw [show grpsM [] = [] from rfl]
    repeat (first | simp -dsimp -implicitDefEqProofs (disch := first | omega | (simp <;> omega) | fail) [f6] | ((with_reducible first | apply m_1 | apply m_0); (focus ((conv => lhs; simp -dsimp -implicitDefEqProofs (disch := first | omega | (simp <;> omega) | fail) [f6]); done))) | ((with_reducible first | apply i_T | apply g_T); (focus (simp -dsimp -implicitDefEqProofs (disch := first | omega | (simp <;> omega) | fail) [f6]; done))) | ((with_reducible first | apply i_F | apply g_F); (focus (simp -dsimp -implicitDefEqProofs (disch := first | omega | (simp <;> omega) | fail) [f6]; done))))
    refine runU (((i1.alloc _).alloc _).doR ok0 (l := stX u t x) (by simp [stX]) (by simp [stX]) (by simp [stX, stA, stC, stS])) (by rw [hX]; first | (simp; done) | rfl | (simp; rfl)) ?_
    rw [d1, d2]
    rintro _ s2 ⟨rfl, mb2, i2, k2, n2, -⟩
    simp at k2 n2
    have ok2 : ManyOk 24 [(u, stG3 u x t false)] := by rw [← d2]; exact (ok0.doM _).more (by omega)
    have c1 : s2.get (s1.n + 1) = .cells [.v (.int .i64 u), .v (.int .i64 4), .sl [] .zero, .v (.int .i64 0), .v (.int .i64 0), .v (.int .i64 0), .v (.int .i64 2), .v (.int .i64 (t + 9)), .v (.bool false), .v (.bool false)] := (k2 _ (by omega) (by omega)).trans (by simp (disch := first | omega | (simp <;> omega) | fail))
    refine st1 wu ?_
    refine giv (MkI.getR (i := u) i2 ok2 (by omega)) (by simp) ?_
    rw [st_lk, show Option.getD (some (stG3 u x t false)) zeroG' = stG3 u x t false from rfl]
    have c2 : (stS u 4 x).tm = t + 9 := hx
    refine st5 c1 c2 g1 g2 hl3 ?_
    refine ret_ok rfl ⟨⟨by have := i2.n; simp; omega, fun y hy => .inl ?_⟩, .refl _⟩
    simp (disch := first | omega | (simp <;> omega) | fail) [i2.old y hy]
end Go.Proofs.Ytmfhchaoijiodaa
end
