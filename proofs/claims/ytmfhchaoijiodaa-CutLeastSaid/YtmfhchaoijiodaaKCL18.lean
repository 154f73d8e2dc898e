/- Going on. -/
import Derived.Shelf.SlGeneric
import Derived.Ground.GgzProg
import Derived.Ground.SlgmProg
import Derived.Ground.SlmcProg
import Derived.Shelf.SlIterI.Nil
import Derived.Shelf.SlMaps.Clone
import Derived.Shelf.SortM.Plain
import Derived.Shelf.SortM.SortNone
import Derived.Test.YtmfhchaoijiodaaKCL17
section
namespace Go.Proofs
open Go.Shelf
def Try.sh_slices_Sorted_int_ren : Go.Shelf.Ren := ⟨fun | 6 => 22 | 8 => 36 | 9 => 37 | 11 => 54 | 13 => 56 | 12 => 55 | 23 => 81 | 24 => 82 | 14 => 72 | 15 => 73 | 16 => 74 | 17 => 75 | 18 => 76 | 19 => 77 | 20 => 78 | 21 => 79 | 22 => 80 | 25 => 90 | 26 => 91 | 27 => 92 | 28 => 93 | 29 => 94 | 30 => 95 | 31 => 100 | n => n, fun | 26 => 3 | 28 => 59 | 24 => 61 | 0 => 0 | 3 => 3 | 37 => 100 | 48 => 124 | 50 => 126 | 4 => 4 | 40 => 117 | 39 => 116 | 45 => 33 | 5 => 5 | 9 => 9 | 51 => 133 | 55 => 137 | 57 => 143 | 58 => 144 | 33 => 75 | n => n, fun | n => n⟩
theorem Try.sh_slices_Sorted_int : Go.Proofs.SlLaysZI.n6 Try.prog Try.sh_slices_Sorted_int_ren := {
  mixed := by kernel_rfl
  f6 := ⟨Try.f22.name, by decide, Try.func22.trans (congrArg some (by kernel_rfl))⟩
  f8 := ⟨Try.f36.name, by decide, Try.func36.trans (congrArg some (by kernel_rfl))⟩
  f11 := ⟨Try.f54.name, by decide, Try.func54.trans (congrArg some (by kernel_rfl))⟩
  t0 := Try.underlying0
  a0 := Try.isAgg0
  z0 := Try.sizeOf0
  v0 := Try.zeroValue0
  t24 := Try.underlying61
  a24 := Try.isAgg61
  z24 := Try.sizeOf61
  v24 := Try.zeroValue61
  t26 := Try.underlying3
  a26 := Try.isAgg3
  z26 := Try.sizeOf3
  v26 := Try.zeroValue3
  t28 := Try.underlying59
  a28 := Try.isAgg59
  z28 := Try.sizeOf59
  v28 := Try.zeroValue59
  i26 := by kernel_rfl }
def Try.sh_maps_Keys_Group_ren : Go.Shelf.Ren := ⟨fun | 7 => 23 | 10 => 38 | n => n, fun | 23 => 50 | 26 => 3 | 3 => 42 | 28 => 59 | 0 => 0 | 27 => 58 | 33 => 75 | 4 => 4 | n => n, fun | n => n⟩
theorem Try.sh_maps_Keys_Group : Go.Proofs.SlLaysZI.n7 Try.prog Try.sh_maps_Keys_Group_ren := {
  mixed := by kernel_rfl
  f7 := ⟨Try.f23.name, by decide, Try.func23.trans (congrArg some (by kernel_rfl))⟩
  f10 := ⟨Try.f38.name, by decide, Try.func38.trans (congrArg some (by kernel_rfl))⟩
  t0 := Try.underlying0
  a0 := Try.isAgg0
  z0 := Try.sizeOf0
  v0 := Try.zeroValue0
  t4 := Try.underlying4
  a4 := Try.isAgg4
  z4 := Try.sizeOf4
  v4 := Try.zeroValue4
  t23 := Try.underlying50
  a23 := Try.isAgg50
  z23 := Try.sizeOf50
  v23 := Try.zeroValue50
  t26 := Try.underlying3
  a26 := Try.isAgg3
  z26 := Try.sizeOf3
  v26 := Try.zeroValue3
  t27 := Try.underlying58
  a27 := Try.isAgg58
  z27 := Try.sizeOf58
  v27 := Try.zeroValue58
  t28 := Try.underlying59
  a28 := Try.isAgg59
  z28 := Try.sizeOf59
  v28 := Try.zeroValue59
  t33 := Try.underlying75
  a33 := Try.isAgg75
  z33 := Try.sizeOf75
  v33 := Try.zeroValue75 }
def Try.sh_slices_Sort_int_ren : Go.Shelf.Ren := ⟨fun | 5 => 37 | 8 => 56 | 7 => 55 | 19 => 81 | 20 => 82 | 10 => 72 | 11 => 73 | 12 => 74 | 13 => 75 | 14 => 76 | 15 => 77 | 16 => 78 | 17 => 79 | 18 => 80 | 30 => 90 | 31 => 91 | 32 => 92 | 33 => 93 | 34 => 94 | 35 => 95 | 40 => 100 | n => n, fun | 23 => 61 | 25 => 3 | 3 => 3 | 32 => 100 | 22 => 61 | 0 => 0 | 44 => 124 | 46 => 126 | 4 => 4 | 36 => 117 | 35 => 116 | 41 => 33 | 5 => 5 | 9 => 9 | 53 => 133 | 57 => 137 | 63 => 143 | 64 => 144 | n => n, fun | n => n⟩
theorem Try.sh_slices_Sort_int : Go.Proofs.SlLaysM.n5 Try.prog Try.sh_slices_Sort_int_ren := {
  mixed := by kernel_rfl
  f5 := ⟨Try.f37.name, by decide, Try.func37.trans (congrArg some (by kernel_rfl))⟩
  f7 := ⟨Try.f55.name, by decide, Try.func55.trans (congrArg some (by kernel_rfl))⟩
  f8 := Try.func56.trans (congrArg some (by kernel_rfl))
  f10 := ⟨Try.f72.name, by decide, Try.func72.trans (congrArg some (by kernel_rfl))⟩
  f11 := ⟨Try.f73.name, by decide, Try.func73.trans (congrArg some (by kernel_rfl))⟩
  f12 := ⟨Try.f74.name, by decide, Try.func74.trans (congrArg some (by kernel_rfl))⟩
  f13 := ⟨Try.f75.name, by decide, Try.func75.trans (congrArg some (by kernel_rfl))⟩
  f14 := ⟨Try.f76.name, by decide, Try.func76.trans (congrArg some (by kernel_rfl))⟩
  f15 := ⟨Try.f77.name, by decide, Try.func77.trans (congrArg some (by kernel_rfl))⟩
  f16 := ⟨Try.f78.name, by decide, Try.func78.trans (congrArg some (by kernel_rfl))⟩
  f17 := ⟨Try.f79.name, by decide, Try.func79.trans (congrArg some (by kernel_rfl))⟩
  f18 := ⟨Try.f80.name, by decide, Try.func80.trans (congrArg some (by kernel_rfl))⟩
  f19 := Try.func81.trans (congrArg some (by kernel_rfl))
  f20 := Try.func82.trans (congrArg some (by kernel_rfl))
  f30 := ⟨Try.f90.name, by decide, Try.func90.trans (congrArg some (by kernel_rfl))⟩
  f31 := Try.func91.trans (congrArg some (by kernel_rfl))
  f32 := Try.func92.trans (congrArg some (by kernel_rfl))
  f33 := ⟨Try.f93.name, by decide, Try.func93.trans (congrArg some (by kernel_rfl))⟩
  f34 := ⟨Try.f94.name, by decide, Try.func94.trans (congrArg some (by kernel_rfl))⟩
  f35 := ⟨Try.f95.name, by decide, Try.func95.trans (congrArg some (by kernel_rfl))⟩
  f40 := ⟨Try.f100.name, by decide, Try.func100.trans (congrArg some (by kernel_rfl))⟩
  t0 := Try.underlying0
  a0 := Try.isAgg0
  z0 := Try.sizeOf0
  v0 := Try.zeroValue0
  t3 := Try.underlying3
  a3 := Try.isAgg3
  z3 := Try.sizeOf3
  v3 := Try.zeroValue3
  t4 := Try.underlying4
  a4 := Try.isAgg4
  z4 := Try.sizeOf4
  v4 := Try.zeroValue4
  t5 := Try.underlying5
  a5 := Try.isAgg5
  z5 := Try.sizeOf5
  v5 := Try.zeroValue5
  t9 := Try.underlying9
  a9 := Try.isAgg9
  z9 := Try.sizeOf9
  v9 := Try.zeroValue9
  t22 := Try.underlying61
  a22 := Try.isAgg61
  z22 := Try.sizeOf61
  v22 := Try.zeroValue61
  t23 := Try.underlying61
  a23 := Try.isAgg61
  z23 := Try.sizeOf61
  v23 := Try.zeroValue61
  t25 := Try.underlying3
  a25 := Try.isAgg3
  z25 := Try.sizeOf3
  v25 := Try.zeroValue3
  t32 := Try.underlying100
  a32 := Try.isAgg100
  z32 := Try.sizeOf100
  v32 := Try.zeroValue100
  t35 := Try.underlying116
  a35 := Try.isAgg116
  z35 := Try.sizeOf116
  v35 := Try.zeroValue116
  t36 := Try.underlying117
  a36 := Try.isAgg117
  z36 := Try.sizeOf117
  v36 := Try.zeroValue117
  t41 := Try.underlying33
  a41 := Try.isAgg33
  z41 := Try.sizeOf33
  v41 := Try.zeroValue33
  t44 := Try.underlying124
  a44 := Try.isAgg124
  z44 := Try.sizeOf124
  v44 := Try.zeroValue124
  t46 := Try.underlying126
  a46 := Try.isAgg126
  z46 := Try.sizeOf126
  v46 := Try.zeroValue126
  t53 := Try.underlying133
  a53 := Try.isAgg133
  z53 := Try.sizeOf133
  v53 := Try.zeroValue133
  t57 := Try.underlying137
  a57 := Try.isAgg137
  z57 := Try.sizeOf137
  v57 := Try.zeroValue137
  t63 := Try.underlying143
  a63 := Try.isAgg143
  z63 := Try.sizeOf143
  v63 := Try.zeroValue143
  t64 := Try.underlying144
  a64 := Try.isAgg144
  z64 := Try.sizeOf144
  v64 := Try.zeroValue144 }
def Try.sh_maps_Clone_Group_ren : Go.Shelf.Ren := ⟨fun | 5 => 39 | 7 => 57 | n => n, fun | 23 => 50 | 25 => 3 | 3 => 42 | 4 => 4 | 20 => 20 | n => n, fun | n => n⟩
theorem Try.sh_maps_Clone_Group : Go.Proofs.SlLaysW.n5 Try.prog Try.sh_maps_Clone_Group_ren := {
  mixed := by kernel_rfl
  f5 := ⟨Try.f39.name, by decide, Try.func39.trans (congrArg some (by kernel_rfl))⟩
  f7 := Try.func57.trans (congrArg some (by kernel_rfl))
  t4 := Try.underlying4
  a4 := Try.isAgg4
  z4 := Try.sizeOf4
  v4 := Try.zeroValue4
  t20 := Try.underlying20
  a20 := Try.isAgg20
  z20 := Try.sizeOf20
  v20 := Try.zeroValue20
  t23 := Try.underlying50
  a23 := Try.isAgg50
  z23 := Try.sizeOf50
  v23 := Try.zeroValue50 }
end Go.Proofs
end
section
namespace Go.Proofs.Ytmfhchaoijiodaa
open Go.Ab Go.Maps
set_option linter.unusedVariables false
set_option linter.unusedSimpArgs false
set_option maxRecDepth 100000
set_option maxHeartbeats 4000000
theorem sortsI (m : Nat) : AnyZI.SortsIn Try.prog Try.sh_slices_Sorted_int_ren Fence.wide m :=
  ⟨fun blk off cap ss W hH hblk hsz => callsIn_wide.2 (AnyM.slices_Sort_int Try.sh_slices_Sort_int blk off cap ss W hH hblk hsz),
   fun p cap W => callsIn_wide.2 (AnyM.slices_Sort_int_none Try.sh_slices_Sort_int p cap W)⟩
theorem ct_sorted_Group {β : Type} {s : AState} {cb b : Nat} {enc : β → AV} {A B : List (Int × β)} (hcb : s.get cb = .cells [.m b]) (hb : s.get b = .map (encM enc A)) (hAB : Rep A B)
    (hw : ∀ x ∈ B, -9223372036854775808 ≤ x.1 ∧ x.1 < 9223372036854775808) (hlen : B.length * 8 ≤ 140737488355328) :
    Gives prog F_slices_Sorted_int [.f (.func F_maps_Keys_Group_1) [] [.p cb 0]] s (.sl ((B.map (·.1)).map fun n => .v (.int .i64 n)) .no) s := by
  refine Runs.sorted (kt := Try.sh_maps_Keys_Group_ren.t 26) (T := Try.sh_slices_Sorted_int_ren.t 26) (enters_of Try.func22 (by kernel_rfl) rfl) hcb hb hAB hw Try.sh_maps_Keys_Group.t26 hlen ?_
  intro w Bm r D0 hc hlt hown hsz
  have hseq := AnyZI.keys_gives (ρ := Try.sh_maps_Keys_Group_ren) { Try.sh_maps_Keys_Group with } Fence.wide 2 trivial rfl (by omega) Bm r _ D0 w hlt hc hown
  have := AnyZI.sorted_in Try.sh_slices_Sorted_int Fence.wide 5 trivial trivial trivial trivial rfl (by omega) (sortsI _) (enters_of Try.func37 (by kernel_rfl) rfl) F_maps_Keys_Group_1 #[.pointer (some ⟨Bm, 0, none⟩)] trivial (enters_of Try.func38 (by kernel_rfl) rfl) _ (Maps.size D0)
    (by have e : maxLen = 9223372036854775807 := rfl; omega) (by omega) w hseq
  exact (callsIn_wide (n := 5)).1 this
theorem ct_maps_Keys_Group {b : Nat} {s : AState} : Gives prog F_maps_Keys_Group [.m b] s (.f (.func F_maps_Keys_Group_1) [] [.p s.n 0]) (s.alloc (.cells [.m b])) := by
  refine runs_e h_maps_Keys_Group (Nat.le_of_ble_eq_true rfl) ?_
  refine st0 ?_
  exact ret_ok rfl ⟨rfl, rfl⟩
theorem ct_maps_Clone_Group {κ β : Type} [DecidableEq κ] [KE κ] {s : AState} {b : Nat} {enc : β → AV} {A : List (κ × β)} (hb : s.get b = .map (encM enc A)) : Gives prog F_maps_Clone_Group [.m b] s (.m s.n) (s.alloc (.map (encM enc A))) :=
  Runs.clone (enters_of Try.func39 (by kernel_rfl) rfl) hb fun w r es clock h => AnyW.maps_Clone Try.sh_maps_Clone_Group r es clock w h
theorem ct_slices_Clone_Entry {es : List Ent} {s : AState} (hlen : es.length * 32 ≤ 140737488355328) : Gives prog F_slices_Clone_Entry [.sl (es.map Ent.av) .no] s (.sl (es.map Ent.av) .no) s := by
  refine Runs.gives' (runs_e h_slices_Clone_Entry (Nat.le_of_ble_eq_true rfl) ?_) (flat_sl Ent.row _)
  refine st0 ?_
  refine i_N (fun hne => ?_) (fun hne b => ?_)
  · refine st0 ?_
    refine m_app (xs := []) (tk := .zero) (B := s) (N := s.n) (by simp) (by simp; exact ⟨rfl, rfl⟩) (Grows.refl s) (Nat.le_refl _) (Nat.le_refl _) trivial (by simp) (by simp) (by simp; omega) (by simp; omega) ?_
    intro s' tk2 hg hm _ _
    refine st0 ?_
    exact ret_ok rfl ⟨hg, by simpa using AV.le_no _ _⟩
  · have : es = [] := by simpa using hne
    subst this
    cases b
    · refine st0 ?_
      exact ret_ok rfl ⟨Grows.refl _, AV.le_no _ _⟩
    · refine st0 ?_
      exact ret_ok rfl ⟨Grows.refl _, AV.le_no _ _⟩
end Go.Proofs.Ytmfhchaoijiodaa
end
section
namespace Go.Ab
set_option linter.unusedVariables false
structure ManyAt (s : AState) (b mb : Nat) (A M : List (Int × Grp)) : Prop where
  b : s.get b = .cells [.m mb]
  m : s.get mb = .map (encM Grp.av A)
  r : Rep A M
theorem ManyAt.keep {s s' : AState} {b mb : Nat} {A M : List (Int × Grp)} (h : ManyAt s b mb A M) (k : ∀ x, x = b ∨ x = mb → s'.get x = s.get x) : ManyAt s' b mb A M :=
  ⟨(k b (.inl rfl)).trans h.b, (k mb (.inr rfl)).trans h.m, h.r⟩
theorem ManyAt.lt {s : AState} {b mb : Nat} {A M : List (Int × Grp)} (h : ManyAt s b mb A M) : b < s.n ∧ mb < s.n ∧ b ≠ mb :=
  ⟨AState.lt_of_get h.b (by simp), AState.lt_of_get h.m (by simp), fun e => by have h1 := h.b; have h2 := h.m; rw [e, h2] at h1; cases h1⟩
def zeroG' : Grp := ⟨0, 0, 0, 0, 0, 0, []⟩
end Go.Ab
namespace Go.Proofs.Ytmfhchaoijiodaa
open Go.Ab
set_option linter.unusedVariables false
set_option linter.unusedSimpArgs false
set_option maxRecDepth 100000
set_option maxHeartbeats 1000000
theorem rn_many_New {s : AState} : Runs (compCode prog) prog F_many_New [] s (fun x s' => x = .p (s.n + 1) 0 ∧ s' = (s.alloc (.map [])).alloc (.cells [.m s.n])) := by
  refine runs_e h_many_New (Nat.le_of_ble_eq_true rfl) ?_
  refine st0 ?_
  exact ret_ok rfl ⟨rfl, rfl⟩
theorem ct_many_copied {g : Grp} {s : AState} (hl : g.es.length * 32 ≤ 140737488355328) : Gives prog F_many_copied [g.av] s g.av s := by
  refine Runs.gives' (runs_e h_many_copied (Nat.le_of_ble_eq_true rfl) ?_) (Grp.row _).flat
  refine st0 ?_
  refine gv (ct_slices_Clone_Entry (es := g.es) hl) ?_
  refine st0 ?_
  refine ret_ok (by simp; rfl) ⟨((Grows.refl _).alloc _).alloc _, ?_⟩
  simp [retVal]; exact .refl _
theorem rn_many_Many_Copy {b mb : Nat} {A M : List (Int × Grp)} {s : AState} (h : ManyAt s b mb A M) : Runs (compCode prog) prog F_many_Many_Copy [.p b 0] s (fun x s' => x = .p (s.n + 1) 0 ∧ s' = (s.alloc (.map (encM Grp.av A))).alloc (.cells [.m s.n])) := by
  refine runs_e h_many_Many_Copy (Nat.le_of_ble_eq_true rfl) ?_
  obtain ⟨lb, lm, lne⟩ := h.lt
  obtain ⟨h1, h2, h3⟩ := h
  repeat (first | simp -dsimp -implicitDefEqProofs (disch := first | omega | (simp <;> omega) | fail) [h1] | ((with_reducible first | apply m_1 | apply m_0); (focus ((conv => lhs; simp -dsimp -implicitDefEqProofs (disch := first | omega | (simp <;> omega) | fail) [h1]); done))) | ((with_reducible first | apply i_T | apply g_T); (focus (simp -dsimp -implicitDefEqProofs (disch := first | omega | (simp <;> omega) | fail) [h1]; done))) | ((with_reducible first | apply i_F | apply g_F); (focus (simp -dsimp -implicitDefEqProofs (disch := first | omega | (simp <;> omega) | fail) [h1]; done))))
  refine gv (ct_maps_Clone_Group (A := A) (enc := Grp.av) (b := mb) h2) ?_
  refine st0 ?_
  exact ret_ok rfl ⟨rfl, rfl⟩
theorem rn_many_Many_one {b mb : Nat} {A M : List (Int × Grp)} {p : Prt} {s : AState} {B : Nat} (h : ManyAt s b mb A M) (hM : ManyOk B M) (hB : B ≤ 1000000) (hp : isPart p = true) :
    Runs (compCode prog) prog F_many_Many_one [.p b 0, p.av] s (fun x s' => x = .v (.int .i64 (errM M p)) ∧ Mut [mb] [] s s' ∧ ∃ A', ManyAt s' b mb A' (oneM M p)) := by
  refine runs_e h_many_Many_one (Nat.le_of_ble_eq_true rfl) ?_
  obtain ⟨lb, lm, lne⟩ := h.lt
  obtain ⟨h1, h2, h3⟩ := h
  have hO := okP hp
  have hl6 := hO.len
  repeat (first | simp -dsimp -implicitDefEqProofs (disch := first | omega | (simp <;> omega) | fail) [h1] | (with_reducible apply m_draw) | ((with_reducible refine ⟨m_op ?_, ?_⟩); (focus (simp -dsimp -implicitDefEqProofs (disch := first | omega | (simp <;> omega) | fail) [h1]; done))) | ((with_reducible first | apply m_d1 rfl | apply m_dE | apply m_dE0); (focus ((conv => lhs; simp -dsimp -implicitDefEqProofs (disch := first | omega | (simp <;> omega) | fail) [h1]); done))) | ((with_reducible first | apply m_1 | apply m_0); (focus ((conv => lhs; simp -dsimp -implicitDefEqProofs (disch := first | omega | (simp <;> omega) | fail) [h1]); done))) | ((with_reducible first | apply i_T | apply g_T | apply h_T); (focus (simp -dsimp -implicitDefEqProofs (disch := first | omega | (simp <;> omega) | fail) [h1]; done))) | ((with_reducible first | apply i_F | apply g_F | apply h_F); (focus (simp -dsimp -implicitDefEqProofs (disch := first | omega | (simp <;> omega) | fail) [h1]; done))))
  refine q_look (κ := Int) (A := A) (enc := Grp.av) (k := p.gr) (b := mb) (by simp) (by simp (disch := first | omega | (simp <;> omega) | fail) [h2]) (by simp; rfl) ?_
  unfold lkV errM oneM
  rw [h3.lk]
  cases hk : lk M p.gr with
  | none =>
    have hg := newG_ok (i := p.gr) hO.gr
    by_cases k35 : p.kd = 3 ∨ p.kd = 5
    · rw [if_pos k35]
      simp only [if_pos k35]
      have out : ∀ s', (∀ x, x < s.n → s'.get x = s.get x) → s.n ≤ s'.n → AV.v (.int .i64 13) = .v (.int .i64 13) ∧ Mut [mb] [] s s' ∧ ∃ A', ManyAt s' b mb A' M := fun s' k n =>
        ⟨rfl, ⟨n, fun x hx _ => k x hx, by simp⟩, A, (⟨h1, h2, h3⟩ : ManyAt s b mb A M).keep fun x hx => by rcases hx with rfl | rfl <;> exact k _ (by assumption)⟩
      rcases k35 with k3 | k3
      · repeat (first | simp -dsimp -implicitDefEqProofs (disch := first | omega | (simp <;> omega) | fail) [k3] | (with_reducible apply m_draw) | ((with_reducible refine ⟨m_op ?_, ?_⟩); (focus (simp -dsimp -implicitDefEqProofs (disch := first | omega | (simp <;> omega) | fail) [k3]; done))) | ((with_reducible first | apply m_d1 rfl | apply m_dE | apply m_dE0); (focus ((conv => lhs; simp -dsimp -implicitDefEqProofs (disch := first | omega | (simp <;> omega) | fail) [k3]); done))) | ((with_reducible first | apply m_1 | apply m_0); (focus ((conv => lhs; simp -dsimp -implicitDefEqProofs (disch := first | omega | (simp <;> omega) | fail) [k3]); done))) | ((with_reducible first | apply i_T | apply g_T | apply h_T); (focus (simp -dsimp -implicitDefEqProofs (disch := first | omega | (simp <;> omega) | fail) [k3]; done))) | ((with_reducible first | apply i_F | apply g_F | apply h_F); (focus (simp -dsimp -implicitDefEqProofs (disch := first | omega | (simp <;> omega) | fail) [k3]; done))))
        refine ⟨.of_ext (AState.ext_alloc _ _), ?_⟩
        repeat (first | simp -dsimp -implicitDefEqProofs (disch := first | omega | (simp <;> omega) | fail) [k3] | (with_reducible apply m_draw) | ((with_reducible refine ⟨m_op ?_, ?_⟩); (focus (simp -dsimp -implicitDefEqProofs (disch := first | omega | (simp <;> omega) | fail) [k3]; done))) | ((with_reducible first | apply m_d1 rfl | apply m_dE | apply m_dE0); (focus ((conv => lhs; simp -dsimp -implicitDefEqProofs (disch := first | omega | (simp <;> omega) | fail) [k3]); done))) | ((with_reducible first | apply m_1 | apply m_0); (focus ((conv => lhs; simp -dsimp -implicitDefEqProofs (disch := first | omega | (simp <;> omega) | fail) [k3]); done))) | ((with_reducible first | apply i_T | apply g_T | apply h_T); (focus (simp -dsimp -implicitDefEqProofs (disch := first | omega | (simp <;> omega) | fail) [k3]; done))) | ((with_reducible first | apply i_F | apply g_F | apply h_F); (focus (simp -dsimp -implicitDefEqProofs (disch := first | omega | (simp <;> omega) | fail) [k3]; done))))
        exact ret_ok rfl (out _ (fun x hx => by simp (disch := first | omega | (simp <;> omega) | fail)) (by simp <;> omega))
      · have k33 : ¬ p.kd = 3 := by omega
        repeat (first | simp -dsimp -implicitDefEqProofs (disch := first | omega | (simp <;> omega) | fail) [k3, k33] | (with_reducible apply m_draw) | ((with_reducible refine ⟨m_op ?_, ?_⟩); (focus (simp -dsimp -implicitDefEqProofs (disch := first | omega | (simp <;> omega) | fail) [k3, k33]; done))) | ((with_reducible first | apply m_d1 rfl | apply m_dE | apply m_dE0); (focus ((conv => lhs; simp -dsimp -implicitDefEqProofs (disch := first | omega | (simp <;> omega) | fail) [k3, k33]); done))) | ((with_reducible first | apply m_1 | apply m_0); (focus ((conv => lhs; simp -dsimp -implicitDefEqProofs (disch := first | omega | (simp <;> omega) | fail) [k3, k33]); done))) | ((with_reducible first | apply i_T | apply g_T | apply h_T); (focus (simp -dsimp -implicitDefEqProofs (disch := first | omega | (simp <;> omega) | fail) [k3, k33]; done))) | ((with_reducible first | apply i_F | apply g_F | apply h_F); (focus (simp -dsimp -implicitDefEqProofs (disch := first | omega | (simp <;> omega) | fail) [k3, k33]; done))))
        refine ⟨.of_ext (AState.ext_alloc _ _), ?_⟩
        repeat (first | simp -dsimp -implicitDefEqProofs (disch := first | omega | (simp <;> omega) | fail) [k3, k33] | (with_reducible apply m_draw) | ((with_reducible refine ⟨m_op ?_, ?_⟩); (focus (simp -dsimp -implicitDefEqProofs (disch := first | omega | (simp <;> omega) | fail) [k3, k33]; done))) | ((with_reducible first | apply m_d1 rfl | apply m_dE | apply m_dE0); (focus ((conv => lhs; simp -dsimp -implicitDefEqProofs (disch := first | omega | (simp <;> omega) | fail) [k3, k33]); done))) | ((with_reducible first | apply m_1 | apply m_0); (focus ((conv => lhs; simp -dsimp -implicitDefEqProofs (disch := first | omega | (simp <;> omega) | fail) [k3, k33]); done))) | ((with_reducible first | apply i_T | apply g_T | apply h_T); (focus (simp -dsimp -implicitDefEqProofs (disch := first | omega | (simp <;> omega) | fail) [k3, k33]; done))) | ((with_reducible first | apply i_F | apply g_F | apply h_F); (focus (simp -dsimp -implicitDefEqProofs (disch := first | omega | (simp <;> omega) | fail) [k3, k33]; done))))
        exact ret_ok rfl (out _ (fun x hx => by simp (disch := first | omega | (simp <;> omega) | fail)) (by simp <;> omega))
    · rw [if_neg k35]
      simp only [if_neg k35]
      have k3 : ¬ p.kd = 3 := fun e => k35 (.inl e)
      have k5 : ¬ p.kd = 5 := fun e => k35 (.inr e)
      have hes : (newG p.gr).es.length = 0 := rfl
      repeat (first | simp -dsimp -implicitDefEqProofs (disch := first | omega | (simp <;> omega) | fail) [k3, k5] | (with_reducible apply m_draw) | ((with_reducible refine ⟨m_op ?_, ?_⟩); (focus (simp -dsimp -implicitDefEqProofs (disch := first | omega | (simp <;> omega) | fail) [k3, k5]; done))) | ((with_reducible first | apply m_d1 rfl | apply m_dE | apply m_dE0); (focus ((conv => lhs; simp -dsimp -implicitDefEqProofs (disch := first | omega | (simp <;> omega) | fail) [k3, k5]); done))) | ((with_reducible first | apply m_1 | apply m_0); (focus ((conv => lhs; simp -dsimp -implicitDefEqProofs (disch := first | omega | (simp <;> omega) | fail) [k3, k5]); done))) | ((with_reducible first | apply i_T | apply g_T | apply h_T); (focus (simp -dsimp -implicitDefEqProofs (disch := first | omega | (simp <;> omega) | fail) [k3, k5]; done))) | ((with_reducible first | apply i_F | apply g_F | apply h_F); (focus (simp -dsimp -implicitDefEqProofs (disch := first | omega | (simp <;> omega) | fail) [k3, k5]; done))))
      refine ⟨.of_ext (AState.ext_alloc _ _), ?_⟩
      repeat (first | simp -dsimp -implicitDefEqProofs (disch := first | omega | (simp <;> omega) | fail) [k3, k5] | (with_reducible apply m_draw) | ((with_reducible refine ⟨m_op ?_, ?_⟩); (focus (simp -dsimp -implicitDefEqProofs (disch := first | omega | (simp <;> omega) | fail) [k3, k5]; done))) | ((with_reducible first | apply m_d1 rfl | apply m_dE | apply m_dE0); (focus ((conv => lhs; simp -dsimp -implicitDefEqProofs (disch := first | omega | (simp <;> omega) | fail) [k3, k5]); done))) | ((with_reducible first | apply m_1 | apply m_0); (focus ((conv => lhs; simp -dsimp -implicitDefEqProofs (disch := first | omega | (simp <;> omega) | fail) [k3, k5]); done))) | ((with_reducible first | apply i_T | apply g_T | apply h_T); (focus (simp -dsimp -implicitDefEqProofs (disch := first | omega | (simp <;> omega) | fail) [k3, k5]; done))) | ((with_reducible first | apply i_F | apply g_F | apply h_F); (focus (simp -dsimp -implicitDefEqProofs (disch := first | omega | (simp <;> omega) | fail) [k3, k5]; done))))
      refine giv (ct_group_New (id := p.gr)) (by first | (simp; done) | rfl | (simp; rfl)) ?_
      repeat (first | simp -dsimp -implicitDefEqProofs (disch := first | omega | (simp <;> omega) | fail) [k5, k3] | (with_reducible apply m_draw) | ((with_reducible refine ⟨m_op ?_, ?_⟩); (focus (simp -dsimp -implicitDefEqProofs (disch := first | omega | (simp <;> omega) | fail) [k5, k3]; done))) | ((with_reducible first | apply m_d1 rfl | apply m_dE | apply m_dE0); (focus ((conv => lhs; simp -dsimp -implicitDefEqProofs (disch := first | omega | (simp <;> omega) | fail) [k5, k3]); done))) | ((with_reducible first | apply m_1 | apply m_0); (focus ((conv => lhs; simp -dsimp -implicitDefEqProofs (disch := first | omega | (simp <;> omega) | fail) [k5, k3]); done))) | ((with_reducible first | apply i_T | apply g_T | apply h_T); (focus (simp -dsimp -implicitDefEqProofs (disch := first | omega | (simp <;> omega) | fail) [k5, k3]; done))) | ((with_reducible first | apply i_F | apply g_F | apply h_F); (focus (simp -dsimp -implicitDefEqProofs (disch := first | omega | (simp <;> omega) | fail) [k5, k3]; done))))
      refine giv (ct_group_Do (g := (newG p.gr)) (p := p) hg.s (by omega) (by omega)) (by first | (simp; done) | rfl | (simp; rfl)) ?_
      by_cases hc : chkG (newG p.gr) p = 0
      · have hrun : runG (newG p.gr) p = doG (newG p.gr) p := by unfold runG; rw [if_pos hc]
        repeat (first | simp -dsimp -implicitDefEqProofs (disch := first | omega | (simp <;> omega) | fail) [hc, h1, hrun] | ((with_reducible first | apply m_1 | apply m_0); (focus ((conv => lhs; simp -dsimp -implicitDefEqProofs (disch := first | omega | (simp <;> omega) | fail) [hc, h1, hrun]); done))) | ((with_reducible first | apply i_T | apply g_T); (focus (simp -dsimp -implicitDefEqProofs (disch := first | omega | (simp <;> omega) | fail) [hc, h1, hrun]; done))) | ((with_reducible first | apply i_F | apply g_F); (focus (simp -dsimp -implicitDefEqProofs (disch := first | omega | (simp <;> omega) | fail) [hc, h1, hrun]; done))))
        refine m_mset (κ := Int) (A := A) (k := p.gr) (v := doG (newG p.gr) p) (b := mb) (enc := Grp.av) (by simp) (by simp (disch := first | omega | (simp <;> omega) | fail) [h2]) (by simp; rfl) (by simp) ?_
        repeat (first | simp -dsimp -implicitDefEqProofs (disch := first | omega | (simp <;> omega) | fail) | ((with_reducible first | apply m_1 | apply m_0); (focus ((conv => lhs; simp -dsimp -implicitDefEqProofs (disch := first | omega | (simp <;> omega) | fail)); done))) | ((with_reducible first | apply i_T | apply g_T); (focus (simp -dsimp -implicitDefEqProofs (disch := first | omega | (simp <;> omega) | fail); done))) | ((with_reducible first | apply i_F | apply g_F); (focus (simp -dsimp -implicitDefEqProofs (disch := first | omega | (simp <;> omega) | fail); done))))
        refine ret_ok rfl ⟨by simp [retVal, hc], ?_, setM A p.gr (doG (newG p.gr) p), ?_⟩
        · exact ⟨by simp <;> omega, fun x hx hn => by simp only [List.mem_singleton] at hn; simp (disch := first | omega | (simp <;> omega) | fail) [hn], by simp⟩
        · rw [if_pos hc]
          exact ⟨by simp (disch := first | omega | (simp <;> omega) | fail) [h1], by simp (disch := first | omega | (simp <;> omega) | fail), h3.set _ _⟩
      · repeat (first | simp -dsimp -implicitDefEqProofs (disch := first | omega | (simp <;> omega) | fail) [hc] | ((with_reducible first | apply m_1 | apply m_0); (focus ((conv => lhs; simp -dsimp -implicitDefEqProofs (disch := first | omega | (simp <;> omega) | fail) [hc]); done))) | ((with_reducible first | apply i_T | apply g_T); (focus (simp -dsimp -implicitDefEqProofs (disch := first | omega | (simp <;> omega) | fail) [hc]; done))) | ((with_reducible first | apply i_F | apply g_F); (focus (simp -dsimp -implicitDefEqProofs (disch := first | omega | (simp <;> omega) | fail) [hc]; done))))
        refine ret_ok rfl ⟨by simp [retVal], ?_, A, ?_⟩
        · exact ⟨by simp <;> omega, fun x hx hn => by simp (disch := first | omega | (simp <;> omega) | fail), by simp⟩
        · rw [if_neg hc]
          exact ⟨by simp (disch := first | omega | (simp <;> omega) | fail) [h1], by simp (disch := first | omega | (simp <;> omega) | fail) [h2], h3⟩
  | some g =>
    have hm := lk_mem hk
    obtain ⟨hg, hi⟩ := hM.ok _ hm
    have hb := hM.len _ hm
    simp only [] at hg hi hb
    have hes : g.es.length ≤ 1000000 := by omega
    by_cases k5 : p.kd = 5
    · simp only [if_pos k5]
      repeat (first | simp -dsimp -implicitDefEqProofs (disch := first | omega | (simp <;> omega) | fail) [k5] | (with_reducible apply m_draw) | ((with_reducible refine ⟨m_op ?_, ?_⟩); (focus (simp -dsimp -implicitDefEqProofs (disch := first | omega | (simp <;> omega) | fail) [k5]; done))) | ((with_reducible first | apply m_d1 rfl | apply m_dE | apply m_dE0); (focus ((conv => lhs; simp -dsimp -implicitDefEqProofs (disch := first | omega | (simp <;> omega) | fail) [k5]); done))) | ((with_reducible first | apply m_1 | apply m_0); (focus ((conv => lhs; simp -dsimp -implicitDefEqProofs (disch := first | omega | (simp <;> omega) | fail) [k5]); done))) | ((with_reducible first | apply i_T | apply g_T | apply h_T); (focus (simp -dsimp -implicitDefEqProofs (disch := first | omega | (simp <;> omega) | fail) [k5]; done))) | ((with_reducible first | apply i_F | apply g_F | apply h_F); (focus (simp -dsimp -implicitDefEqProofs (disch := first | omega | (simp <;> omega) | fail) [k5]; done))))
      refine ⟨.of_ext (AState.ext_alloc _ _), ?_⟩
      repeat (first | simp -dsimp -implicitDefEqProofs (disch := first | omega | (simp <;> omega) | fail) [k5, h1] | (with_reducible apply m_draw) | ((with_reducible refine ⟨m_op ?_, ?_⟩); (focus (simp -dsimp -implicitDefEqProofs (disch := first | omega | (simp <;> omega) | fail) [k5, h1]; done))) | ((with_reducible first | apply m_d1 rfl | apply m_dE | apply m_dE0); (focus ((conv => lhs; simp -dsimp -implicitDefEqProofs (disch := first | omega | (simp <;> omega) | fail) [k5, h1]); done))) | ((with_reducible first | apply m_1 | apply m_0); (focus ((conv => lhs; simp -dsimp -implicitDefEqProofs (disch := first | omega | (simp <;> omega) | fail) [k5, h1]); done))) | ((with_reducible first | apply i_T | apply g_T | apply h_T); (focus (simp -dsimp -implicitDefEqProofs (disch := first | omega | (simp <;> omega) | fail) [k5, h1]; done))) | ((with_reducible first | apply i_F | apply g_F | apply h_F); (focus (simp -dsimp -implicitDefEqProofs (disch := first | omega | (simp <;> omega) | fail) [k5, h1]; done))))
      refine m_mdel0 (κ := Int) (A := A) (k := p.gr) (b := mb) (enc := Grp.av) (by simp) (by simp (disch := first | omega | (simp <;> omega) | fail) [h2]) (by simp; rfl) ?_
      refine st0 ?_
      refine ret_ok rfl ⟨rfl, ⟨by simp <;> omega, fun x hx hn => by simp only [List.mem_singleton] at hn; simp (disch := first | omega | (simp <;> omega) | fail) [hn], by simp⟩, delM A p.gr, ⟨dz1 h1, dz0, h3.del _⟩⟩
    · simp only [if_neg k5]
      have k3 : True := trivial
      refine sd1 k5 ?_
      refine ⟨.of_ext (AState.ext_alloc _ _), ?_⟩
      refine sd2 k5 k3 ?_
      refine gv (ct_group_Do (g := g) (p := p) hg.s (by omega) (by omega)) ?_
      by_cases hc : chkG g p = 0
      · have hrun : runG g p = doG g p := by unfold runG; rw [if_pos hc]
        refine st3 hc h1 hrun ?_
        refine m_mset (κ := Int) (A := A) (k := p.gr) (v := doG g p) (b := mb) (enc := Grp.av) (by simp) (dz1 h2) (by simp; rfl) (by simp) ?_
        refine st0 ?_
        refine ret_ok rfl ⟨by simp [retVal, hc], ?_, setM A p.gr (doG g p), ?_⟩
        · exact ⟨by simp <;> omega, fun x hx hn => by simp only [List.mem_singleton] at hn; simp (disch := first | omega | (simp <;> omega) | fail) [hn], by simp⟩
        · rw [if_pos hc]
          exact ⟨dz1 h1, dz0, h3.set _ _⟩
      · refine st1 hc ?_
        refine ret_ok rfl ⟨by simp [retVal], ?_, A, ?_⟩
        · exact ⟨by simp <;> omega, fun x hx hn => dz0, by simp⟩
        · rw [if_neg hc]
          exact ⟨dz1 h1, dz1 h2, h3⟩
end Go.Proofs.Ytmfhchaoijiodaa
end
section
namespace Go.Ab
set_option linter.unusedVariables false
def settledS (g : Grp) (p : Prt) : Prt :=
  match atS g.es p.ix with
  | none => p
  | some e => if p.kd = 3 then { p with tm := e.tm } else if p.kd = 4 ∧ p.tm = e.tm then { p with kd := 3 } else p
theorem at_one {l : List Ent} (h : l.Pairwise fun a b => a.ix < b.ix) (i : Int) : (l.filter (inR i (i + 1))).length ≤ 1 := by
  have h1 := h.filter (inR i (i + 1))
  have h2 : ∀ e ∈ l.filter (inR i (i + 1)), e.ix = i := fun e he => by
    have := (List.mem_filter.1 he).2
    simp [inR] at this; omega
  generalize l.filter (inR i (i + 1)) = m at h1 h2
  match m, h1, h2 with
  | [], _, _ => simp
  | [a], _, _ => simp
  | a :: b :: m, h1, h2 =>
    have e1 := h2 a (by simp)
    have e2 := h2 b (by simp)
    have := (List.pairwise_cons.1 h1).1 b (by simp)
    omega
structure StlI (s : AState) (g : Grp) (p q : Prt) (s' : AState) : Prop where
  b0 : s'.get (s.n + 1) = .cells q.cells
  b2 : ∃ cs : List AV, s'.get (s.n + 2) = .cells cs ∧ cs.length = 10
  c1 : s'.get (s.n + 3) = .cells g.cells
  c2 : s'.get (s.n + 4) = .cells [.v (.int .i64 p.ix)]
  c3 : s'.get (s.n + 5) = .cells [.v (.int .i64 (p.ix + 1))]
  g : Grows s s'
  n : s.n + 8 ≤ s'.n
end Go.Ab
namespace Go.Proofs.Ytmfhchaoijiodaa
open Go.Ab
set_option linter.unusedVariables false
set_option linter.unusedSimpArgs false
set_option maxRecDepth 100000
set_option maxHeartbeats 1000000
theorem ct_many_settled {g : Grp} {p : Prt} {s : AState} (hs : g.es.Pairwise fun a b => a.ix < b.ix) (hl : g.es.length ≤ 1000000) (hi : 0 ≤ p.ix ∧ p.ix ≤ MI) : Gives prog F_many_settled [g.av, p.av] s (settledS g p).av s := by
  have hMI := MI_eq
  refine Runs.gives' (runs_e h_many_settled (Nat.le_of_ble_eq_true rfl) ?_) (Prt.row _).flat
  have w1 : IntKind.wrap .i64 (p.ix + 1) = p.ix + 1 := wrap_i64 (by omega) (by omega)
  refine st1 w1 ?_
  refine giv (ct_group_Within (g := g) (lo := p.ix) (hi := p.ix + 1)) (by first | (simp; done) | rfl | (simp; rfl)) ?_
  repeat (first | simp -dsimp -implicitDefEqProofs (disch := first | omega | (simp <;> omega) | fail) | ((with_reducible first | apply m_1 | apply m_0); (focus ((conv => lhs; simp -dsimp -implicitDefEqProofs (disch := first | omega | (simp <;> omega) | fail)); done))) | ((with_reducible first | apply i_T | apply g_T); (focus (simp -dsimp -implicitDefEqProofs (disch := first | omega | (simp <;> omega) | fail); done))) | ((with_reducible first | apply i_F | apply g_F); (focus (simp -dsimp -implicitDefEqProofs (disch := first | omega | (simp <;> omega) | fail); done))))
  have h1 := at_one hs p.ix
  have hset : settledS g p = match (g.es.filter (inR p.ix (p.ix + 1))).head? with
    | none => p
    | some e => if p.kd = 3 then { p with tm := e.tm } else if p.kd = 4 ∧ p.tm = e.tm then { p with kd := 3 } else p := rfl
  have hit := it_group_Within (g := g) (lo := p.ix) (hi := p.ix + 1) (b1 := s.n + 3) (b2 := s.n + 4) (b3 := s.n + 5) (by omega)
  generalize hfl : g.es.filter (inR p.ix (p.ix + 1)) = fl at h1 hset hit
  have hsn : ((((((s.alloc (.cells g.cells)).alloc (.cells p.cells)).alloc (.cells [.v (.int .i64 0), .v (.int .i64 0), .sl [] .zero, .v (.int .i64 0), .v (.int .i64 0), .v (.int .i64 0), .v (.int .i64 0), .v (.int .i64 0), .v (.bool false), .v (.bool false)])).alloc (.cells g.cells)).alloc (.cells [.v (.int .i64 p.ix)])).alloc (.cells [.v (.int .i64 (p.ix + 1))])).n = s.n + 6 := by simp
  refine w_rangeS (m := fl.length) (by simp) hit (by intro x hx; obtain ⟨e, _, rfl⟩ := List.mem_map.1 hx; rfl) (by simp) (fun k s' => StlI s g p (if k = 0 then p else settledS g p) s') (fun j s' => False) ?_ ?_ ?_ ?_ ?_ ?_ ?_
  · intro LR
    refine ⟨by simp (disch := first | omega | (simp <;> omega) | fail), ⟨_, by simp (disch := first | omega | (simp <;> omega) | fail); rfl, rfl⟩, by simp (disch := first | omega | (simp <;> omega) | fail), by simp (disch := first | omega | (simp <;> omega) | fail), by simp (disch := first | omega | (simp <;> omega) | fail), ?_, by simp⟩
    exact ((((((((Grows.refl _).alloc _).alloc _).alloc _).alloc _).alloc _).alloc _).alloc _).alloc _
  · rintro k s' h; exact ⟨h.c1, h.c2, h.c3⟩
  · rintro k s' o hn ⟨b0, ⟨cs, b2, b2'⟩, c1, c2, c3, gr, n⟩
    exact ⟨by simp (disch := first | omega | (simp <;> omega) | fail) [b0], ⟨cs, by simp (disch := first | omega | (simp <;> omega) | fail) [b2], b2'⟩, by simp (disch := first | omega | (simp <;> omega) | fail) [c1], by simp (disch := first | omega | (simp <;> omega) | fail) [c2], by simp (disch := first | omega | (simp <;> omega) | fail) [c3], gr.alloc _, by simp; omega⟩
  · intro j s' o hn h; exact h.elim
  · intro LR LB LJ hLB hLR k hk s' hd hLL hln hI
    have hk' : k < fl.length := by simpa using hk
    have hk0 : k = 0 := by omega
    subst hk0
    obtain ⟨b0, ⟨cs, b2, b2'⟩, c1, c2, c3, gr, n⟩ := hI
    rw [if_pos rfl] at b0
    simp only [hsn, List.getElem_map, List.zip_cons_cons, List.zip_nil_right, List.reverse_cons, List.reverse_nil, List.nil_append, List.cons_append] at hd hLL hln ⊢
    have hh : fl.head? = some fl[0] := by rw [List.head?_eq_getElem?, List.getElem?_eq_getElem hk']
    rw [hh] at hset
    generalize fl[0] = e at hset ⊢
    simp only [] at hset
    by_cases k3 : p.kd = 3
    · rw [if_pos k3] at hset
      repeat (first | simp -dsimp -implicitDefEqProofs (disch := first | omega | (simp <;> omega) | fail) [hLL, b0, k3] | ((with_reducible first | apply m_1 | apply m_0); (focus ((conv => lhs; simp -dsimp -implicitDefEqProofs (disch := first | omega | (simp <;> omega) | fail) [hLL, b0, k3]); done))) | ((with_reducible first | apply i_T | apply g_T); (focus (simp -dsimp -implicitDefEqProofs (disch := first | omega | (simp <;> omega) | fail) [hLL, b0, k3]; done))) | ((with_reducible first | apply i_F | apply g_F); (focus (simp -dsimp -implicitDefEqProofs (disch := first | omega | (simp <;> omega) | fail) [hLL, b0, k3]; done))))
      refine fins_n (fun d hd' => by cases hd'; simp (disch := first | omega | (simp <;> omega) | fail) [hd]) (by simp (disch := first | omega | (simp <;> omega) | fail)) ⟨by rw [if_neg (by omega), hset]; simp (disch := first | omega | (simp <;> omega) | fail) [Prt.cells, k3], ⟨cs, by simp (disch := first | omega | (simp <;> omega) | fail) [b2], b2'⟩, by simp (disch := first | omega | (simp <;> omega) | fail) [c1], by simp (disch := first | omega | (simp <;> omega) | fail) [c2], by simp (disch := first | omega | (simp <;> omega) | fail) [c3], (((gr.set _ (by omega) (by omega)).set _ (by omega) (by simp; omega)).set _ (by omega) (by simp; omega)).alloc _, by simp; omega⟩
    · rw [if_neg k3] at hset
      by_cases k4 : p.kd = 4
      · by_cases ht : p.tm = e.tm
        · rw [if_pos ⟨k4, ht⟩] at hset
          repeat (first | simp -dsimp -implicitDefEqProofs (disch := first | omega | (simp <;> omega) | fail) [hLL, b0, k3, k4, ht] | ((with_reducible first | apply m_1 | apply m_0); (focus ((conv => lhs; simp -dsimp -implicitDefEqProofs (disch := first | omega | (simp <;> omega) | fail) [hLL, b0, k3, k4, ht]); done))) | ((with_reducible first | apply i_T | apply g_T); (focus (simp -dsimp -implicitDefEqProofs (disch := first | omega | (simp <;> omega) | fail) [hLL, b0, k3, k4, ht]; done))) | ((with_reducible first | apply i_F | apply g_F); (focus (simp -dsimp -implicitDefEqProofs (disch := first | omega | (simp <;> omega) | fail) [hLL, b0, k3, k4, ht]; done))))
          refine fins_n (fun d hd' => by cases hd'; simp (disch := first | omega | (simp <;> omega) | fail) [hd]) (by simp (disch := first | omega | (simp <;> omega) | fail)) ⟨by rw [if_neg (by omega), hset]; simp (disch := first | omega | (simp <;> omega) | fail) [Prt.cells, ht], ⟨cs, by simp (disch := first | omega | (simp <;> omega) | fail) [b2], b2'⟩, by simp (disch := first | omega | (simp <;> omega) | fail) [c1], by simp (disch := first | omega | (simp <;> omega) | fail) [c2], by simp (disch := first | omega | (simp <;> omega) | fail) [c3], (((gr.set _ (by omega) (by omega)).set _ (by omega) (by simp; omega)).set _ (by omega) (by simp; omega)).alloc _, by simp; omega⟩
        · rw [if_neg (fun h => ht h.2)] at hset
          repeat (first | simp -dsimp -implicitDefEqProofs (disch := first | omega | (simp <;> omega) | fail) [hLL, b0, k3, k4, ht] | ((with_reducible first | apply m_1 | apply m_0); (focus ((conv => lhs; simp -dsimp -implicitDefEqProofs (disch := first | omega | (simp <;> omega) | fail) [hLL, b0, k3, k4, ht]); done))) | ((with_reducible first | apply i_T | apply g_T); (focus (simp -dsimp -implicitDefEqProofs (disch := first | omega | (simp <;> omega) | fail) [hLL, b0, k3, k4, ht]; done))) | ((with_reducible first | apply i_F | apply g_F); (focus (simp -dsimp -implicitDefEqProofs (disch := first | omega | (simp <;> omega) | fail) [hLL, b0, k3, k4, ht]; done))))
          refine fins_n (fun d hd' => by cases hd'; simp (disch := first | omega | (simp <;> omega) | fail) [hd]) (by simp (disch := first | omega | (simp <;> omega) | fail)) ⟨by rw [if_neg (by omega), hset]; simp (disch := first | omega | (simp <;> omega) | fail) [b0], ⟨cs, by simp (disch := first | omega | (simp <;> omega) | fail) [b2], b2'⟩, by simp (disch := first | omega | (simp <;> omega) | fail) [c1], by simp (disch := first | omega | (simp <;> omega) | fail) [c2], by simp (disch := first | omega | (simp <;> omega) | fail) [c3], (gr.set _ (by omega) (by omega)).alloc _, by simp; omega⟩
      · rw [if_neg (fun h => k4 h.1)] at hset
        repeat (first | simp -dsimp -implicitDefEqProofs (disch := first | omega | (simp <;> omega) | fail) [hLL, b0, k3, k4] | ((with_reducible first | apply m_1 | apply m_0); (focus ((conv => lhs; simp -dsimp -implicitDefEqProofs (disch := first | omega | (simp <;> omega) | fail) [hLL, b0, k3, k4]); done))) | ((with_reducible first | apply i_T | apply g_T); (focus (simp -dsimp -implicitDefEqProofs (disch := first | omega | (simp <;> omega) | fail) [hLL, b0, k3, k4]; done))) | ((with_reducible first | apply i_F | apply g_F); (focus (simp -dsimp -implicitDefEqProofs (disch := first | omega | (simp <;> omega) | fail) [hLL, b0, k3, k4]; done))))
        refine fins_n (fun d hd' => by cases hd'; simp (disch := first | omega | (simp <;> omega) | fail) [hd]) (by simp (disch := first | omega | (simp <;> omega) | fail)) ⟨by rw [if_neg (by omega), hset]; simp (disch := first | omega | (simp <;> omega) | fail) [b0], ⟨cs, by simp (disch := first | omega | (simp <;> omega) | fail) [b2], b2'⟩, by simp (disch := first | omega | (simp <;> omega) | fail) [c1], by simp (disch := first | omega | (simp <;> omega) | fail) [c2], by simp (disch := first | omega | (simp <;> omega) | fail) [c3], (gr.set _ (by omega) (by omega)).alloc _, by simp; omega⟩
  · rintro s' hd hln ⟨b0, ⟨cs, b2, b2'⟩, c1, c2, c3, gr, n⟩
    simp only [hsn] at hd hln ⊢
    have hq : (if fl.length = 0 then p else settledS g p) = settledS g p := by
      split
      · next h => rw [hset, List.eq_nil_of_length_eq_zero h]; rfl
      · rfl
    rw [hq] at b0
    have hcs : List.drop 10 cs = [] := List.drop_eq_nil_of_le (by omega)
    repeat (first | simp -dsimp -implicitDefEqProofs (disch := first | omega | (simp <;> omega) | fail) [b0, b2, b2', hcs] | ((with_reducible first | apply m_1 | apply m_0); (focus ((conv => lhs; simp -dsimp -implicitDefEqProofs (disch := first | omega | (simp <;> omega) | fail) [b0, b2, b2', hcs]); done))) | ((with_reducible first | apply i_T | apply g_T); (focus (simp -dsimp -implicitDefEqProofs (disch := first | omega | (simp <;> omega) | fail) [b0, b2, b2', hcs]; done))) | ((with_reducible first | apply i_F | apply g_F); (focus (simp -dsimp -implicitDefEqProofs (disch := first | omega | (simp <;> omega) | fail) [b0, b2, b2', hcs]; done))))
    have hD : Dfs s.n ((s'.set (s.n + 6 + 1) .dead).set (s.n + 2) (.cells ((settledS g p).cells ++ []))) [s.n + 6] := Dfs.cons (.nil _ _) (by omega) (by simp (disch := first | omega | (simp <;> omega) | fail) [hd]) (by simp)
    refine ret_okD (fun x hx => (hD.1 x hx).2) hD.2 (by simp (disch := first | omega | (simp <;> omega) | fail) [killAll]; rfl) ⟨killAll_grows ((gr.set _ (by omega) (by omega)).set _ (by omega) (by simp; omega)) (Nat.le_refl _) hD, ?_⟩
    simp [retVal]; exact .refl _
  · rintro j s' _ _ h; exact h.elim
end Go.Proofs.Ytmfhchaoijiodaa
end
section
namespace Go.Ab
set_option linter.unusedVariables false
def mayP (p : Prt) : Bool := isPart p && !decide (p.kd = 6)
def stepM (M : List (Int × Grp)) (p : Prt) : List (Int × Grp) := if mayP p = true then oneM M p else M
def outP (M : List (Int × Grp)) (p : Prt) : Prt := if mayP p = true ∧ errM M p = 0 then settledS ((lk M p.gr).getD zeroG') p else p
def stM (M : List (Int × Grp)) (l : List Prt) : List (Int × Grp) := l.foldl stepM M
def outL (M : List (Int × Grp)) : List Prt → List Prt
  | [] => []
  | p :: l => outP M p :: outL (stepM M p) l
theorem outL_append (M : List (Int × Grp)) (a b : List Prt) : outL M (a ++ b) = outL M a ++ outL (stM M a) b := by
  induction a generalizing M with
  | nil => rfl
  | cons p a ih => simp only [List.cons_append, outL, ih]; rfl
theorem outL_len (M : List (Int × Grp)) (l : List Prt) : (outL M l).length = l.length := by
  induction l generalizing M with
  | nil => rfl
  | cons p l ih => simp only [outL, List.length_cons, ih]
theorem outL_snoc {M : List (Int × Grp)} {l : List Prt} {i : Nat} (h : i < l.length) : outL M (l.take (i + 1)) = outL M (l.take i) ++ [outP (stM M (l.take i)) l[i]] := by
  have e : l.take (i + 1) = l.take i ++ [l[i]] := (List.take_append_getElem h).symm
  rw [e, outL_append]; rfl
theorem stM_snoc {M : List (Int × Grp)} {l : List Prt} {i : Nat} (h : i < l.length) : stM M (l.take (i + 1)) = stepM (stM M (l.take i)) l[i] := by
  have e : l.take (i + 1) = l.take i ++ [l[i]] := (List.take_append_getElem h).symm
  unfold stM; rw [e, List.foldl_append]; rfl
theorem ManyOk.step {B : Nat} {M : List (Int × Grp)} (h : ManyOk B M) (p : Prt) : ManyOk (B + 6) (stepM M p) := by
  unfold stepM
  split
  · next hm => exact h.one (by simp only [mayP, Bool.and_eq_true] at hm; exact hm.1)
  · exact h.more (by omega)
theorem ManyOk.st {B : Nat} {M : List (Int × Grp)} (h : ManyOk B M) (l : List Prt) : ManyOk (B + 6 * l.length) (stM M l) := by
  induction l generalizing M B with
  | nil => exact h
  | cons p l ih => exact (ih (h.step p)).more (by simp; omega)
theorem flat_len (l : List Prt) : (l.flatMap Prt.cells).length = l.length * 10 := by
  induction l with
  | nil => rfl
  | cons p l ih => rw [List.flatMap_cons, List.length_append, ih, List.length_cons]; show 10 + _ = _; omega
theorem flat_rep (n : Nat) (z : List AV) : ((List.replicate n z).flatten).length = n * z.length := by
  induction n with
  | zero => simp
  | succ n ih => rw [List.replicate_succ, List.flatten_cons, List.length_append, ih, Nat.add_mul]; omega
structure StI (s : AState) (l : List Prt) (M : List (Int × Grp)) (i : Nat) (s' : AState) : Prop where
  g : ∀ x, x < s.n → s'.get x = s.get x
  n : s.n + 3 ≤ s'.n
  m : ∃ A, ManyAt s' (s.n + 1) s.n A (stM M (l.take i))
  c : ∃ T, s'.get (s.n + 2) = .cells ((outL M (l.take i)).flatMap Prt.cells ++ T) ∧ T.length + i * 10 = l.length * 10
end Go.Ab
namespace Go.Proofs.Ytmfhchaoijiodaa
open Go.Ab
set_option linter.unusedVariables false
set_option linter.unusedSimpArgs false
set_option maxRecDepth 100000
set_option maxHeartbeats 1000000
theorem rn_many_Many_Settle {b mb : Nat} {A M : List (Int × Grp)} {l : List Prt} {s : AState} {B : Nat} (h : ManyAt s b mb A M) (hM : ManyOk B M) (hB : B + 6 * l.length ≤ 1000000) (hl : l.length ≤ 1000) (hes : ∀ p ∈ l, p.es.length ≤ 1000000) :
    Runs (compCode prog) prog F_many_Many_Settle [.p b 0, .sl (l.map Prt.av) .no] s (fun x s' => x = .ms (s.n + 2) 0 l.length ∧ StI s l M l.length s') := by
  have hMI := MI_eq
  refine runs_e h_many_Many_Settle (Nat.le_of_ble_eq_true rfl) ?_
  repeat (first | simp -dsimp -implicitDefEqProofs (disch := first | omega | (simp <;> omega) | fail) | ((with_reducible first | apply m_1 | apply m_0); (focus ((conv => lhs; simp -dsimp -implicitDefEqProofs (disch := first | omega | (simp <;> omega) | fail)); done))) | ((with_reducible first | apply i_T | apply g_T); (focus (simp -dsimp -implicitDefEqProofs (disch := first | omega | (simp <;> omega) | fail); done))) | ((with_reducible first | apply i_F | apply g_F); (focus (simp -dsimp -implicitDefEqProofs (disch := first | omega | (simp <;> omega) | fail); done))))
  refine run (rn_many_Many_Copy h) (by first | (simp; done) | rfl | (simp; rfl)) ?_
  rintro _ s1 ⟨rfl, hs1⟩
  have m1 : ManyAt s1 (s.n + 1) s.n A M := by rw [hs1]; exact ⟨by simp (disch := first | omega | (simp <;> omega) | fail), by simp (disch := first | omega | (simp <;> omega) | fail), h.r⟩
  have g1 : Grows s s1 := by rw [hs1]; exact ((Grows.refl _).alloc _).alloc _
  have n1 : s1.n = s.n + 2 := by rw [hs1]; simp
  clear hs1
  repeat (first | simp -dsimp -implicitDefEqProofs (disch := first | omega | (simp <;> omega) | fail) | ((with_reducible first | apply m_1 | apply m_0); (focus ((conv => lhs; simp -dsimp -implicitDefEqProofs (disch := first | omega | (simp <;> omega) | fail)); done))) | ((with_reducible first | apply i_T | apply g_T); (focus (simp -dsimp -implicitDefEqProofs (disch := first | omega | (simp <;> omega) | fail); done))) | ((with_reducible first | apply i_F | apply g_F); (focus (simp -dsimp -implicitDefEqProofs (disch := first | omega | (simp <;> omega) | fail); done))))
  refine m_mks (kd := .i64) (mm := (l.length : Int)) (by simp) (by omega) ?_
  repeat (first | simp -dsimp -implicitDefEqProofs (disch := first | omega | (simp <;> omega) | fail) | ((with_reducible first | apply m_1 | apply m_0); (focus ((conv => lhs; simp -dsimp -implicitDefEqProofs (disch := first | omega | (simp <;> omega) | fail)); done))) | ((with_reducible first | apply i_T | apply g_T); (focus (simp -dsimp -implicitDefEqProofs (disch := first | omega | (simp <;> omega) | fail); done))) | ((with_reducible first | apply i_F | apply g_F); (focus (simp -dsimp -implicitDefEqProofs (disch := first | omega | (simp <;> omega) | fail); done))))
  refine loop_ok [5, 6, 15, 16, 17] (fun m a s2 => ∃ i : Nat, i + m = l.length ∧ StI s l M i s2 ∧
    a = { t := den 65 [(5, .p (s.n + 1) 0), (6, .ms (s.n + 2) 0 l.length), (15, .sl (l.map Prt.av) .no), (16, .v (.int .i64 l.length)), (17, .v (.int .i64 i))], d := [] }) l.length ?_ ?_
  · refine ⟨0, by simp, ⟨fun x hx => (g1.alloc _).get hx, by simp; omega, ⟨A, ?_⟩, ?_⟩, by simp [n1]⟩
    · exact m1.keep fun x hx => by rcases hx with rfl | rfl <;> simp (disch := first | omega | (simp <;> omega) | fail)
    · refine ⟨_, by rw [show s.n + 2 = s1.n from n1.symm]; simp [outL]; rfl, ?_⟩
      rw [flat_rep]; simp
  rintro m a s2 ⟨i, him, hI, rfl⟩
  obtain ⟨gr, n2, ⟨A2, hA⟩, T, hc, hT⟩ := hI
  by_cases hlt : i < l.length
  · have hw : IntKind.wrap .i64 ((i : Int) + 1) = (i : Int) + 1 := wrap_i64 (by omega) (by omega)
    have hM2 := hM.st (l.take i)
    have hB2 : B + 6 * (l.take i).length ≤ 1000000 := by rw [List.length_take]; omega
    have eo := outL_snoc (M := M) hlt
    have es := stM_snoc (M := M) hlt
    have hpl := hes _ (List.getElem_mem hlt)
    have hR : ((outL M (l.take i)).flatMap Prt.cells).length = i * 10 := by rw [flat_len, outL_len, List.length_take]; omega
    obtain ⟨R, hRe⟩ : ∃ R, (outL M (l.take i)).flatMap Prt.cells = R := ⟨_, rfl⟩
    rw [hRe] at hc hR
    generalize hst : stM M (l.take i) = M2 at hA hM2 eo es
    generalize hq : l[i] = q at hpl eo es
    obtain ⟨lb, lm, lne⟩ := hA.lt
    obtain ⟨a1, a2, a3⟩ := hA
    have lc := AState.lt_of_get hc (by simp)
    have hT10 : 10 ≤ T.length := by omega
    have f1 : ∀ Y, List.take (i * 10) (R ++ Y) = R := fun Y => by rw [← hR]; exact List.take_left
    have f2 : ∀ k Y, List.take (i * 10 + k) (R ++ Y) = R ++ List.take k Y := fun k Y => by rw [← hR, List.take_length_add_append]
    have f3 : ∀ Y, List.drop (i * 10) (R ++ Y) = Y := fun Y => by rw [← hR]; exact List.drop_left
    have f4 : ∀ k Y, List.drop (i * 10 + k) (R ++ Y) = List.drop k Y := fun k Y => by rw [← hR, List.drop_length_add_append]
    repeat (first | simp -dsimp -implicitDefEqProofs (disch := first | omega | (simp <;> omega) | fail) [hlt, hq, hc, hR, f1, f2, f3, f4, hT10] | ((with_reducible first | apply m_1 | apply m_0); (focus ((conv => lhs; simp -dsimp -implicitDefEqProofs (disch := first | omega | (simp <;> omega) | fail) [hlt, hq, hc, hR, f1, f2, f3, f4, hT10]); done))) | ((with_reducible first | apply i_T | apply g_T); (focus (simp -dsimp -implicitDefEqProofs (disch := first | omega | (simp <;> omega) | fail) [hlt, hq, hc, hR, f1, f2, f3, f4, hT10]; done))) | ((with_reducible first | apply i_F | apply g_F); (focus (simp -dsimp -implicitDefEqProofs (disch := first | omega | (simp <;> omega) | fail) [hlt, hq, hc, hR, f1, f2, f3, f4, hT10]; done))))
    refine giv (ct_slices_Clone_Entry (es := q.es) (by omega)) (by first | (simp; done) | rfl | (simp; rfl)) ?_
    have f5 : i * 10 + 2 + 1 ≤ i * 10 + T.length := by omega
    have f6 : List.take 2 (q.cells ++ List.drop 10 T) ++ AV.sl (List.map Ent.av q.es) .no :: List.drop (i * 10 + 2 + 1) (R ++ (q.cells ++ List.drop 10 T)) = q.cells ++ List.drop 10 T := by
      rw [show i * 10 + 2 + 1 = i * 10 + 3 by omega, f4]; rfl
    have hT2 : (List.drop 10 T).length + (i + 1) * 10 = l.length * 10 := by rw [List.length_drop]; omega
    generalize List.drop 10 T = D at *
    have f7 : i * 10 + 2 + 1 ≤ i * 10 + (10 + D.length) := by omega
    repeat (first | simp -dsimp -implicitDefEqProofs (disch := first | omega | (simp <;> omega) | fail) [hR, hlt, f1, f2, f3, f4, f7, f6, a1] | (with_reducible apply m_draw) | ((with_reducible refine ⟨m_op ?_, ?_⟩); (focus (simp -dsimp -implicitDefEqProofs (disch := first | omega | (simp <;> omega) | fail) [hR, hlt, f1, f2, f3, f4, f7, f6, a1]; done))) | ((with_reducible first | apply m_d1 rfl | apply m_dE | apply m_dE0); (focus ((conv => lhs; simp -dsimp -implicitDefEqProofs (disch := first | omega | (simp <;> omega) | fail) [hR, hlt, f1, f2, f3, f4, f7, f6, a1]); done))) | ((with_reducible first | apply m_1 | apply m_0); (focus ((conv => lhs; simp -dsimp -implicitDefEqProofs (disch := first | omega | (simp <;> omega) | fail) [hR, hlt, f1, f2, f3, f4, f7, f6, a1]); done))) | ((with_reducible first | apply i_T | apply g_T | apply h_T); (focus (simp -dsimp -implicitDefEqProofs (disch := first | omega | (simp <;> omega) | fail) [hR, hlt, f1, f2, f3, f4, f7, f6, a1]; done))) | ((with_reducible first | apply i_F | apply g_F | apply h_F); (focus (simp -dsimp -implicitDefEqProofs (disch := first | omega | (simp <;> omega) | fail) [hR, hlt, f1, f2, f3, f4, f7, f6, a1]; done))))
    refine q_look (κ := Int) (A := A2) (enc := Grp.av) (k := q.gr) (b := s.n) (by simp) (by simp (disch := first | omega | (simp <;> omega) | fail) [a2]) (by simp; rfl) ?_
    have hlv : ∃ gc : List AV, lkV Grp.av A2 q.gr (.agg [.v (.int .i64 0), .v (.int .i64 0), .v (.int .i64 0), .v (.int .i64 0), .v (.int .i64 0), .v (.int .i64 0), .sl [] .zero]) false = .agg gc ∧ gc.length = 7 ∧ gc.all AV.one = true ∧ (AV.agg gc).strip = ((lk M2 q.gr).getD zeroG').av := by
      unfold lkV
      rw [a3.lk]
      cases lk M2 q.gr with
      | none => exact ⟨_, rfl, rfl, rfl, rfl⟩
      | some g => exact ⟨_, rfl, rfl, rfl, rfl⟩
    obtain ⟨gc, hgc, gl, go, gs⟩ := hlv
    have gt : List.take 7 gc = gc := List.take_of_length_le (by omega)
    rw [hgc]
    have hnext : ∀ s', (∀ x, x < s.n → s'.get x = s.get x) → s.n + 3 ≤ s'.n → (∃ A, ManyAt s' (s.n + 1) s.n A (stepM M2 q)) → s'.get (s.n + 2) = .cells (R ++ ((outP M2 q).cells ++ D)) → StI s l M (i + 1) s' := fun s' k1 k2 k3 k4 =>
      ⟨k1, k2, by rw [es]; exact k3, D, by rw [eo, List.flatMap_append, hRe, k4]; simp, hT2⟩
    have f8 : List.drop 10 (q.cells ++ D) = D := rfl
    have f9 : List.take 10 (q.cells ++ D) = q.cells := rfl
    have hA' : ∀ s', s'.get (s.n + 1) = s2.get (s.n + 1) → s'.get s.n = s2.get s.n → ManyAt s' (s.n + 1) s.n A2 M2 := fun s' k1 k2 => ⟨k1.trans a1, k2.trans a2, a3⟩
    by_cases hmay : mayP q = true
    · have hip : isPart q = true := by simp only [mayP, Bool.and_eq_true] at hmay; exact hmay.1
      have k6 : ¬ q.kd = 6 := by simp only [mayP, Bool.and_eq_true] at hmay; simpa using hmay.2
      have hst2 : stepM M2 q = oneM M2 q := if_pos hmay
      repeat (first | simp -dsimp -implicitDefEqProofs (disch := first | omega | (simp <;> omega) | fail) [gl, go, gt, hR] | (with_reducible apply m_draw) | ((with_reducible refine ⟨m_op ?_, ?_⟩); (focus (simp -dsimp -implicitDefEqProofs (disch := first | omega | (simp <;> omega) | fail) [gl, go, gt, hR]; done))) | ((with_reducible first | apply m_d1 rfl | apply m_dE | apply m_dE0); (focus ((conv => lhs; simp -dsimp -implicitDefEqProofs (disch := first | omega | (simp <;> omega) | fail) [gl, go, gt, hR]); done))) | ((with_reducible first | apply m_1 | apply m_0); (focus ((conv => lhs; simp -dsimp -implicitDefEqProofs (disch := first | omega | (simp <;> omega) | fail) [gl, go, gt, hR]); done))) | ((with_reducible first | apply i_T | apply g_T | apply h_T); (focus (simp -dsimp -implicitDefEqProofs (disch := first | omega | (simp <;> omega) | fail) [gl, go, gt, hR]; done))) | ((with_reducible first | apply i_F | apply g_F | apply h_F); (focus (simp -dsimp -implicitDefEqProofs (disch := first | omega | (simp <;> omega) | fail) [gl, go, gt, hR]; done))))
      refine ⟨.of_ext (AState.ext_alloc _ _), ?_⟩
      repeat (first | simp -dsimp -implicitDefEqProofs (disch := first | omega | (simp <;> omega) | fail) [gl, go, gt, hR] | (with_reducible apply m_draw) | ((with_reducible refine ⟨m_op ?_, ?_⟩); (focus (simp -dsimp -implicitDefEqProofs (disch := first | omega | (simp <;> omega) | fail) [gl, go, gt, hR]; done))) | ((with_reducible first | apply m_d1 rfl | apply m_dE | apply m_dE0); (focus ((conv => lhs; simp -dsimp -implicitDefEqProofs (disch := first | omega | (simp <;> omega) | fail) [gl, go, gt, hR]); done))) | ((with_reducible first | apply m_1 | apply m_0); (focus ((conv => lhs; simp -dsimp -implicitDefEqProofs (disch := first | omega | (simp <;> omega) | fail) [gl, go, gt, hR]); done))) | ((with_reducible first | apply i_T | apply g_T | apply h_T); (focus (simp -dsimp -implicitDefEqProofs (disch := first | omega | (simp <;> omega) | fail) [gl, go, gt, hR]; done))) | ((with_reducible first | apply i_F | apply g_F | apply h_F); (focus (simp -dsimp -implicitDefEqProofs (disch := first | omega | (simp <;> omega) | fail) [gl, go, gt, hR]; done))))
      refine giv (ct_part_Is (p := q) (by omega)) (by first | (simp; done) | rfl | (simp; rfl)) ?_
      repeat (first | simp -dsimp -implicitDefEqProofs (disch := first | omega | (simp <;> omega) | fail) [hip, k6] | ((with_reducible first | apply m_1 | apply m_0); (focus ((conv => lhs; simp -dsimp -implicitDefEqProofs (disch := first | omega | (simp <;> omega) | fail) [hip, k6]); done))) | ((with_reducible first | apply i_T | apply g_T); (focus (simp -dsimp -implicitDefEqProofs (disch := first | omega | (simp <;> omega) | fail) [hip, k6]; done))) | ((with_reducible first | apply i_F | apply g_F); (focus (simp -dsimp -implicitDefEqProofs (disch := first | omega | (simp <;> omega) | fail) [hip, k6]; done))))
      refine run (rn_many_Many_one (M := M2) (A := A2) (mb := s.n) (hA' _ (by simp (disch := first | omega | (simp <;> omega) | fail)) (by simp (disch := first | omega | (simp <;> omega) | fail))) hM2 hB2 hip) (by first | (simp; done) | rfl | (simp; rfl)) ?_
      rintro _ s3 ⟨rfl, mt, A3, k1⟩
      have n3 := mt.n
      simp at n3
      have c0 : s3.get s2.n = .cells q.cells := (mt.keep _ (by simp <;> omega) (by simp <;> omega)).trans (by simp (disch := first | omega | (simp <;> omega) | fail))
      have c1 : s3.get (s2.n + 1) = .cells gc := (mt.keep _ (by simp <;> omega) (by simp <;> omega)).trans (by simp (disch := first | omega | (simp <;> omega) | fail))
      have c2 : s3.get (s.n + 2) = .cells (R ++ (q.cells ++ D)) := (mt.keep _ (by simp <;> omega) (by simp <;> omega)).trans (by simp (disch := first | omega | (simp <;> omega) | fail))
      have c3 : ∀ x, x < s.n → s3.get x = s.get x := fun x hx => ((mt.keep _ (by simp <;> omega) (by simp <;> omega)).trans (by simp (disch := first | omega | (simp <;> omega) | fail))).trans (gr x hx)
      by_cases he : errM M2 q = 0
      · have ho : outP M2 q = settledS ((lk M2 q.gr).getD zeroG') q := if_pos ⟨hmay, he⟩
        repeat (first | simp -dsimp -implicitDefEqProofs (disch := first | omega | (simp <;> omega) | fail) [he, hip, k6, c0, c1, c2, gl, gt, hR, hlt, f1, f2, f3, f4, f8, f9] | ((with_reducible first | apply m_1 | apply m_0); (focus ((conv => lhs; simp -dsimp -implicitDefEqProofs (disch := first | omega | (simp <;> omega) | fail) [he, hip, k6, c0, c1, c2, gl, gt, hR, hlt, f1, f2, f3, f4, f8, f9]); done))) | ((with_reducible first | apply i_T | apply g_T); (focus (simp -dsimp -implicitDefEqProofs (disch := first | omega | (simp <;> omega) | fail) [he, hip, k6, c0, c1, c2, gl, gt, hR, hlt, f1, f2, f3, f4, f8, f9]; done))) | ((with_reducible first | apply i_F | apply g_F); (focus (simp -dsimp -implicitDefEqProofs (disch := first | omega | (simp <;> omega) | fail) [he, hip, k6, c0, c1, c2, gl, gt, hR, hlt, f1, f2, f3, f4, f8, f9]; done))))
        have hO := okP hip
        have hgs : ((lk M2 q.gr).getD zeroG').es.Pairwise (fun a b => a.ix < b.ix) ∧ ((lk M2 q.gr).getD zeroG').es.length ≤ 1000000 := by
          cases hk : lk M2 q.gr with
          | none => exact ⟨List.Pairwise.nil, Nat.zero_le _⟩
          | some g =>
            have hm := lk_mem hk
            exact ⟨(hM2.ok _ hm).1.s.srt, by have := hM2.len _ hm; simp only [Option.getD_some] at this ⊢; omega⟩
        refine giv (ct_many_settled (g := (lk M2 q.gr).getD zeroG') (p := q) hgs.1 hgs.2 hO.ix) (by simp [gs]) ?_
        have f10 : i * 10 + 10 ≤ i * 10 + (10 + D.length) := by omega
        repeat (first | simp -dsimp -implicitDefEqProofs (disch := first | omega | (simp <;> omega) | fail) [c2, hR, hlt, f1, f4, f8, f10] | ((with_reducible first | apply m_1 | apply m_0); (focus ((conv => lhs; simp -dsimp -implicitDefEqProofs (disch := first | omega | (simp <;> omega) | fail) [c2, hR, hlt, f1, f4, f8, f10]); done))) | ((with_reducible first | apply i_T | apply g_T); (focus (simp -dsimp -implicitDefEqProofs (disch := first | omega | (simp <;> omega) | fail) [c2, hR, hlt, f1, f4, f8, f10]; done))) | ((with_reducible first | apply i_F | apply g_F); (focus (simp -dsimp -implicitDefEqProofs (disch := first | omega | (simp <;> omega) | fail) [c2, hR, hlt, f1, f4, f8, f10]; done))))
        refine ⟨m - 1, by omega, i + 1, by omega, hnext _ (fun x hx => (by simp (disch := first | omega | (simp <;> omega) | fail) : _ = s3.get x).trans (c3 x hx)) (by simp; omega) ⟨A3, by rw [hst2]; exact k1.keep fun x hx => by rcases hx with rfl | rfl <;> simp (disch := first | omega | (simp <;> omega) | fail)⟩ (by rw [ho]; simp (disch := first | omega | (simp <;> omega) | fail)), by simp [hw]⟩
      · have ho : outP M2 q = q := if_neg fun h => he h.2
        repeat (first | simp -dsimp -implicitDefEqProofs (disch := first | omega | (simp <;> omega) | fail) [he, hip, k6] | ((with_reducible first | apply m_1 | apply m_0); (focus ((conv => lhs; simp -dsimp -implicitDefEqProofs (disch := first | omega | (simp <;> omega) | fail) [he, hip, k6]); done))) | ((with_reducible first | apply i_T | apply g_T); (focus (simp -dsimp -implicitDefEqProofs (disch := first | omega | (simp <;> omega) | fail) [he, hip, k6]; done))) | ((with_reducible first | apply i_F | apply g_F); (focus (simp -dsimp -implicitDefEqProofs (disch := first | omega | (simp <;> omega) | fail) [he, hip, k6]; done))))
        refine ⟨m - 1, by omega, i + 1, by omega, hnext _ c3 (by omega) ⟨A3, by rw [hst2]; exact k1⟩ (by rw [ho]; exact c2), by simp [hw]⟩
    · have hst2 : stepM M2 q = M2 := if_neg hmay
      have ho : outP M2 q = q := if_neg fun h => hmay h.1
      have fin : ∀ s', s' = ((s2.set (s.n + 2) (.cells (R ++ (q.cells ++ D)))).alloc (.cells q.cells)).alloc (.cells gc) → StI s l M (i + 1) s' := fun s' e => by
        subst e
        exact hnext _ (fun x hx => (by simp (disch := first | omega | (simp <;> omega) | fail) : _ = s2.get x).trans (gr x hx)) (by simp; omega) ⟨A2, by rw [hst2]; exact hA' _ (by simp (disch := first | omega | (simp <;> omega) | fail)) (by simp (disch := first | omega | (simp <;> omega) | fail))⟩ (by rw [ho]; simp (disch := first | omega | (simp <;> omega) | fail))
      cases hip : isPart q with
      | false =>
        refine sd4 gl go gt hR ?_
        refine ⟨.of_ext (AState.ext_alloc _ _), ?_⟩
        refine sd4 gl go gt hR ?_
        refine gv (ct_part_Is (p := q) (by omega)) ?_
        refine st1 hip ?_
        exact ⟨m - 1, by omega, i + 1, by omega, fin _ rfl, by simp [hw]⟩
      | true =>
        have k6 : q.kd = 6 := by simpa [mayP, hip] using hmay
        refine sd4 gl go gt hR ?_
        refine ⟨.of_ext (AState.ext_alloc _ _), ?_⟩
        refine sd4 gl go gt hR ?_
        refine gv (ct_part_Is (p := q) (by omega)) ?_
        refine st2 hip k6 ?_
        exact ⟨m - 1, by omega, i + 1, by omega, fin _ rfl, by simp [hw]⟩
  · have hie : i = l.length := by omega
    subst hie
    repeat (first | simp -dsimp -implicitDefEqProofs (disch := first | omega | (simp <;> omega) | fail) | ((with_reducible first | apply m_1 | apply m_0); (focus ((conv => lhs; simp -dsimp -implicitDefEqProofs (disch := first | omega | (simp <;> omega) | fail)); done))) | ((with_reducible first | apply i_T | apply g_T); (focus (simp -dsimp -implicitDefEqProofs (disch := first | omega | (simp <;> omega) | fail); done))) | ((with_reducible first | apply i_F | apply g_F); (focus (simp -dsimp -implicitDefEqProofs (disch := first | omega | (simp <;> omega) | fail); done))))
    exact ret_ok rfl ⟨rfl, gr, n2, ⟨A2, hA⟩, T, hc, hT⟩
end Go.Proofs.Ytmfhchaoijiodaa
end
section
namespace Go.Ab
set_option linter.unusedVariables false
theorem settled_part {g : Grp} {p : Prt} (h : isPart p = true) (hg : ∀ e ∈ g.es, okEnt e = true) : isPart (settledS g p) = true ∧ (settledS g p).gr = p.gr ∧ (p.kd ≠ 6 → (settledS g p).kd ≠ 6) := by
  unfold settledS
  cases ha : atS g.es p.ix with
  | none => exact ⟨h, rfl, id⟩
  | some e =>
    have hok := okEnt_iff.1 (hg e (atS_mem ha).1)
    have hMI := MI_eq
    simp only []
    split
    · next k3 =>
      refine ⟨?_, rfl, fun h6 => h6⟩
      have h' := h
      simp only [isPart, Bool.and_eq_true, decide_eq_true_eq] at h' ⊢
      obtain ⟨⟨a1, a2⟩, a3⟩ := h'
      refine ⟨⟨a1, ?_⟩, ?_⟩
      · have : core p = { gr := p.gr, kd := p.kd, es := [], ht := 0, hv := 0, hc := 0, ix := p.ix, tm := p.tm, mr := false, he := false } := by simp [core, k3]
        rw [this] at a2
        have : core { p with tm := e.tm } = { gr := p.gr, kd := p.kd, es := [], ht := 0, hv := 0, hc := 0, ix := p.ix, tm := e.tm, mr := false, he := false } := by simp [core, k3]
        rw [this]
        rw [Prt.ext_iff] at a2 ⊢
        simp only at a2 ⊢
        simp [a2]
      · rw [if_neg (show ¬ p.kd = 1 by omega), if_neg (show ¬ p.kd = 2 by omega), if_pos k3] at a3 ⊢
        simp only [okMrk, btw, Bool.and_eq_true, decide_eq_true_eq] at a3 ⊢
        omega
    split
    · next k3 k4 =>
      obtain ⟨k4, ht⟩ := k4
      refine ⟨?_, rfl, fun _ => by simp⟩
      have h' := h
      simp only [isPart, Bool.and_eq_true, decide_eq_true_eq] at h' ⊢
      obtain ⟨⟨a1, a2⟩, a3⟩ := h'
      refine ⟨⟨a1, ?_⟩, ?_⟩
      · have : core p = { gr := p.gr, kd := p.kd, es := [], ht := 0, hv := 0, hc := 0, ix := p.ix, tm := p.tm, mr := false, he := false } := by simp [core, k4]
        rw [this] at a2
        have : core { p with kd := 3 } = { gr := p.gr, kd := 3, es := [], ht := 0, hv := 0, hc := 0, ix := p.ix, tm := p.tm, mr := false, he := false } := by simp [core]
        rw [this]
        rw [Prt.ext_iff] at a2 ⊢
        simp only at a2 ⊢
        simp [a2]
      · rw [if_neg (show ¬ p.kd = 1 by omega), if_neg (show ¬ p.kd = 2 by omega), if_neg k3, if_pos k4] at a3
        rw [if_neg (show ¬ (3 : Int) = 1 by omega), if_neg (show ¬ (3 : Int) = 2 by omega), if_pos trivial]
        simp only [okMrk, btw, Bool.and_eq_true, decide_eq_true_eq] at a3 ⊢
        omega
    · exact ⟨h, rfl, id⟩
theorem outP_may {B : Nat} {M : List (Int × Grp)} (hM : ManyOk B M) {p : Prt} (h : mayP p = true) : isPart (outP M p) = true ∧ (outP M p).kd ≠ 6 := by
  obtain ⟨h1, h2⟩ : isPart p = true ∧ ¬ p.kd = 6 := by simp only [mayP, Bool.and_eq_true] at h; exact ⟨h.1, by simpa using h.2⟩
  unfold outP
  split
  · have hg : ∀ e ∈ ((lk M p.gr).getD zeroG').es, okEnt e = true := by
      cases hk : lk M p.gr with
      | none => simp [zeroG']
      | some g => exact (hM.ok _ (lk_mem hk)).1.s.ok
    have := settled_part h1 hg
    exact ⟨this.1, this.2.2 h2⟩
  · exact ⟨h1, h2⟩
theorem outL_may {B : Nat} {M : List (Int × Grp)} (hM : ManyOk B M) {l : List Prt} (h : ∀ p ∈ l, mayP p = true) : ∀ p ∈ outL M l, isPart p = true ∧ p.kd ≠ 6 := by
  induction l generalizing M B with
  | nil => intro p hp; cases hp
  | cons q l ih =>
    intro p hp
    rcases List.mem_cons.1 hp with rfl | hp
    · exact outP_may hM (h q (by simp))
    · exact ih (hM.step q) (fun x hx => h x (by simp [hx])) p hp
theorem out_rec {B : Nat} {M : List (Int × Grp)} (hM : ManyOk B M) {l : List Prt} (h : ∀ p ∈ l, mayP p = true) (h1 : 1 ≤ l.length) (h4 : l.length ≤ 4) : isRec ⟨1125899906842624, outL M l⟩ = true := by
  have hm := outL_may hM h
  have hl := outL_len M l
  rw [isRec_iff]
  refine ⟨(by decide : (1 : Int) ≤ 1125899906842624), Int.le_refl _, by simp only [hl]; exact h1, by simp only [hl]; exact h4, fun p hp => ?_⟩
  obtain ⟨a, b⟩ := hm p hp
  have h0 : 0 < (outL M l).length := by omega
  have c : fwdP (outL M l) = false := by
    unfold fwdP
    rw [List.getD_eq_getElem?_getD, List.getElem?_eq_getElem h0]
    exact decide_eq_false (hm _ (List.getElem_mem h0)).2
  unfold goodR
  rw [a, c, decide_eq_false b]; rfl
def wrongM (l : List Prt) : Int := if l.length = 0 ∨ 4 < l.length ∨ l.any (fun p => !mayP p) = true then 11 else 0
end Go.Ab
namespace Go.Proofs.Ytmfhchaoijiodaa
open Go.Ab
set_option linter.unusedVariables false
set_option linter.unusedSimpArgs false
set_option maxRecDepth 100000
set_option maxHeartbeats 1000000
theorem row_flat (l : List Prt) : (l.map Prt.av).flatMap AV.cells = l.flatMap Prt.cells := by
  rw [List.flatMap_map]; rfl
theorem ct_many_Many_Settle {b mb : Nat} {A M : List (Int × Grp)} {l : List Prt} {s : AState} {B : Nat} (h : ManyAt s b mb A M) (hM : ManyOk B M) (hB : B + 6 * l.length ≤ 1000000) (hl : l.length ≤ 1000) (hes : ∀ p ∈ l, p.es.length ≤ 1000000) :
    Gives prog F_many_Many_Settle [.p b 0, .sl (l.map Prt.av) .no] s (.sl ((outL M l).map Prt.av) .no) s := by
  refine Runs.gives (Runs.freeze ((rn_many_Many_Settle h hM hB hl hes).mono ?_)) (flat_sl Prt.row _)
  rintro _ s' ⟨rfl, g, n, m, T, hc, hT⟩
  have hT0 : T = [] := List.eq_nil_of_length_eq_zero (by omega)
  rw [List.take_length, hT0, List.append_nil] at hc
  refine ⟨s.n + 2, l.length, 10, (outL M l).map Prt.av, _, rfl, hc, ?_, by simp [outL_len], (row_flat _).symm, ⟨by simp; omega, fun x hx => .inl ?_⟩, .refl _⟩
  · intro y hy; obtain ⟨p, _, rfl⟩ := List.mem_map.1 hy; rfl
  · simp (disch := first | omega | (simp <;> omega) | fail) [g x hx]
theorem ct_many_wrong1 {p : Prt} {s : AState} (hl : p.es.length ≤ 1000000) : Gives prog F_many_Many_wrong_1 [p.av] s (.v (.bool (!mayP p))) s := by
  refine Runs.gives' (runs_e h_many_Many_wrong_1 (Nat.le_of_ble_eq_true rfl) ?_) (.v _)
  refine st0 ?_
  refine gv (ct_part_Is (p := p) (by omega)) ?_
  cases h : isPart p with
  | false =>
    refine st1 h ?_
    refine ret_ok rfl ⟨(Grows.refl _).alloc _, ?_⟩
    simp [mayP, h, retVal]; exact .refl _
  | true =>
    refine st1 h ?_
    refine ret_ok rfl ⟨(Grows.refl _).alloc _, ?_⟩
    have e : (!mayP p) = (p.kd == 6) := by simp [mayP, h]; by_cases k : p.kd = 6 <;> simp [k]
    rw [e]; simp [retVal]; exact .refl _
theorem ct_many_Many_wrong {b mb : Nat} {A M : List (Int × Grp)} {l : List Prt} {s : AState} {B : Nat} (h : ManyAt s b mb A M) (hM : ManyOk B M) (hB : B + 6 * l.length ≤ 1000000) (hl : l.length ≤ 1000) (hes : ∀ p ∈ l, p.es.length ≤ 1000000) :
    Gives prog F_many_Many_wrong [.p b 0, .sl (l.map Prt.av) .no] s (.v (.int .i64 (wrongM l))) s := by
  refine Runs.gives (runs_e h_many_Many_wrong (Nat.le_of_ble_eq_true rfl) ?_) (.v _)
  unfold wrongM
  by_cases c1 : l.length = 0
  · have : l = [] := List.eq_nil_of_length_eq_zero c1
    subst this
    refine st0 ?_
    exact ret_ok rfl ⟨⟨Nat.le_refl _, fun x hx => .inl rfl⟩, .refl _⟩
  have c1' : ¬ l = [] := fun e => c1 (by rw [e]; rfl)
  by_cases c2 : 4 < l.length
  · have c2' : (4 : Int) < l.length := by omega
    rw [if_pos (.inr (.inl c2))]
    refine st3 c1 c1' c2' ?_
    exact ret_ok rfl ⟨⟨Nat.le_refl _, fun x hx => .inl rfl⟩, .refl _⟩
  have c2' : ¬ (4 : Int) < l.length := by omega
  refine st3 c1 c1' c2' ?_
  refine gv (ct_slices_ContainsFunc_Part (l := l) (g := F_many_Many_wrong_1) (fs := []) (caps := []) (p := fun p => !mayP p) (by omega) (fun p hp => ct_many_wrong1 (hes p hp))) ?_
  cases c3 : l.any (fun p => !mayP p) with
  | true =>
    rw [if_pos (.inr (.inr rfl))]
    refine st1 c3 ?_
    exact ret_ok rfl ⟨⟨Nat.le_refl _, fun x hx => .inl rfl⟩, .refl _⟩
  | false =>
    rw [if_neg (by simp [c1, c2, c1'])]
    have hmay : ∀ p ∈ l, mayP p = true := fun p hp => by
      have := (List.any_eq_false.1 c3) p hp; simpa using this
    have hrec := out_rec hM hmay (by omega) (by omega)
    refine st1 c3 ?_
    refine gv (ct_many_Many_Settle h hM hB hl hes) ?_
    refine st0 ?_
    refine giv (ct_record_Bytes (r := ⟨1125899906842624, outL M l⟩) (by simp only [outL_len]; omega) (fun p hp => by have := (okP (outL_may hM hmay p hp).1).len; omega)) (by simp; rfl) ?_
    rw [if_pos hrec, if_pos hrec]
    refine st0 ?_
    exact ret_ok rfl ⟨⟨Nat.le_refl _, fun x hx => .inl rfl⟩, .refl _⟩
end Go.Proofs.Ytmfhchaoijiodaa
end
section
namespace Go.Ab
set_option linter.unusedVariables false
def errL (M : List (Int × Grp)) : List Prt → Int
  | [] => 0
  | p :: l => if errM M p = 0 then errL (oneM M p) l else errM M p
def triedE (M : List (Int × Grp)) (l : List Prt) : Int := if wrongM l = 0 then errL M l else 11
def doM (M : List (Int × Grp)) (l : List Prt) : List (Int × Grp) := if triedE M l = 0 then stM M l else M
theorem wrong0 {l : List Prt} (h : wrongM l = 0) : 1 ≤ l.length ∧ l.length ≤ 4 ∧ ∀ p ∈ l, mayP p = true := by
  unfold wrongM at h
  split at h
  · cases h
  · next hc =>
    simp only [not_or, Nat.not_lt, Bool.not_eq_true] at hc
    exact ⟨by omega, by omega, fun p hp => by have := (List.any_eq_false.1 hc.2.2) p hp; simpa using this⟩
theorem wrong11 {l : List Prt} (h : ¬ wrongM l = 0) : wrongM l = 11 := by
  unfold wrongM at h ⊢
  split
  · rfl
  · next hc => rw [if_neg hc] at h; exact absurd rfl h
theorem errL_app {M : List (Int × Grp)} {a b : List Prt} (h : errL M a = 0) (hm : ∀ p ∈ a, mayP p = true) : errL M (a ++ b) = errL (stM M a) b := by
  induction a generalizing M with
  | nil => rfl
  | cons p a ih =>
    have hp : stepM M p = oneM M p := if_pos (hm p (by simp))
    by_cases he : errM M p = 0
    · simp only [errL, if_pos he] at h
      simp only [List.cons_append, errL, if_pos he]
      rw [ih h fun x hx => hm x (by simp [hx]), ← hp]; rfl
    · simp only [errL, if_neg he] at h; exact absurd h he
theorem ManyOk.doM {B : Nat} {M : List (Int × Grp)} (h : ManyOk B M) (l : List Prt) : ManyOk (B + 24) (doM M l) := by
  unfold Ab.doM
  split
  · next he =>
    have hw : wrongM l = 0 := by
      unfold triedE at he
      split at he
      · assumption
      · cases he
    exact (h.st l).more (by have := (wrong0 hw).2.1; omega)
  · exact h.more (by omega)
structure TrI (s : AState) (l : List Prt) (M : List (Int × Grp)) (k : Nat) (s' : AState) : Prop where
  old : ∀ x, x < s.n → s'.get x = s.get x
  n : s.n + 8 ≤ s'.n
  c0 : s'.get s.n = .cells [.v (.pointer none)]
  c1 : s'.get (s.n + 1) = .cells [.v (.int .i64 0)]
  c2 : s'.get (s.n + 4) = .cells [.p (s.n + 3) 0]
  m : ∃ A, ManyAt s' (s.n + 3) (s.n + 2) A (stM M (l.take k))
  b : s'.get (s.n + 5) = .cells [.sl (l.map Prt.av) .no]
  e : errL M (l.take k) = 0
structure TrJ (s : AState) (l : List Prt) (M : List (Int × Grp)) (j : AJump) (s' : AState) : Prop where
  j : j = .ret
  old : ∀ x, x < s.n → s'.get x = s.get x
  n : s.n + 8 ≤ s'.n
  c0 : s'.get s.n = .cells [.v (.pointer none)]
  c1 : s'.get (s.n + 1) = .cells [.v (.int .i64 (errL M l))]
  e : ¬ errL M l = 0
end Go.Ab
namespace Go.Proofs.Ytmfhchaoijiodaa
open Go.Ab
set_option linter.unusedVariables false
set_option linter.unusedSimpArgs false
set_option maxRecDepth 100000
set_option maxHeartbeats 1000000
theorem rn_many_Many_tried {b mb : Nat} {A M : List (Int × Grp)} {l : List Prt} {s : AState} {B : Nat} (h : ManyAt s b mb A M) (hM : ManyOk B M) (hB : B + 6 * l.length ≤ 1000000) (hl : l.length ≤ 1000) (hes : ∀ p ∈ l, p.es.length ≤ 1000000) :
    Runs (compCode prog) prog F_many_Many_tried [.p b 0, .sl (l.map Prt.av) .no] s (fun x s' => (∀ x, x < s.n → s'.get x = s.get x) ∧ s.n ≤ s'.n ∧
      ((triedE M l = 0 ∧ ∃ c mc A', x = .tup [.p c 0, .v (.int .i64 0)] ∧ s.n ≤ c ∧ s.n ≤ mc ∧ ManyAt s' c mc A' (stM M l)) ∨ (¬ triedE M l = 0 ∧ x = .tup [.v (.pointer none), .v (.int .i64 (triedE M l))]))) := by
  have hMI := MI_eq
  refine runs_e h_many_Many_tried (Nat.le_of_ble_eq_true rfl) ?_
  obtain ⟨lb, lm, lne⟩ := h.lt
  repeat (first | simp -dsimp -implicitDefEqProofs (disch := first | omega | (simp <;> omega) | fail) | ((with_reducible first | apply m_1 | apply m_0); (focus ((conv => lhs; simp -dsimp -implicitDefEqProofs (disch := first | omega | (simp <;> omega) | fail)); done))) | ((with_reducible first | apply i_T | apply g_T); (focus (simp -dsimp -implicitDefEqProofs (disch := first | omega | (simp <;> omega) | fail); done))) | ((with_reducible first | apply i_F | apply g_F); (focus (simp -dsimp -implicitDefEqProofs (disch := first | omega | (simp <;> omega) | fail); done))))
  refine giv (ct_many_Many_wrong (b := b) (mb := mb) (A := A) (M := M) (l := l) (h.keep fun x hx => by rcases hx with rfl | rfl <;> simp (disch := first | omega | (simp <;> omega) | fail)) hM hB hl hes) (by simp) ?_
  unfold triedE
  by_cases hw : wrongM l = 0
  case neg =>
    rw [wrong11 hw]
    repeat (first | simp -dsimp -implicitDefEqProofs (disch := first | omega | (simp <;> omega) | fail) | ((with_reducible first | apply m_1 | apply m_0); (focus ((conv => lhs; simp -dsimp -implicitDefEqProofs (disch := first | omega | (simp <;> omega) | fail)); done))) | ((with_reducible first | apply i_T | apply g_T); (focus (simp -dsimp -implicitDefEqProofs (disch := first | omega | (simp <;> omega) | fail); done))) | ((with_reducible first | apply i_F | apply g_F); (focus (simp -dsimp -implicitDefEqProofs (disch := first | omega | (simp <;> omega) | fail); done))))
    refine ret_ok (by simp; rfl) ⟨fun x hx => by simp (disch := first | omega | (simp <;> omega) | fail), by simp <;> omega, .inr ⟨by simp, by simp [retVal]⟩⟩
  rw [hw]
  obtain ⟨w1, w2, w3⟩ := wrong0 hw
  repeat (first | simp -dsimp -implicitDefEqProofs (disch := first | omega | (simp <;> omega) | fail) | ((with_reducible first | apply m_1 | apply m_0); (focus ((conv => lhs; simp -dsimp -implicitDefEqProofs (disch := first | omega | (simp <;> omega) | fail)); done))) | ((with_reducible first | apply i_T | apply g_T); (focus (simp -dsimp -implicitDefEqProofs (disch := first | omega | (simp <;> omega) | fail); done))) | ((with_reducible first | apply i_F | apply g_F); (focus (simp -dsimp -implicitDefEqProofs (disch := first | omega | (simp <;> omega) | fail); done))))
  refine run (rn_many_Many_Copy (b := b) (mb := mb) (A := A) (M := M) (h.keep fun x hx => by rcases hx with rfl | rfl <;> simp (disch := first | omega | (simp <;> omega) | fail))) (by simp) ?_
  rintro _ s1 ⟨rfl, rfl⟩
  repeat (first | simp -dsimp -implicitDefEqProofs (disch := first | omega | (simp <;> omega) | fail) | ((with_reducible first | apply m_1 | apply m_0); (focus ((conv => lhs; simp -dsimp -implicitDefEqProofs (disch := first | omega | (simp <;> omega) | fail)); done))) | ((with_reducible first | apply i_T | apply g_T); (focus (simp -dsimp -implicitDefEqProofs (disch := first | omega | (simp <;> omega) | fail); done))) | ((with_reducible first | apply i_F | apply g_F); (focus (simp -dsimp -implicitDefEqProofs (disch := first | omega | (simp <;> omega) | fail); done))))
  refine giv (ct_slices_Values_Part (xs := l.map Prt.av)) (by first | (simp; done) | rfl | (simp; rfl)) ?_
  repeat (first | simp -dsimp -implicitDefEqProofs (disch := first | omega | (simp <;> omega) | fail) | ((with_reducible first | apply m_1 | apply m_0); (focus ((conv => lhs; simp -dsimp -implicitDefEqProofs (disch := first | omega | (simp <;> omega) | fail)); done))) | ((with_reducible first | apply i_T | apply g_T); (focus (simp -dsimp -implicitDefEqProofs (disch := first | omega | (simp <;> omega) | fail); done))) | ((with_reducible first | apply i_F | apply g_F); (focus (simp -dsimp -implicitDefEqProofs (disch := first | omega | (simp <;> omega) | fail); done))))
  have hsn : ((((((s.alloc (.cells [.v (.pointer none)])).alloc (.cells [.v (.int .i64 0)])).alloc (.map (encM Grp.av A))).alloc (.cells [.m (s.n + 1 + 1)])).alloc (.cells [.p (s.n + 1 + 1 + 1) 0])).alloc (.cells [.sl (l.map Prt.av) .no])).n = s.n + 6 := by simp
  refine w_rangeS (m := l.length) (by simp) (it_slices_Values_Part l (s.n + 5) (by omega)) (by intro x hx; obtain ⟨p, _, rfl⟩ := List.mem_map.1 hx; rfl) (by simp) (fun k s' => TrI s l M k s') (fun j s' => TrJ s l M j s') ?_ ?_ ?_ ?_ ?_ ?_ ?_
  · intro LR
    exact ⟨fun x hx => by simp (disch := first | omega | (simp <;> omega) | fail), by simp, by simp (disch := first | omega | (simp <;> omega) | fail), by simp (disch := first | omega | (simp <;> omega) | fail), by simp (disch := first | omega | (simp <;> omega) | fail), ⟨A, by simp (disch := first | omega | (simp <;> omega) | fail), by simp (disch := first | omega | (simp <;> omega) | fail), h.r⟩, by simp (disch := first | omega | (simp <;> omega) | fail), rfl⟩
  · rintro k s' h; exact h.b
  · rintro k s' o hn ⟨old, n, c0, c1, c2, ⟨A1, m⟩, b, e⟩
    exact ⟨fun x hx => by simp (disch := first | omega | (simp <;> omega) | fail) [old x hx], by simp; omega, by simp (disch := first | omega | (simp <;> omega) | fail) [c0], by simp (disch := first | omega | (simp <;> omega) | fail) [c1], by simp (disch := first | omega | (simp <;> omega) | fail) [c2], ⟨A1, m.keep fun x hx => by rcases hx with rfl | rfl <;> simp (disch := first | omega | (simp <;> omega) | fail)⟩, by simp (disch := first | omega | (simp <;> omega) | fail) [b], e⟩
  · rintro j s' o hn ⟨j, old, n, c0, c1, e⟩
    exact ⟨j, fun x hx => by simp (disch := first | omega | (simp <;> omega) | fail) [old x hx], by simp; omega, by simp (disch := first | omega | (simp <;> omega) | fail) [c0], by simp (disch := first | omega | (simp <;> omega) | fail) [c1], e⟩
  · intro LR LB LJ hLB hLR k hk s' hd hLL hln hI
    have hk' : k < l.length := by simpa using hk
    obtain ⟨old, n, c0, c1, c2, ⟨A1, m⟩, b, e⟩ := hI
    simp only [hsn, List.getElem_map, List.zip_cons_cons, List.zip_nil_right, List.reverse_cons, List.reverse_nil, List.nil_append, List.cons_append] at hd hLL hln ⊢
    have hq := w3 _ (List.getElem_mem hk')
    have es := stM_snoc (M := M) hk'
    have et : l.take (k + 1) = l.take k ++ [l[k]] := (List.take_append_getElem hk').symm
    have el : l = l.take k ++ (l[k] :: l.drop (k + 1)) := by rw [← List.drop_eq_getElem_cons hk', List.take_append_drop]
    have hM2 := hM.st (l.take k)
    have hB2 : B + 6 * (l.take k).length ≤ 1000000 := by rw [List.length_take]; omega
    have hw3 : ∀ p ∈ l.take k, mayP p = true := fun p hp => w3 p (List.mem_of_mem_take hp)
    have e1 := errL_app (b := [l[k]]) e hw3
    have e2 := errL_app (b := l[k] :: l.drop (k + 1)) e hw3
    rw [← et] at e1
    rw [← el] at e2
    generalize stM M (l.take k) = M2 at m hM2 es e1 e2
    generalize hqe : l[k] = q at hq es e1 e2
    have hip : isPart q = true := by simp only [mayP, Bool.and_eq_true] at hq; exact hq.1
    have hst : stepM M2 q = oneM M2 q := if_pos hq
    refine st2 hLL c2 ?_
    refine run (rn_many_Many_one (M := M2) (A := A1) (b := s.n + 3) (mb := s.n + 2) (m.keep fun x hx => by rcases hx with rfl | rfl <;> simp (disch := first | omega | (simp <;> omega) | fail)) hM2 hB2 hip) (by simp) ?_
    rintro _ s3 ⟨rfl, mt, A3, k1⟩
    have n3 := mt.n
    simp at n3
    have q0 : s3.get s.n = .cells [.v (.pointer none)] := (mt.keep _ (by simp <;> omega) (by simp <;> omega)).trans (dz1 c0)
    have q1 : s3.get (s.n + 1) = .cells [.v (.int .i64 0)] := (mt.keep _ (by simp <;> omega) (by simp <;> omega)).trans (dz1 c1)
    have q2 : s3.get (s.n + 4) = .cells [.p (s.n + 3) 0] := (mt.keep _ (by simp <;> omega) (by simp <;> omega)).trans (dz1 c2)
    have q3 : s3.get (s.n + 5) = .cells [.sl (l.map Prt.av) .no] := (mt.keep _ (by simp <;> omega) (by simp <;> omega)).trans (dz1 b)
    have q4 : ∀ x, x < s.n → s3.get x = s.get x := fun x hx => ((mt.keep _ (by simp <;> omega) (by simp <;> omega)).trans (dz0)).trans (old x hx)
    have q5 : s3.get (s.n + 6) = .defd := (mt.keep _ (by simp <;> omega) (by simp <;> omega)).trans (by simp (disch := first | omega | (simp <;> omega) | fail) [hd])
    have q6 : s3.get (s.n + 6 + 1) = LB := (mt.keep _ (by simp <;> omega) (by simp <;> omega)).trans (dz0)
    by_cases he : errM M2 q = 0
    · refine st2 he q6 ?_
      refine fins_n (fun d hd' => by cases hd'; simp (disch := first | omega | (simp <;> omega) | fail) [q5]) (dz0) ⟨fun x hx => dz1 (q4 x hx), by simp; omega, dz1 q0, dz1 q1, dz1 q2, ⟨A3, ?_⟩, dz1 q3, ?_⟩
      · rw [es, hst]; exact k1.keep fun x hx => by rcases hx with rfl | rfl <;> simp (disch := first | omega | (simp <;> omega) | fail)
      · rw [e1]; simp only [errL, if_pos he]
    · have e3 : errL M l = errM M2 q := by rw [e2]; simp only [errL, if_neg he]
      refine st4 he q0 q1 q6 ?_
      refine fins_j (fun d hd' => by cases hd'; simp (disch := first | omega | (simp <;> omega) | fail) [q5]) (dz0) ⟨rfl, fun x hx => dz1 (q4 x hx), by simp; omega, dz0, by rw [e3]; simp (disch := first | omega | (simp <;> omega) | fail), by rw [e3]; exact he⟩
  · rintro s' hd hln ⟨old, n, c0, c1, c2, ⟨A1, m⟩, b, e⟩
    simp only [hsn] at hd hln ⊢
    rw [List.take_length] at m e
    refine st3 c0 c1 c2 ?_
    refine ret_okD (by simp (disch := first | omega | (simp <;> omega) | fail) [hd]) (by simp) (by simp (disch := first | omega | (simp <;> omega) | fail) [killAll]; rfl) ⟨fun x hx => by simp (disch := first | omega | (simp <;> omega) | fail) [killAll, old x hx], by simp [killAll]; omega, .inl ⟨e, s.n + 3, s.n + 2, A1, by simp [retVal], by omega, by omega, m.keep fun x hx => by rcases hx with rfl | rfl <;> simp (disch := first | omega | (simp <;> omega) | fail) [killAll]⟩⟩
  · rintro j s' hd hln ⟨rfl, old, n, c0, c1, e⟩
    simp only [hsn] at hd hln ⊢
    repeat (first | simp -dsimp -implicitDefEqProofs (disch := first | omega | (simp <;> omega) | fail) [AJump.exitOf, c0, c1] | ((with_reducible first | apply m_1 | apply m_0); (focus ((conv => lhs; simp -dsimp -implicitDefEqProofs (disch := first | omega | (simp <;> omega) | fail) [AJump.exitOf, c0, c1]); done))) | ((with_reducible first | apply i_T | apply g_T); (focus (simp -dsimp -implicitDefEqProofs (disch := first | omega | (simp <;> omega) | fail) [AJump.exitOf, c0, c1]; done))) | ((with_reducible first | apply i_F | apply g_F); (focus (simp -dsimp -implicitDefEqProofs (disch := first | omega | (simp <;> omega) | fail) [AJump.exitOf, c0, c1]; done))))
    refine ret_okD (by simp (disch := first | omega | (simp <;> omega) | fail) [hd]) (by simp) (by simp (disch := first | omega | (simp <;> omega) | fail) [killAll, c0, c1]; rfl) ⟨fun x hx => by simp (disch := first | omega | (simp <;> omega) | fail) [killAll, old x hx], by simp [killAll]; omega, .inr ⟨e, by simp [retVal]⟩⟩
theorem rn_many_Many_Do {b mb : Nat} {A M : List (Int × Grp)} {l : List Prt} {s : AState} {B : Nat} (h : ManyAt s b mb A M) (hM : ManyOk B M) (hB : B + 6 * l.length ≤ 1000000) (hl : l.length ≤ 1000) (hes : ∀ p ∈ l, p.es.length ≤ 1000000) :
    Runs (compCode prog) prog F_many_Many_Do [.p b 0, .sl (l.map Prt.av) .no] s (fun x s' => x = .v (.int .i64 (triedE M l)) ∧ (∀ x, x < s.n → x ≠ b → s'.get x = s.get x) ∧ s.n ≤ s'.n ∧ ∃ mb' A', (mb' = mb ∨ s.n ≤ mb') ∧ ManyAt s' b mb' A' (doM M l)) := by
  refine runs_e h_many_Many_Do (Nat.le_of_ble_eq_true rfl) ?_
  obtain ⟨lb, lm, lne⟩ := h.lt
  refine st0 ?_
  refine rn0 (rn_many_Many_tried h hM hB hl hes) ?_
  unfold doM
  rintro _ s1 ⟨old, n, ⟨he, c, mc, A', rfl, k1, k2, k3⟩ | ⟨he, rfl⟩⟩
  · have a1 := k3.b
    have a2 := k3.m
    have ln := AState.lt_of_get a2 (by simp)
    have lc := AState.lt_of_get a1 (by simp)
    have hb1 := (old b lb).trans h.b
    rw [if_pos he]
    refine st2 a1 hb1 ?_
    exact ret_ok rfl ⟨by rw [he]; rfl, fun x hx hn => dz2 hn (old x hx), by simp; omega, mc, A', .inr k2, ⟨dz0, dz1 a2, k3.r⟩⟩
  · rw [if_neg he]
    refine st1 he ?_
    exact ret_ok rfl ⟨rfl, fun x hx hn => old x hx, n, mb, A, .inl rfl, h.keep fun x hx => by rcases hx with rfl | rfl <;> exact old _ (by assumption)⟩
end Go.Proofs.Ytmfhchaoijiodaa
end
section
namespace Go.Proofs.Ytmfhchaoijiodaa
open Go.Ab
set_option linter.unusedVariables false
set_option linter.unusedSimpArgs false
set_option maxRecDepth 100000
set_option maxHeartbeats 4000000
def Ones (xs : List AV) : Prop := ∀ x ∈ xs, x.cells = [x] ∧ x.one = true ∧ x.strip = x
theorem Ones.ints {k : IntKind} (l : List Int) : Ones (l.map fun n => .v (.int k n)) := by intro x hx; obtain ⟨n, _, rfl⟩ := List.mem_map.1 hx; exact ⟨rfl, rfl, rfl⟩
theorem ct_slices_Values_int {xs : List AV} {s : AState} : Gives prog F_slices_Values_int [.sl xs .no] s (.f (.func F_slices_Values_int_1) [] [.p s.n 0]) (s.alloc (.cells [.sl xs .no])) := by
  refine runs_e h_slices_Values_int (Nat.le_of_ble_eq_true rfl) ?_
  refine st0 ?_
  exact ret_ok rfl ⟨rfl, rfl⟩
theorem it_slices_Values_int (xs : List AV) (hx : Ones xs) (b : Nat) (hlen : xs.length < 9223372036854775808) : Iter prog F_slices_Values_int_1 [] [.p b 0] (xs.map fun e => [e]) (fun s => s.get b = .cells [.sl xs .no]) := by
  intro l s I J hp ha hj hy h0
  refine runs_e h_slices_Values_int_1 (Nat.le_of_ble_eq_true rfl) ?_
  refine st1 (hp 0 s h0) ?_
  refine loop_ok [0, 5, 6, 7] (fun m a s1 => ∃ j : Nat, j + m = xs.length ∧ I j s1 ∧ a = { t := den 16 [(0, .y l), (5, .sl xs .no), (6, .v (.int .i64 xs.length)), (7, .v (.int .i64 j))], d := [] }) xs.length ?_ ?_
  · exact ⟨0, by simp, h0, by simp⟩
  · rintro m a s1 ⟨j, hjm, hI, rfl⟩
    by_cases hlt : j < xs.length
    · have hw : IntKind.wrap .i64 ((j : Int) + 1) = ((j + 1 : Nat) : Int) := by rw [wrap_i64 (by omega) (by omega)]; omega
      obtain ⟨hc, ho, _⟩ := hx _ (List.getElem_mem hlt)
      refine st3 hlt hc ho ?_
      have hy' := hy j (by simpa using hlt) _ hI
      simp only [List.getElem_map] at hy'
      refine yr0 (hy') ?_
      rintro _ s2 (⟨rfl, hI2⟩ | ⟨rfl, hJ⟩)
      · refine st1 hw ?_
        exact ⟨m - 1, by omega, j + 1, by omega, hI2, by simp⟩
      · refine st0 ?_
        exact ret_ok rfl (.inr hJ)
    · refine st1 hlt ?_
      have : j = xs.length := by omega
      subst this
      exact end_ok rfl (.inl (by simpa using hI))
end Go.Proofs.Ytmfhchaoijiodaa
end
section
namespace Go.Ab
set_option linter.unusedVariables false
def grpsM (M : List (Int × Grp)) : List Grp := M.map (·.2)
structure AllI (s : AState) (b : Nat) (ks l : List AV) (s' : AState) : Prop where
  b0 : ∃ tk, s'.get (s.n + 1) = .cells [.sl l tk] ∧ May (s.n + 6) s' l tk
  b1 : s'.get s.n = .cells [.p b 0]
  b2 : s'.get (s.n + 3) = .cells [.sl ks .no]
  n : s.n + 6 ≤ s'.n
  old : ∀ x, x < s.n → s'.get x = s.get x
theorem AllI.alloc {s : AState} {b : Nat} {ks l : List AV} {s' : AState} (h : AllI s b ks l s') (o : AObj) : AllI s b ks l (s'.alloc o) := by
  obtain ⟨⟨tk, g1, g2⟩, b1, b2, n, old⟩ := h
  exact ⟨⟨tk, dz1 g1, g2.alloc o⟩, dz1 b1, dz1 b2, by simp; omega, fun x hx => dz1 (old x hx)⟩
end Go.Ab
namespace Go.Proofs.Ytmfhchaoijiodaa
open Go.Ab
set_option linter.unusedVariables false
set_option linter.unusedSimpArgs false
set_option maxRecDepth 100000
set_option maxHeartbeats 8000000
theorem ct_many_Many_All {b mb : Nat} {A M : List (Int × Grp)} {s : AState} {B : Nat} (h : ManyAt s b mb A M) (hM : ManyOk B M) (hB : B ≤ 1000000) : Gives prog F_many_Many_All [.p b 0] s (.sl ((grpsM M).map Grp.av) .no) s := by
  obtain ⟨lb, lm, lne⟩ := h.lt
  obtain ⟨h1, h2, h3⟩ := h
  have hrng := hM.rng
  have hsz := hM.size
  refine Runs.gives (runs_e h_many_Many_All (Nat.le_of_ble_eq_true rfl) ?_) (flat_sl Grp.row _)
  repeat (first | simp -dsimp -implicitDefEqProofs (disch := first | omega | (simp <;> omega) | fail) [h1] | ((with_reducible first | apply m_1 | apply m_0); (focus ((conv => lhs; simp -dsimp -implicitDefEqProofs (disch := first | omega | (simp <;> omega) | fail) [h1]); done))) | ((with_reducible first | apply i_T | apply g_T); (focus (simp -dsimp -implicitDefEqProofs (disch := first | omega | (simp <;> omega) | fail) [h1]; done))) | ((with_reducible first | apply i_F | apply g_F); (focus (simp -dsimp -implicitDefEqProofs (disch := first | omega | (simp <;> omega) | fail) [h1]; done))))
  refine giv (ct_maps_Keys_Group (b := mb)) (by first | (simp; done) | rfl | (simp; rfl)) ?_
  repeat (first | simp -dsimp -implicitDefEqProofs (disch := first | omega | (simp <;> omega) | fail) | ((with_reducible first | apply m_1 | apply m_0); (focus ((conv => lhs; simp -dsimp -implicitDefEqProofs (disch := first | omega | (simp <;> omega) | fail)); done))) | ((with_reducible first | apply i_T | apply g_T); (focus (simp -dsimp -implicitDefEqProofs (disch := first | omega | (simp <;> omega) | fail); done))) | ((with_reducible first | apply i_F | apply g_F); (focus (simp -dsimp -implicitDefEqProofs (disch := first | omega | (simp <;> omega) | fail); done))))
  obtain ⟨ks, hks⟩ : ∃ ks : List AV, ks = (M.map (·.1)).map fun n => .v (.int .i64 n) := ⟨_, rfl⟩
  have hon : Ones ks := by rw [hks]; exact Ones.ints _
  have hkl : ks.length = M.length := by rw [hks]; simp
  have hkg : ∀ k (h : k < M.length) (h' : k < ks.length), ks[k] = .v (.int .i64 M[k].1) := fun k h h' => by simp only [hks, List.getElem_map]
  have hso : ∀ {s' : AState}, s'.get (s.n + 2) = .cells [.m mb] → s'.get mb = .map (encM Grp.av A) → Gives prog F_slices_Sorted_int [.f (.func F_maps_Keys_Group_1) [] [.p (s.n + 2) 0]] s' (.sl ks .no) s' := fun {s'} q1 q2 => by
    rw [hks]; exact ct_sorted_Group (B := M) (A := A) (enc := Grp.av) (cb := s.n + 2) (b := mb) q1 q2 h3 (fun x hx => by have := hrng x hx; omega) (by omega)
  refine giv (hso (by simp (disch := first | omega | (simp <;> omega) | fail)) (by simp (disch := first | omega | (simp <;> omega) | fail) [h2])) (by first | (simp; done) | rfl | (simp; rfl)) ?_
  repeat (first | simp -dsimp -implicitDefEqProofs (disch := first | omega | (simp <;> omega) | fail) | ((with_reducible first | apply m_1 | apply m_0); (focus ((conv => lhs; simp -dsimp -implicitDefEqProofs (disch := first | omega | (simp <;> omega) | fail)); done))) | ((with_reducible first | apply i_T | apply g_T); (focus (simp -dsimp -implicitDefEqProofs (disch := first | omega | (simp <;> omega) | fail); done))) | ((with_reducible first | apply i_F | apply g_F); (focus (simp -dsimp -implicitDefEqProofs (disch := first | omega | (simp <;> omega) | fail); done))))
  refine giv (ct_slices_Values_int (xs := ks)) (by first | (simp; done) | rfl | (simp; rfl)) ?_
  repeat (first | simp -dsimp -implicitDefEqProofs (disch := first | omega | (simp <;> omega) | fail) | ((with_reducible first | apply m_1 | apply m_0); (focus ((conv => lhs; simp -dsimp -implicitDefEqProofs (disch := first | omega | (simp <;> omega) | fail)); done))) | ((with_reducible first | apply i_T | apply g_T); (focus (simp -dsimp -implicitDefEqProofs (disch := first | omega | (simp <;> omega) | fail); done))) | ((with_reducible first | apply i_F | apply g_F); (focus (simp -dsimp -implicitDefEqProofs (disch := first | omega | (simp <;> omega) | fail); done))))
  have hsn : ((((s.alloc (.cells [.p b 0])).alloc (.cells [.sl [] .zero])).alloc (.cells [.m mb])).alloc (.cells [.sl ks .no])).n = s.n + 4 := by simp
  have hgl : ∀ k, (grpsM (M.take k)).length ≤ 1000 := fun k => by simp only [grpsM, List.length_map, List.length_take]; omega
  refine w_rangeS (m := M.length) (by simp) (it_slices_Values_int ks hon (s.n + 3) (by omega)) (by intro x hx; obtain ⟨p, _, rfl⟩ := List.mem_map.1 hx; rfl) (by simp [hkl])
    (fun k s' => AllI s b ks ((grpsM (M.take k)).map Grp.av) s') (fun j s' => False) ?_ ?_ ?_ ?_ ?_ ?_ ?_
  · intro LR
    exact ⟨⟨.zero, by simp (disch := first | omega | (simp <;> omega) | fail) [grpsM], trivial⟩, by simp (disch := first | omega | (simp <;> omega) | fail), by simp (disch := first | omega | (simp <;> omega) | fail), by simp, fun x hx => by simp (disch := first | omega | (simp <;> omega) | fail)⟩
  · intro k s' h; exact h.b2
  · intro k s' o hn h; exact h.alloc o
  · intro j s' o hn h; exact h.elim
  · intro LR LB LJ hLB hLR k hk s' hd hLL hln hI
    have hk' : k < M.length := by simpa [hkl] using hk
    have hkk := hkg k hk' (by omega)
    obtain ⟨⟨tk, g1, g2⟩, b1, b2, n, old⟩ := hI
    have hlk : lk A M[k].1 = some M[k].2 := by rw [h3.lk]; exact hM.srt.lk_mem (List.getElem_mem hk')
    have hgs : grpsM (M.take (k + 1)) = grpsM (M.take k) ++ [M[k].2] := by
      have e : M.take (k + 1) = M.take k ++ [M[k]] := (List.take_append_getElem hk').symm
      unfold grpsM; rw [e, List.map_append]; rfl
    have hgk := hgl k
    have hbl := hM.len _ (List.getElem_mem hk')
    simp only [hsn, List.getElem_map, List.zip_cons_cons, List.zip_nil_right, List.reverse_cons, List.reverse_nil, List.nil_append, List.cons_append] at hd hLL hln ⊢
    rw [hkk]
    generalize M[k] = x at hlk hgs hbl ⊢
    have o1 := (old b lb).trans h1
    have o2 := (old mb lm).trans h2
    repeat (first | simp -dsimp -implicitDefEqProofs (disch := first | omega | (simp <;> omega) | fail) [hLL, g1, b1, o1] | (with_reducible apply m_draw) | ((with_reducible refine ⟨m_op ?_, ?_⟩); (focus (simp -dsimp -implicitDefEqProofs (disch := first | omega | (simp <;> omega) | fail) [hLL, g1, b1, o1]; done))) | ((with_reducible first | apply m_d1 rfl | apply m_dE | apply m_dE0); (focus ((conv => lhs; simp -dsimp -implicitDefEqProofs (disch := first | omega | (simp <;> omega) | fail) [hLL, g1, b1, o1]); done))) | ((with_reducible first | apply m_1 | apply m_0); (focus ((conv => lhs; simp -dsimp -implicitDefEqProofs (disch := first | omega | (simp <;> omega) | fail) [hLL, g1, b1, o1]); done))) | ((with_reducible first | apply i_T | apply g_T | apply h_T); (focus (simp -dsimp -implicitDefEqProofs (disch := first | omega | (simp <;> omega) | fail) [hLL, g1, b1, o1]; done))) | ((with_reducible first | apply i_F | apply g_F | apply h_F); (focus (simp -dsimp -implicitDefEqProofs (disch := first | omega | (simp <;> omega) | fail) [hLL, g1, b1, o1]; done))))
    refine q_look (κ := Int) (A := A) (enc := Grp.av) (k := x.1) (b := mb) (by simp) (by simp (disch := first | omega | (simp <;> omega) | fail) [o2]) (by simp; rfl) ?_
    unfold lkV
    rw [hlk]
    refine sd4 hLL g1 b1 o1 ?_
    refine gv (ct_many_copied (g := x.2) (by omega)) ?_
    repeat (first | simp -dsimp -implicitDefEqProofs (disch := first | omega | (simp <;> omega) | fail) [g1] | (with_reducible apply m_draw) | ((with_reducible refine ⟨m_op ?_, ?_⟩); (focus (simp -dsimp -implicitDefEqProofs (disch := first | omega | (simp <;> omega) | fail) [g1]; done))) | ((with_reducible first | apply m_d1 rfl | apply m_dE | apply m_dE0); (focus ((conv => lhs; simp -dsimp -implicitDefEqProofs (disch := first | omega | (simp <;> omega) | fail) [g1]); done))) | ((with_reducible first | apply m_1 | apply m_0); (focus ((conv => lhs; simp -dsimp -implicitDefEqProofs (disch := first | omega | (simp <;> omega) | fail) [g1]); done))) | ((with_reducible first | apply i_T | apply g_T | apply h_T); (focus (simp -dsimp -implicitDefEqProofs (disch := first | omega | (simp <;> omega) | fail) [g1]; done))) | ((with_reducible first | apply i_F | apply g_F | apply h_F); (focus (simp -dsimp -implicitDefEqProofs (disch := first | omega | (simp <;> omega) | fail) [g1]; done))))
    refine q_appS (xs := (grpsM (M.take k)).map Grp.av) (tk := tk) (ys := [x.2.av]) (t2 := .zero) (N := s.n + 6) (by simp) (by simp) (by simp; omega) (g2.set _ (by omega)) (head_map Grp.row _) (by simp) (by simp; omega) (by simp; omega) ?_
    intro s2 tk2 hm2 hlow hext
    have k0 : s2.get (s.n + 1) = .cells [.sl ((grpsM (M.take k)).map Grp.av) tk] := by rw [hlow _ (by omega)]; simp (disch := first | omega | (simp <;> omega) | fail) [g1]
    have k1 : s2.get s.n = .cells [.p b 0] := by rw [hlow _ (by omega)]; simp (disch := first | omega | (simp <;> omega) | fail) [b1]
    have k2 : s2.get (s.n + 4) = .defd := by rw [hlow _ (by omega)]; simp (disch := first | omega | (simp <;> omega) | fail) [hd]
    have k3 : s2.get (s.n + 4 + 1) = LB := by rw [hlow _ (by omega)]; simp (disch := first | omega | (simp <;> omega) | fail)
    have k5 : s2.get (s.n + 3) = .cells [.sl ks .no] := by rw [hlow _ (by omega)]; simp (disch := first | omega | (simp <;> omega) | fail) [b2]
    have k4 : ∀ x, x < s.n → s2.get x = s.get x := fun x hx => by rw [hlow _ (by omega)]; simp (disch := first | omega | (simp <;> omega) | fail) [old x hx]
    have hn2 : s.n + 6 ≤ s2.n := by have := hext.1; simp at this; omega
    clear hext hlow
    repeat (first | simp -dsimp -implicitDefEqProofs (disch := first | omega | (simp <;> omega) | fail) [k0] | (with_reducible apply m_draw) | ((with_reducible refine ⟨m_op ?_, ?_⟩); (focus (simp -dsimp -implicitDefEqProofs (disch := first | omega | (simp <;> omega) | fail) [k0]; done))) | ((with_reducible first | apply m_d1 rfl | apply m_dE | apply m_dE0); (focus ((conv => lhs; simp -dsimp -implicitDefEqProofs (disch := first | omega | (simp <;> omega) | fail) [k0]); done))) | ((with_reducible first | apply m_1 | apply m_0); (focus ((conv => lhs; simp -dsimp -implicitDefEqProofs (disch := first | omega | (simp <;> omega) | fail) [k0]); done))) | ((with_reducible first | apply i_T | apply g_T | apply h_T); (focus (simp -dsimp -implicitDefEqProofs (disch := first | omega | (simp <;> omega) | fail) [k0]; done))) | ((with_reducible first | apply i_F | apply g_F | apply h_F); (focus (simp -dsimp -implicitDefEqProofs (disch := first | omega | (simp <;> omega) | fail) [k0]; done))))
    repeat (first | simp -dsimp -implicitDefEqProofs (disch := first | omega | (simp <;> omega) | fail) [k0, k3] | ((with_reducible first | apply m_1 | apply m_0); (focus ((conv => lhs; simp -dsimp -implicitDefEqProofs (disch := first | omega | (simp <;> omega) | fail) [k0, k3]); done))) | ((with_reducible first | apply i_T | apply g_T); (focus (simp -dsimp -implicitDefEqProofs (disch := first | omega | (simp <;> omega) | fail) [k0, k3]; done))) | ((with_reducible first | apply i_F | apply g_F); (focus (simp -dsimp -implicitDefEqProofs (disch := first | omega | (simp <;> omega) | fail) [k0, k3]; done))))
    refine fins_n (fun d hd => by cases hd; simp (disch := first | omega | (simp <;> omega) | fail) [k2]) (by simp (disch := first | omega | (simp <;> omega) | fail)) ⟨⟨tk2, by simp (disch := first | omega | (simp <;> omega) | fail) [hgs], ?_⟩, by simp (disch := first | omega | (simp <;> omega) | fail) [k1], by simp (disch := first | omega | (simp <;> omega) | fail) [k5], by simpa using hn2, fun x hx => by simp (disch := first | omega | (simp <;> omega) | fail) [k4 x hx]⟩
    rw [hgs]
    simpa using (hm2.set _ (by omega)).set _ (by omega)
  · rintro s' hd hln ⟨⟨tk, g1, g2⟩, b1, b2, n, old⟩
    rw [List.take_length] at g1 g2
    simp only [hsn] at hd hln ⊢
    refine st1 g1 ?_
    refine ret_okD ?_ ?_ rfl ⟨⟨?_, fun x hx => .inl ?_⟩, AV.le_no _ _⟩
    · simp (disch := first | omega | (simp <;> omega) | fail) [hd]
    · simp
    · simp [killAll]; omega
    · simp (disch := first | omega | (simp <;> omega) | fail) [killAll, old x hx]
  · intro j s' _ _ h; exact h.elim
end Go.Proofs.Ytmfhchaoijiodaa
end
section
namespace Go.Ab
set_option linter.unusedVariables false
def ptr (b : Nat) : AV := .p b 0
end Go.Ab
end
section
namespace Go.Proofs.Ytmfhchaoijiodaa
open Go.Ab
set_option linter.unusedVariables false
set_option linter.unusedSimpArgs false
set_option maxRecDepth 100000
set_option maxHeartbeats 8000000
theorem ct_slices_EqualFunc_Group {l m : List Grp} {s : AState} (hl : (l.length : Int) < 9223372036854775808) (hes : ∀ g ∈ l, (g.es.length : Int) < 9223372036854775808) :
    Gives prog F_slices_EqualFunc_Group [.sl (l.map Grp.av) .no, .sl (m.map Grp.av) .no, .f (.func F_group_Same) [] []] s (.v (.bool (decide (l = m)))) s := by
  refine Runs.gives' (runs_e h_slices_EqualFunc_Group (Nat.le_of_ble_eq_true rfl) ?_) (.v _)
  by_cases hlen : l.length = m.length
  · rw [← all_eq hlen]
    have hI : (m.length : Int) = l.length := by omega
    repeat (first | simp -dsimp -implicitDefEqProofs (disch := first | omega | (simp <;> omega) | fail) [hI] | ((with_reducible first | apply m_1 | apply m_0); (focus ((conv => lhs; simp -dsimp -implicitDefEqProofs (disch := first | omega | (simp <;> omega) | fail) [hI]); done))) | ((with_reducible first | apply i_T | apply g_T); (focus (simp -dsimp -implicitDefEqProofs (disch := first | omega | (simp <;> omega) | fail) [hI]; done))) | ((with_reducible first | apply i_F | apply g_F); (focus (simp -dsimp -implicitDefEqProofs (disch := first | omega | (simp <;> omega) | fail) [hI]; done))))
    refine loop_ok [0, 1, 2, 15, 16, 17] (fun k a s1 => Grows s s1 ∧ ∃ i : Nat, i + k = l.length ∧ ((List.range i).all fun i => decide (l.getD i default = m.getD i default)) = true ∧ a = { t := den 32 [(0, .sl (l.map Grp.av) .no), (1, .sl (m.map Grp.av) .no), (2, .f (.func F_group_Same) [] []), (15, .sl (l.map Grp.av) .no), (16, .v (.int .i64 l.length)), (17, .v (.int .i64 i))], d := [] }) l.length ?_ ?_
    · exact ⟨.refl s, 0, by simp, rfl, by simp⟩
    · rintro k a s1 ⟨hg, i, hik, hall, rfl⟩
      by_cases hlt : i < l.length
      · have hlt2 : i < m.length := by omega
        have hw : IntKind.wrap .i64 ((i : Int) + 1) = (i : Int) + 1 := wrap_i64 (by omega) (by omega)
        have e1 : l.getD i default = l[i] := by simp [hlt]
        have e2 : m.getD i default = m[i] := by simp [hlt2]
        have hG := hes _ (List.getElem_mem hlt)
        by_cases he : l[i] = m[i]
        · repeat (first | simp -dsimp -implicitDefEqProofs (disch := first | omega | (simp <;> omega) | fail) [hlt, hlt2] | ((with_reducible first | apply m_1 | apply m_0); (focus ((conv => lhs; simp -dsimp -implicitDefEqProofs (disch := first | omega | (simp <;> omega) | fail) [hlt, hlt2]); done))) | ((with_reducible first | apply i_T | apply g_T); (focus (simp -dsimp -implicitDefEqProofs (disch := first | omega | (simp <;> omega) | fail) [hlt, hlt2]; done))) | ((with_reducible first | apply i_F | apply g_F); (focus (simp -dsimp -implicitDefEqProofs (disch := first | omega | (simp <;> omega) | fail) [hlt, hlt2]; done))))
          refine gv (ct_group_Same (a := l[i]) (b := m[i]) hG) ?_
          repeat (first | simp -dsimp -implicitDefEqProofs (disch := first | omega | (simp <;> omega) | fail) [he] | ((with_reducible first | apply m_1 | apply m_0); (focus ((conv => lhs; simp -dsimp -implicitDefEqProofs (disch := first | omega | (simp <;> omega) | fail) [he]); done))) | ((with_reducible first | apply i_T | apply g_T); (focus (simp -dsimp -implicitDefEqProofs (disch := first | omega | (simp <;> omega) | fail) [he]; done))) | ((with_reducible first | apply i_F | apply g_F); (focus (simp -dsimp -implicitDefEqProofs (disch := first | omega | (simp <;> omega) | fail) [he]; done))))
          exact ⟨k - 1, by omega, (hg.alloc _).alloc _, i + 1, by omega, all_step hall (by simp only [e1, e2]; simp [he]), by simp [hw]⟩
        · repeat (first | simp -dsimp -implicitDefEqProofs (disch := first | omega | (simp <;> omega) | fail) [hlt, hlt2] | ((with_reducible first | apply m_1 | apply m_0); (focus ((conv => lhs; simp -dsimp -implicitDefEqProofs (disch := first | omega | (simp <;> omega) | fail) [hlt, hlt2]); done))) | ((with_reducible first | apply i_T | apply g_T); (focus (simp -dsimp -implicitDefEqProofs (disch := first | omega | (simp <;> omega) | fail) [hlt, hlt2]; done))) | ((with_reducible first | apply i_F | apply g_F); (focus (simp -dsimp -implicitDefEqProofs (disch := first | omega | (simp <;> omega) | fail) [hlt, hlt2]; done))))
          refine gv (ct_group_Same (a := l[i]) (b := m[i]) hG) ?_
          refine st1 he ?_
          refine ret_ok rfl ⟨(hg.alloc _).alloc _, ?_⟩
          rw [all_stop hlt (by simp only [e1, e2]; simp [he])]; exact .refl _
      · refine st1 hlt ?_
        have : i = l.length := by omega
        subst this
        exact ret_ok rfl ⟨hg, by rw [hall]; exact .refl _⟩
  · have hI : ¬ (l.length : Int) = m.length := by omega
    refine st1 hI ?_
    refine ret_ok rfl ⟨.refl s, ?_⟩
    have : ¬ l = m := fun e => hlen (by rw [e])
    simp [this, AV.le.refl]
end Go.Proofs.Ytmfhchaoijiodaa
end
section
namespace Go.Ab
set_option linter.unusedVariables false
def appP (g i : Int) (d : ByteArray) : Prt := ⟨g, 1, [⟨i, 3, d⟩], 0, 0, 0, 0, 0, false, false⟩
def desP (g : Int) : Prt := ⟨g, 5, [], 0, 0, 0, 0, 0, false, false⟩
def kL1 : List Prt := [appP 5 1 ⟨#[97]⟩, appP 2 1 ⟨#[98]⟩]
def kL3 : List Prt := [appP 5 2 ⟨#[99]⟩, appP 5 9 ⟨#[100]⟩]
def kL5 : List Prt := [⟨5, 4, [], 0, 0, 0, 1, 3, false, false⟩]
def kM : List (Int × Grp) := [(2, ⟨2, 1, 0, 0, 0, 0, [⟨1, 3, ⟨#[98]⟩⟩]⟩), (5, ⟨5, 1, 0, 0, 0, 0, [⟨1, 3, ⟨#[97]⟩⟩]⟩)]
theorem k1 : triedE [] kL1 = 0 ∧ doM [] kL1 = kM := by decide +kernel
theorem k2 : triedE kM [desP 9] = 13 ∧ doM kM [desP 9] = kM := by decide +kernel
theorem k3 : triedE kM kL3 = 14 ∧ doM kM kL3 = kM := by decide +kernel
theorem k4 : triedE kM [] = 11 ∧ doM kM [] = kM := by decide +kernel
theorem k5 : lk kM 5 = some ⟨5, 1, 0, 0, 0, 0, [⟨1, 3, ⟨#[97]⟩⟩]⟩ ∧ lk kM 9 = none := by decide +kernel
theorem k6 : outL kM kL5 = [⟨5, 3, [], 0, 0, 0, 1, 3, false, false⟩] := by decide +kernel
def kG2 : Grp := ⟨2, 1, 0, 0, 0, 0, [⟨1, 3, ⟨#[98]⟩⟩]⟩
def kG5 : Grp := ⟨5, 1, 0, 0, 0, 0, [⟨1, 3, ⟨#[97]⟩⟩]⟩
theorem kg : grpsM kM = [kG2, kG5] := rfl
end Go.Ab
namespace Go.Proofs.Ytmfhchaoijiodaa
open Go.Ab
set_option linter.unusedVariables false
set_option linter.unusedSimpArgs false
set_option maxRecDepth 100000
set_option maxHeartbeats 1000000
section
variable {P : Program} {g : FuncId} {args : List AV} {s : AState} {R K : AV → AState → Prop}
theorem runT (h : Runs (compCode P) P g (args.map AV.strip) s R) (k : ∀ x s', R x s' → K x s') : Lruns (compCode P) P g args s K .a := run (Runs.strip h) rfl k
theorem runU {args' : List AV} (h : Runs (compCode P) P g args' s R) (ha : args.map AV.strip = args') (k : ∀ x s', R x s' → K x s') : Lruns (compCode P) P g args s K .a := runT (ha ▸ h) k
end
theorem ct_ladelaw7_app {g i : Int} {d : ByteArray} {s : AState} : Gives prog F_ladelaw7_app [.v (.int .i64 g), .v (.int .i64 i), .v (.string d)] s (appP g i d).av s := by
  refine Runs.gives' (runs_e h_ladelaw7_app (Nat.le_of_ble_eq_true rfl) ?_) (Prt.row _).flat
  refine st0 ?_
  refine ret_ok (by simp; rfl) ⟨(Grows.refl _).alloc _, ?_⟩
  simp [retVal]
  exact AV.le_strip _
structure MkI (s : AState) (n : Nat) (b mb : Nat) (M : List (Int × Grp)) (s' : AState) : Prop where
  old : ∀ x, x < s.n → s'.get x = s.get x
  n : s.n + n ≤ s'.n
  hb : s.n ≤ b
  hm : s.n ≤ mb
  m : ∃ A, ManyAt s' b mb A M
theorem MkI.newR {s : AState} : Runs (compCode prog) prog F_many_New [] s (fun x s' => x = .p (s.n + 1) 0 ∧ MkI s 2 (s.n + 1) s.n [] s') :=
  rn_many_New.mono fun x s' ⟨h1, h2⟩ => ⟨h1, by subst h2; exact ⟨fun x hx => dz0, by simp, by omega, Nat.le_refl _, [], dz0, by simp (disch := first | omega | (simp <;> omega) | fail) [encM], Rep.nil⟩⟩
section
variable {s s' s'' : AState} {n b mb c B : Nat} {M : List (Int × Grp)}
theorem MkI.lt (h : MkI s n b mb M s') : b < s'.n ∧ mb < s'.n ∧ b ≠ mb := by obtain ⟨A, m⟩ := h.m; exact m.lt
theorem MkI.keep (h : MkI s n b mb M s') (k : ∀ x, x < s'.n → x ≠ c → s''.get x = s'.get x) (hn : s'.n ≤ s''.n) (h1 : b ≠ c) (h2 : mb ≠ c) (hc : s.n ≤ c) : MkI s n b mb M s'' := by
  obtain ⟨l1, l2, l3⟩ := h.lt
  obtain ⟨old, n, hb, hm, A, m⟩ := h
  exact ⟨fun x hx => (k x (by omega) (by omega)).trans (old x hx), by omega, hb, hm, A, m.keep fun x hx => by rcases hx with rfl | rfl <;> exact k _ (by omega) (by omega)⟩
theorem MkI.allR (h : MkI s n b mb M s') (hM : ManyOk B M) (hB : B ≤ 1000000) : Gives prog F_many_Many_All [.p b 0] s' (.sl ((grpsM M).map Grp.av) .no) s' := by
  obtain ⟨A, m⟩ := h.m; exact ct_many_Many_All m hM hB
end
end Go.Proofs.Ytmfhchaoijiodaa
end
section
namespace Go.Ab
set_option linter.unusedVariables false
def IterX (P : Program) (g : FuncId) (fs caps : List AV) (N : Nat) (Row : Nat → Nat → List AV → AState → Prop) (Pre : AState → Prop) : Prop :=
  ∀ (l : Nat) (s : AState) (lo : Nat) (I : Nat → AState → Prop) (J : AState → Prop), lo = s.n →
    (∀ k s', I k s' → Pre s') →
    (∀ k s' s'', lo ≤ s'.n → I k s' → (∀ x, x < s'.n → s''.get x = s'.get x) → s'.n ≤ s''.n → I k s'') →
    (∀ s' s'', lo ≤ s'.n → J s' → (∀ x, x < s'.n → s''.get x = s'.get x) → s'.n ≤ s''.n → J s'') →
    (∀ k s' x, k < N → lo ≤ s'.n → Row lo k x s' → I k s' → YRuns (compCode P) P l x s' (fun r s'' => (∀ y, lo ≤ y → y < s'.n → s''.get y = s'.get y) ∧ s'.n ≤ s''.n ∧ ((r = .v (.bool true) ∧ I (k + 1) s'') ∨ (r = .v (.bool false) ∧ J s'')))) →
    I 0 s → Runs (compCode P) P g (fs ++ [.y l] ++ caps) s (fun _ s' => I N s' ∨ J s')
section
variable {P : Program} {f : Arg} {ps : List Nat} {asg body : ACode} {Q : Exit → AAct → AState → Prop} {d : List Nat} {s : AState} {g : FuncId} {fs caps : List AV} {N : Nat} {Row : Nat → Nat → List AV → AState → Prop} {Pre : AState → Prop} {n : Nat} {e : List (Nat × AV)}
theorem w_rangeX (hf : f.ev (den n e) = .f (.func g) fs caps) (hit : IterX P g fs caps N Row Pre) (hps : ∀ lo k x s', Row lo k x s' → x.length = ps.length) (I : Nat → AState → Prop) (J : AJump → AState → Prop)
    (h0 : ∀ LR, I 0 ((s.alloc .defd).alloc LR))
    (hp : ∀ k s', I k s' → Pre s')
    (hA : ∀ k s' s'', s.n + 2 ≤ s'.n → I k s' → (∀ x, x < s'.n → s''.get x = s'.get x) → s'.n ≤ s''.n → I k s'')
    (hJ : ∀ j s' s'', s.n + 2 ≤ s'.n → J j s' → (∀ x, x < s'.n → s''.get x = s'.get x) → s'.n ≤ s''.n → J j s'')
    (hr : ∀ LR LB LJ, IsLoop LB s.n → LR ≠ .dead → ∀ k x s', k < N → Row (s.n + 2) k x s' → s'.get s.n = .defd → s'.get (s.n + 1) = LR → s.n + 2 ≤ s'.n → I k s' →
      wp P (some (s.n + 1)) asg (roundA P (s.n + 1) LR LB LJ body (fun o s'' => (∀ y, s.n + 2 ≤ y → y < s'.n → s''.get y = s'.get y) ∧ s'.n ≤ s''.n ∧ FinS (some s.n) (s.n + 1) LR LJ (I (k + 1)) J o s'')) { t := den n ((ps.zip x).reverse ++ e), d := [] } s')
    (hn : ∀ s', s'.get s.n = .defd → s.n + 1 < s'.n → I N s' → Q .normal { t := den n e, d := s.n :: d } (s'.set (s.n + 1) .dead))
    (hq : ∀ j s', s'.get s.n = .defd → s.n + 1 < s'.n → J j s' → Q j.exitOf { t := den n e, d := s.n :: d } (s'.set (s.n + 1) .dead)) :
    Lwp P none (.range f ps asg body) Q { t := den n e, d := d } s .a := by
  have lt : ∀ {s' : AState} {o : AObj}, s'.get (s.n + 1) = o → o ≠ .dead → s.n + 1 < s'.n := fun h1 h2 => AState.lt_of_get h1 h2
  refine ⟨g, fs, caps, hf, ?_⟩
  refine Runs.mono (hit (s.n + 1) ((s.alloc .defd).alloc (.loop .ready none (den n e) ps asg body s.n)) (s.n + 2) (fun k s' => s'.get s.n = .defd ∧ s'.get (s.n + 1) = .loop .ready none (den n e) ps asg body s.n ∧ I k s')
    (fun s' => ∃ j, s'.get s.n = .defd ∧ s'.get (s.n + 1) = .loop .done (some j) (den n e) ps asg body s.n ∧ J j s') (by simp) ?_ ?_ ?_ ?_ ?_) ?_
  · rintro k s' ⟨h1, h2, h3⟩; exact hp k s' h3
  · rintro k s' s'' hlo ⟨h1, h2, h3⟩ h4 h5
    exact ⟨(h4 _ (by omega)).trans h1, (h4 _ (by omega)).trans h2, hA k s' s'' hlo h3 h4 h5⟩
  · rintro s' s'' hlo ⟨j, h1, h2, h3⟩ h4 h5
    exact ⟨j, (h4 _ (by omega)).trans h1, (h4 _ (by omega)).trans h2, hJ j s' s'' hlo h3 h4 h5⟩
  · rintro k s' x hk hlo hrow ⟨h1, h2, h3⟩
    refine Round.yruns (D := s.n) (fin := fun o s'' => (∀ y, s.n + 2 ≤ y → y < s'.n → s''.get y = s'.get y) ∧ s'.n ≤ s''.n ∧ FinS (some s.n) (s.n + 1) (.loop .ready none (den n e) ps asg body s.n) (fun j => .loop .done (some j) (den n e) ps asg body s.n) (I (k + 1)) J o s'') ?_ h2 (hps _ _ _ _ hrow) ?_ ?_
    · unfold Round
      rw [fillT_den]
      refine wp_mono ?_ (hr _ (.loop .busy none (den n e) ps asg body s.n) (fun j => .loop .done (some j) (den n e) ps asg body s.n) ⟨_, _, _, _, _, _, rfl⟩ (by simp) k x s' hk hrow h1 h2 hlo h3)
      rintro e' a1 s1 ⟨rfl, k2, k3⟩
      refine ⟨rfl, k2, wp_mono ?_ k3⟩
      rintro e' a2 s2 ⟨m1, m2⟩
      refine ⟨m1, ?_⟩
      cases e' with
      | normal => exact m2
      | ret => exact m2
      | exit i => exact m2
      | goto i => exact m2
      | panic _ => exact m2
      | outgrown => exact m2
    · rintro s'' ⟨a1, a2, a3⟩
      exact ⟨a1, a2, .inl ⟨rfl, a3.1 _ rfl, a3.2⟩⟩
    · rintro j s'' ⟨a1, a2, a3⟩
      exact ⟨a1, a2, .inr ⟨rfl, j, a3.1 _ rfl, a3.2⟩⟩
  · exact ⟨by rw [get_alloc_ne (by simp)]; simp, get_alloc_eq (by simp), h0 _⟩
  · rintro x s' (⟨h1, h2, h3⟩ | ⟨j, h1, h2, h3⟩)
    · exact ⟨_, _, h2, by simp, hn s' h1 (lt h2 (by simp)) h3⟩
    · exact ⟨_, _, h2, by simp, hq j s' h1 (lt h2 (by simp)) h3⟩
end
def seqM (M : List (Int × Grp)) (L : List (List Prt)) (k : Nat) : List (Int × Grp) := (L.take k).foldl doM M
theorem seqM_snoc {M : List (Int × Grp)} {L : List (List Prt)} {k : Nat} (h : k < L.length) : seqM M L (k + 1) = doM (seqM M L k) L[k] := by
  unfold seqM
  rw [(List.take_append_getElem h).symm, List.foldl_append]; rfl
theorem seqM_ok {B : Nat} {M : List (Int × Grp)} (h : ManyOk B M) (L : List (List Prt)) : ManyOk (B + 24 * L.length) (L.foldl doM M) := by
  induction L generalizing M B with
  | nil => exact h
  | cons l L ih => exact (ih (h.doM l)).more (by simp; omega)
def listsV (L : List (List Prt)) : AV := .sl (L.map fun l => .sl (l.map Prt.av) .no) .no
def StRow (M : List (Int × Grp)) (L : List (List Prt)) (lo k : Nat) (x : List AV) (s : AState) : Prop := ∃ p mb A, x = [.v (.int .i64 k), .p p 0] ∧ lo ≤ p ∧ lo ≤ mb ∧ ManyAt s p mb A (seqM M L k)
end Go.Ab
namespace Go.Proofs.Ytmfhchaoijiodaa
open Go.Ab
set_option linter.unusedVariables false
set_option linter.unusedSimpArgs false
set_option maxRecDepth 100000
set_option maxHeartbeats 1000000
theorem it_cut_states {b mb c1 c2 B : Nat} {A M : List (Int × Grp)} {L : List (List Prt)} (hM : ManyOk B M) (hB : B + 24 * L.length ≤ 900000) (hl : ∀ l ∈ L, l.length ≤ 1000) (hes : ∀ l ∈ L, ∀ p ∈ l, p.es.length ≤ 1000000) :
    IterX prog F_cut_states_1 [] [.p c1 0, .p c2 0] (L.length + 1) (StRow M L) (fun s => s.get c1 = .cells [.p b 0] ∧ s.get c2 = .cells [listsV L] ∧ ManyAt s b mb A M) := by
  intro l s lo I J hlo hp hA hJ hr h0
  obtain ⟨p1, p2, m⟩ := hp 0 s h0
  refine runs_e h_cut_states_1 (Nat.le_of_ble_eq_true rfl) ?_
  refine st1 p1 ?_
  refine rn0 (rn_many_Many_Copy m) ?_
  rintro _ s1 ⟨rfl, rfl⟩
  refine st0 ?_
  refine loop_ok [0, 1, 2, 4, 5] (fun r a s2 => ∃ (k p mbk : Nat) (Ak : List (Int × Grp)), k + r = L.length ∧ I k s2 ∧ lo ≤ p ∧ lo ≤ mbk ∧ s.n + 2 ≤ s2.n ∧ ManyAt s2 p mbk Ak (seqM M L k) ∧
    a = { t := den 28 [(0, .y l), (1, .p c1 0), (2, .p c2 0), (4, .p p 0), (5, .v (.int .i64 k))], d := [] }) L.length ?_ ?_
  · refine ⟨0, s.n + 1, s.n, A, by simp, hA 0 s _ (by omega) h0 (fun x hx => dz0) (by simp; omega), by omega, by omega, by simp, ⟨dz0, dz0, m.r⟩, by simp⟩
  rintro r a s2 ⟨k, p, mbk, Ak, hk, hI, l1, l2, n2, m2, rfl⟩
  refine st0 ?_
  refine yr0 (hr k s2 [.v (.int .i64 k), .p p 0] (by omega) (by omega) ⟨p, mbk, Ak, rfl, l1, l2, m2⟩ hI) ?_
  rintro _ s3 ⟨k3, n3, ⟨rfl, hI3⟩ | ⟨rfl, hJ3⟩⟩
  · obtain ⟨q1, q2, mq⟩ := hp _ _ hI3
    obtain ⟨u1, u2, u3⟩ := m2.lt
    have m3 : ManyAt s3 p mbk Ak (seqM M L k) := m2.keep fun x hx => by rcases hx with rfl | rfl <;> exact k3 _ (by omega) (by omega)
    by_cases hlt : k < L.length
    · have okk : ManyOk 900000 (seqM M L k) := (seqM_ok hM (L.take k)).more (by have := List.length_take_le k L; omega)
      have w1 : IntKind.wrap .i64 ((k : Int) + 1) = ((k + 1 : Nat) : Int) := by rw [wrap_i64 (by omega) (by omega)]; omega
      unfold listsV at q2
      have v2 := AState.lt_of_get q2 (by simp)
      have ll := hl _ (List.getElem_mem hlt)
      have le := hes _ (List.getElem_mem hlt)
      refine st2 q2 hlt ?_
      refine rn0 (rn_many_Many_Copy m3) ?_
      rintro _ s4 ⟨rfl, rfl⟩
      have q2' : ((s3.alloc (.map (encM Grp.av Ak))).alloc (.cells [.m s3.n])).get c2 = s3.get c2 := dz0
      rw [q2] at q2'
      have m4 : ManyAt ((s3.alloc (.map (encM Grp.av Ak))).alloc (.cells [.m s3.n])) (s3.n + 1) s3.n Ak (seqM M L k) := ⟨dz0, dz0, m3.r⟩
      repeat (first | simp -dsimp -implicitDefEqProofs (disch := first | omega | (simp <;> omega) | fail) [q2', hlt] | ((with_reducible first | apply m_1 | apply m_0); (focus ((conv => lhs; simp -dsimp -implicitDefEqProofs (disch := first | omega | (simp <;> omega) | fail) [q2', hlt]); done))) | ((with_reducible first | apply i_T | apply g_T); (focus (simp -dsimp -implicitDefEqProofs (disch := first | omega | (simp <;> omega) | fail) [q2', hlt]; done))) | ((with_reducible first | apply i_F | apply g_F); (focus (simp -dsimp -implicitDefEqProofs (disch := first | omega | (simp <;> omega) | fail) [q2', hlt]; done))))
      refine runU (rn_many_Many_Do m4 okk (l := L[k]) (by omega) ll le) (by simp) ?_
      rintro _ s5 ⟨rfl, k5, n5, mb5, A5, e5, m5⟩
      simp at k5 n5 e5
      refine st0 ?_
      refine ⟨r - 1, by omega, k + 1, s3.n + 1, mb5, A5, by omega, hA _ s3 _ (by omega) hI3 (fun x hx => (k5 x (by omega) (by omega)).trans (dz0)) (by omega), by omega, by omega, by omega, by rw [seqM_snoc hlt]; exact m5, by simp [w1]⟩
    · have hkl : k = L.length := by omega
      unfold listsV at q2
      refine st2 q2 hlt ?_
      exact end_ok rfl (.inl (by rw [← hkl]; exact hI3))
  · refine st0 ?_
    exact end_ok rfl (.inr hJ3)
end Go.Proofs.Ytmfhchaoijiodaa
end
section
namespace Go.Ab
set_option linter.unusedVariables false
theorem finx_n {lo : Nat} {s0 : AState} {D : Option Nat} {L : Nat} {LR : AObj} {LJ : AJump → AObj} {I : AState → Prop} {J : AJump → AState → Prop} {s : AState} (k : ∀ y, lo ≤ y → y < s0.n → s.get y = s0.get y) (n : s0.n ≤ s.n) (h1 : ∀ d, D = some d → s.get d = .defd) (h2 : s.get L = LR) (h3 : I s) :
    Lfi (fun o s'' => (∀ y, lo ≤ y → y < s0.n → s''.get y = s0.get y) ∧ s0.n ≤ s''.n ∧ FinS D L LR LJ I J o s'') none s .a := ⟨k, n, h1, h2, h3⟩
theorem finx_j {lo : Nat} {s0 : AState} {D : Option Nat} {L : Nat} {LR : AObj} {LJ : AJump → AObj} {I : AState → Prop} {J : AJump → AState → Prop} {s : AState} {j : AJump} (k : ∀ y, lo ≤ y → y < s0.n → s.get y = s0.get y) (n : s0.n ≤ s.n) (h1 : ∀ d, D = some d → s.get d = .defd) (h2 : s.get L = LJ j) (h3 : J j s) :
    Lfi (fun o s'' => (∀ y, lo ≤ y → y < s0.n → s''.get y = s0.get y) ∧ s0.n ≤ s''.n ∧ FinS D L LR LJ I J o s'') (some j) s .a := ⟨k, n, h1, h2, h3⟩
structure AfI (s : AState) (b mb : Nat) (A M : List (Int × Grp)) (L : List (List Prt)) (K i : Nat) (s' : AState) : Prop where
  old : ∀ y, y < s.n → s'.get y = s.get y
  n : s.n + 6 ≤ s'.n
  c0 : s'.get s.n = .cells [.v (.int .i64 K)]
  c2 : s'.get (s.n + 2) = .cells [.p b 0]
  c3 : s'.get (s.n + 3) = .cells [listsV L]
  o : (i = 0 ∧ s'.get (s.n + 1) = .cells [.p b 0]) ∨ (0 < i ∧ ∃ p mp Ap, s'.get (s.n + 1) = .cells [.p p 0] ∧ s.n + 6 ≤ p ∧ s.n + 6 ≤ mp ∧ ManyAt s' p mp Ap (seqM M L (i - 1)))
theorem AfI.more {s : AState} {b mb : Nat} {A M : List (Int × Grp)} {L : List (List Prt)} {K i : Nat} {s' s'' : AState} (h : AfI s b mb A M L K i s') (k : ∀ x, x < s'.n → s''.get x = s'.get x) (hn : s'.n ≤ s''.n) : AfI s b mb A M L K i s'' := by
  obtain ⟨old, n, c0, c2, c3, o⟩ := h
  refine ⟨fun y hy => (k y (by omega)).trans (old y hy), by omega, (k _ (by omega)).trans c0, (k _ (by omega)).trans c2, (k _ (by omega)).trans c3, ?_⟩
  rcases o with ⟨h1, h2⟩ | ⟨h1, p, mp, Ap, h2, h3, h4, h5⟩
  · exact .inl ⟨h1, (k _ (by omega)).trans h2⟩
  · obtain ⟨l1, l2, l3⟩ := h5.lt
    exact .inr ⟨h1, p, mp, Ap, (k _ (by omega)).trans h2, h3, h4, h5.keep fun x hx => by rcases hx with rfl | rfl <;> exact k _ (by omega)⟩
end Go.Ab
namespace Go.Proofs.Ytmfhchaoijiodaa
open Go.Ab
set_option linter.unusedVariables false
set_option linter.unusedSimpArgs false
set_option maxRecDepth 100000
set_option maxHeartbeats 1000000
theorem rn_cut_states {b : Nat} {xs : List AV} {s : AState} : Runs (compCode prog) prog F_cut_states [.p b 0, .sl xs .no] s (fun x s' => x = .f (.func F_cut_states_1) [] [.p s.n 0, .p (s.n + 1) 0] ∧ s' = (s.alloc (.cells [.p b 0])).alloc (.cells [.sl xs .no])) := by
  refine runs_e h_cut_states (Nat.le_of_ble_eq_true rfl) ?_
  refine st0 ?_
  exact ret_ok rfl ⟨rfl, rfl⟩
theorem rn_cut_After {b mb B K : Nat} {A M : List (Int × Grp)} {L : List (List Prt)} {s : AState} (m : ManyAt s b mb A M) (hM : ManyOk B M) (hB : B + 24 * L.length ≤ 900000) (hl : ∀ l ∈ L, l.length ≤ 1000) (hes : ∀ l ∈ L, ∀ p ∈ l, p.es.length ≤ 1000000) (hK : K ≤ L.length) :
    Runs (compCode prog) prog F_cut_After [.p b 0, listsV L, .v (.int .i64 K)] s (fun x s' => ∃ p mp Ap, x = .p p 0 ∧ (∀ y, y < s.n → s'.get y = s.get y) ∧ s.n ≤ s'.n ∧ s.n ≤ p ∧ s.n ≤ mp ∧ ManyAt s' p mp Ap (seqM M L K)) := by
  refine runs_e h_cut_After (Nat.le_of_ble_eq_true rfl) ?_
  obtain ⟨m1, m2, m3⟩ := m.lt
  unfold listsV
  repeat (first | simp -dsimp -implicitDefEqProofs (disch := first | omega | (simp <;> omega) | fail) | ((with_reducible first | apply m_1 | apply m_0); (focus ((conv => lhs; simp -dsimp -implicitDefEqProofs (disch := first | omega | (simp <;> omega) | fail)); done))) | ((with_reducible first | apply i_T | apply g_T); (focus (simp -dsimp -implicitDefEqProofs (disch := first | omega | (simp <;> omega) | fail); done))) | ((with_reducible first | apply i_F | apply g_F); (focus (simp -dsimp -implicitDefEqProofs (disch := first | omega | (simp <;> omega) | fail); done))))
  refine run (rn_cut_states (b := b) (xs := L.map fun l => .sl (l.map Prt.av) .no)) (by first | (simp; done) | rfl | (simp; rfl)) ?_
  rintro _ s0 ⟨rfl, hs0⟩
  repeat (first | simp -dsimp -implicitDefEqProofs (disch := first | omega | (simp <;> omega) | fail) | ((with_reducible first | apply m_1 | apply m_0); (focus ((conv => lhs; simp -dsimp -implicitDefEqProofs (disch := first | omega | (simp <;> omega) | fail)); done))) | ((with_reducible first | apply i_T | apply g_T); (focus (simp -dsimp -implicitDefEqProofs (disch := first | omega | (simp <;> omega) | fail); done))) | ((with_reducible first | apply i_F | apply g_F); (focus (simp -dsimp -implicitDefEqProofs (disch := first | omega | (simp <;> omega) | fail); done))))
  have hsn : s0.n = s.n + 4 := by rw [hs0]; simp
  have g0 : s0.get s.n = .cells [.v (.int .i64 K)] := by rw [hs0]; simp (disch := first | omega | (simp <;> omega) | fail)
  have g1 : s0.get (s.n + 1) = .cells [.p b 0] := by rw [hs0]; simp (disch := first | omega | (simp <;> omega) | fail)
  have g2 : s0.get (s.n + 2) = .cells [.p b 0] := by rw [hs0]; simp (disch := first | omega | (simp <;> omega) | fail)
  have g3 : s0.get (s.n + 3) = .cells [listsV L] := by rw [hs0]; simp (disch := first | omega | (simp <;> omega) | fail) [listsV]
  have go : ∀ y, y < s.n → s0.get y = s.get y := fun y hy => by rw [hs0]; simp (disch := first | omega | (simp <;> omega) | fail)
  clear hs0
  have hit := it_cut_states (b := b) (mb := mb) (c1 := s.n + 2) (c2 := s.n + 3) (A := A) (L := L) hM hB hl hes
  refine w_rangeX (by simp) hit (by rintro lo k x s' ⟨p, mp, Ap, rfl, -⟩; rfl) (fun i s' => i ≤ K ∧ AfI s b mb A M L K i s') (fun j s' => j = .exit 0 ∧ AfI s b mb A M L K (K + 1) s') ?_ ?_ ?_ ?_ ?_ ?_ ?_
  · intro LR
    exact ⟨by omega, fun y hy => by simp (disch := first | omega | (simp <;> omega) | fail) [go y hy], by simp; omega, by simp (disch := first | omega | (simp <;> omega) | fail) [g0], by simp (disch := first | omega | (simp <;> omega) | fail) [g2], by simp (disch := first | omega | (simp <;> omega) | fail) [g3], .inl ⟨rfl, by simp (disch := first | omega | (simp <;> omega) | fail) [g1]⟩⟩
  · rintro k s' ⟨h1, h⟩
    exact ⟨h.c2, h.c3, m.keep fun x hx => by rcases hx with rfl | rfl <;> exact h.old _ (by omega)⟩
  · rintro k s' s'' hn ⟨h1, h⟩ k1 k2; exact ⟨h1, h.more k1 k2⟩
  · rintro j s' s'' hn ⟨h1, h⟩ k1 k2; exact ⟨h1, h.more k1 k2⟩
  · rintro LR LB LJ hLB hLR k _ s' hk ⟨p, mp, Ap, rfl, l1, l2, mr⟩ hd hLL hln ⟨hkK, hI⟩
    obtain ⟨old, n, c0, c2, c3, o⟩ := hI
    rw [hsn] at l1 l2
    simp only [hsn, List.zip_cons_cons, List.zip_nil_right, List.reverse_cons, List.reverse_nil, List.nil_append, List.cons_append] at hd hLL hln ⊢
    obtain ⟨t1, t2, t3⟩ := mr.lt
    obtain ⟨ov, ho⟩ : ∃ ov, s'.get (s.n + 1) = .cells [ov] := by
      rcases o with ⟨_, h⟩ | ⟨_, _, _, _, h, _⟩ <;> exact ⟨_, h⟩
    by_cases hkk : (K : Int) ≤ (k : Int)
    · obtain rfl : k = K := by omega
      repeat (first | simp -dsimp -implicitDefEqProofs (disch := first | omega | (simp <;> omega) | fail) [hLL, ho, c0, hkk] | ((with_reducible first | apply m_1 | apply m_0); (focus ((conv => lhs; simp -dsimp -implicitDefEqProofs (disch := first | omega | (simp <;> omega) | fail) [hLL, ho, c0, hkk]); done))) | ((with_reducible first | apply i_T | apply g_T); (focus (simp -dsimp -implicitDefEqProofs (disch := first | omega | (simp <;> omega) | fail) [hLL, ho, c0, hkk]; done))) | ((with_reducible first | apply i_F | apply g_F); (focus (simp -dsimp -implicitDefEqProofs (disch := first | omega | (simp <;> omega) | fail) [hLL, ho, c0, hkk]; done))))
      refine finx_j (fun y h1 h2 => by simp (disch := first | omega | (simp <;> omega) | fail)) (by simp) (fun d hd' => by cases hd'; simp (disch := first | omega | (simp <;> omega) | fail) [hd]) (by simp (disch := first | omega | (simp <;> omega) | fail)) ⟨rfl, fun y hy => by simp (disch := first | omega | (simp <;> omega) | fail) [old y hy], by simp; omega, by simp (disch := first | omega | (simp <;> omega) | fail) [c0], by simp (disch := first | omega | (simp <;> omega) | fail) [c2], by simp (disch := first | omega | (simp <;> omega) | fail) [c3], .inr ⟨by omega, p, mp, Ap, by simp (disch := first | omega | (simp <;> omega) | fail), by omega, by omega, mr.keep fun x hx => by rcases hx with rfl | rfl <;> simp (disch := first | omega | (simp <;> omega) | fail)⟩⟩
    · repeat (first | simp -dsimp -implicitDefEqProofs (disch := first | omega | (simp <;> omega) | fail) [hLL, ho, c0, hkk] | ((with_reducible first | apply m_1 | apply m_0); (focus ((conv => lhs; simp -dsimp -implicitDefEqProofs (disch := first | omega | (simp <;> omega) | fail) [hLL, ho, c0, hkk]); done))) | ((with_reducible first | apply i_T | apply g_T); (focus (simp -dsimp -implicitDefEqProofs (disch := first | omega | (simp <;> omega) | fail) [hLL, ho, c0, hkk]; done))) | ((with_reducible first | apply i_F | apply g_F); (focus (simp -dsimp -implicitDefEqProofs (disch := first | omega | (simp <;> omega) | fail) [hLL, ho, c0, hkk]; done))))
      refine finx_n (fun y h1 h2 => by simp (disch := first | omega | (simp <;> omega) | fail)) (by simp) (fun d hd' => by cases hd'; simp (disch := first | omega | (simp <;> omega) | fail) [hd]) (by simp (disch := first | omega | (simp <;> omega) | fail)) ⟨by omega, fun y hy => by simp (disch := first | omega | (simp <;> omega) | fail) [old y hy], by simp; omega, by simp (disch := first | omega | (simp <;> omega) | fail) [c0], by simp (disch := first | omega | (simp <;> omega) | fail) [c2], by simp (disch := first | omega | (simp <;> omega) | fail) [c3], .inr ⟨by omega, p, mp, Ap, by simp (disch := first | omega | (simp <;> omega) | fail), by omega, by omega, mr.keep fun x hx => by rcases hx with rfl | rfl <;> simp (disch := first | omega | (simp <;> omega) | fail)⟩⟩
  · rintro s' hd hln ⟨h1, h⟩
    omega
  · rintro j s' hd hln ⟨rfl, h⟩
    simp only [hsn] at hd hln ⊢
    obtain ⟨old, n, c0, c2, c3, o⟩ := h
    rcases o with ⟨h, _⟩ | ⟨_, p, mp, Ap, ho, l1, l2, mr⟩
    · omega
    obtain ⟨t1, t2, t3⟩ := mr.lt
    rw [show (AJump.exit 0).exitOf = Exit.exit 0 from rfl]
    repeat (first | simp -dsimp -implicitDefEqProofs (disch := first | omega | (simp <;> omega) | fail) [ho] | ((with_reducible first | apply m_1 | apply m_0); (focus ((conv => lhs; simp -dsimp -implicitDefEqProofs (disch := first | omega | (simp <;> omega) | fail) [ho]); done))) | ((with_reducible first | apply i_T | apply g_T); (focus (simp -dsimp -implicitDefEqProofs (disch := first | omega | (simp <;> omega) | fail) [ho]; done))) | ((with_reducible first | apply i_F | apply g_F); (focus (simp -dsimp -implicitDefEqProofs (disch := first | omega | (simp <;> omega) | fail) [ho]; done))))
    exact ret_okD (by simp (disch := first | omega | (simp <;> omega) | fail) [hd]) (by simp) rfl ⟨p, mp, Ap, by simp [retVal], fun x hx => by simp (disch := first | omega | (simp <;> omega) | fail) [killAll, old x hx], by simp [killAll]; omega, by omega, by omega, mr.keep fun x hx => by rcases hx with rfl | rfl <;> simp (disch := first | omega | (simp <;> omega) | fail) [killAll]⟩
end Go.Proofs.Ytmfhchaoijiodaa
end
section
namespace Go.Ab
set_option linter.unusedVariables false
structure FtI (s : AState) (b : Nat) (got : List Grp) (L : List (List Prt)) (r : Int) (o : Bool) (s' : AState) : Prop where
  old : ∀ y, y < s.n → s'.get y = s.get y
  n : s.n + 7 ≤ s'.n
  c0 : s'.get s.n = .cells [.sl (got.map Grp.av) .no]
  r1 : s'.get (s.n + 1) = .cells [.v (.int .i64 r)]
  r2 : s'.get (s.n + 2) = .cells [.v (.bool o)]
  c3 : s'.get (s.n + 3) = .cells [.p b 0]
  c4 : s'.get (s.n + 4) = .cells [listsV L]
theorem FtI.more {s : AState} {b : Nat} {got : List Grp} {L : List (List Prt)} {r : Int} {o : Bool} {s' s'' : AState} (h : FtI s b got L r o s') (k : ∀ x, x < s'.n → s''.get x = s'.get x) (hn : s'.n ≤ s''.n) : FtI s b got L r o s'' := by
  obtain ⟨old, n, c0, r1, r2, c3, c4⟩ := h
  exact ⟨fun y hy => (k y (by omega)).trans (old y hy), by omega, (k _ (by omega)).trans c0, (k _ (by omega)).trans r1, (k _ (by omega)).trans r2, (k _ (by omega)).trans c3, (k _ (by omega)).trans c4⟩
end Go.Ab
namespace Go.Proofs.Ytmfhchaoijiodaa
open Go.Ab
set_option linter.unusedVariables false
set_option linter.unusedSimpArgs false
set_option maxRecDepth 100000
set_option maxHeartbeats 1000000
theorem ct_cut_Fits {b mb B : Nat} {A M : List (Int × Grp)} {L : List (List Prt)} {got : List Grp} {r : Int} {o : Bool} {s : AState} (m : ManyAt s b mb A M) (hM : ManyOk B M) (hB : B + 24 * L.length ≤ 900000) (hl : ∀ l ∈ L, l.length ≤ 1000) (hes : ∀ l ∈ L, ∀ p ∈ l, p.es.length ≤ 1000000)
    (hg : (got.length : Int) < 9223372036854775808) (hge : ∀ g ∈ got, (g.es.length : Int) < 9223372036854775808)
    (H : (o = true ∧ ∃ k : Nat, r = k ∧ k ≤ L.length ∧ got = grpsM (seqM M L k) ∧ ∀ j, j < k → ¬ got = grpsM (seqM M L j)) ∨ (o = false ∧ r = -1 ∧ ∀ j, j ≤ L.length → ¬ got = grpsM (seqM M L j))) :
    Gives prog F_cut_Fits [.sl (got.map Grp.av) .no, .p b 0, listsV L] s (.tup [.v (.int .i64 r), .v (.bool o)]) s := by
  refine Runs.gives (runs_e h_cut_Fits (Nat.le_of_ble_eq_true rfl) ?_) (Flat.tup (by simp; exact ⟨.v _, .v _⟩))
  obtain ⟨m1, m2, m3⟩ := m.lt
  unfold listsV
  repeat (first | simp -dsimp -implicitDefEqProofs (disch := first | omega | (simp <;> omega) | fail) | ((with_reducible first | apply m_1 | apply m_0); (focus ((conv => lhs; simp -dsimp -implicitDefEqProofs (disch := first | omega | (simp <;> omega) | fail)); done))) | ((with_reducible first | apply i_T | apply g_T); (focus (simp -dsimp -implicitDefEqProofs (disch := first | omega | (simp <;> omega) | fail); done))) | ((with_reducible first | apply i_F | apply g_F); (focus (simp -dsimp -implicitDefEqProofs (disch := first | omega | (simp <;> omega) | fail); done))))
  refine rn0 (rn_cut_states (b := b) (xs := L.map fun l => .sl (l.map Prt.av) .no)) ?_
  rintro _ s0 ⟨rfl, hs0⟩
  repeat (first | simp -dsimp -implicitDefEqProofs (disch := first | omega | (simp <;> omega) | fail) | ((with_reducible first | apply m_1 | apply m_0); (focus ((conv => lhs; simp -dsimp -implicitDefEqProofs (disch := first | omega | (simp <;> omega) | fail)); done))) | ((with_reducible first | apply i_T | apply g_T); (focus (simp -dsimp -implicitDefEqProofs (disch := first | omega | (simp <;> omega) | fail); done))) | ((with_reducible first | apply i_F | apply g_F); (focus (simp -dsimp -implicitDefEqProofs (disch := first | omega | (simp <;> omega) | fail); done))))
  have hsn : s0.n = s.n + 5 := by rw [hs0]; simp
  have g0 : s0.get s.n = .cells [.sl (got.map Grp.av) .no] := by rw [hs0]; simp (disch := first | omega | (simp <;> omega) | fail)
  have g1 : s0.get (s.n + 1) = .cells [.v (.int .i64 0)] := by rw [hs0]; simp (disch := first | omega | (simp <;> omega) | fail)
  have g2 : s0.get (s.n + 2) = .cells [.v (.bool false)] := by rw [hs0]; simp (disch := first | omega | (simp <;> omega) | fail)
  have g3 : s0.get (s.n + 3) = .cells [.p b 0] := by rw [hs0]; simp (disch := first | omega | (simp <;> omega) | fail)
  have g4 : s0.get (s.n + 4) = .cells [listsV L] := by rw [hs0]; simp (disch := first | omega | (simp <;> omega) | fail) [listsV]
  have go : ∀ y, y < s.n → s0.get y = s.get y := fun y hy => by rw [hs0]; simp (disch := first | omega | (simp <;> omega) | fail)
  clear hs0
  have hit := it_cut_states (b := b) (mb := mb) (c1 := s.n + 3) (c2 := s.n + 4) (A := A) (L := L) hM hB hl hes
  refine w_rangeX (by simp) hit (by rintro lo k x s' ⟨p, mp, Ap, rfl, -⟩; rfl) (fun i s' => (∀ j, j < i → ¬ got = grpsM (seqM M L j)) ∧ FtI s b got L 0 false s') (fun j s' => j = .ret ∧ o = true ∧ FtI s b got L r true s') ?_ ?_ ?_ ?_ ?_ ?_ ?_
  · intro LR
    exact ⟨fun j hj => by omega, fun y hy => by simp (disch := first | omega | (simp <;> omega) | fail) [go y hy], by simp; omega, by simp (disch := first | omega | (simp <;> omega) | fail) [g0], by simp (disch := first | omega | (simp <;> omega) | fail) [g1], by simp (disch := first | omega | (simp <;> omega) | fail) [g2], by simp (disch := first | omega | (simp <;> omega) | fail) [g3], by simp (disch := first | omega | (simp <;> omega) | fail) [g4]⟩
  · rintro k s' ⟨h1, h⟩
    exact ⟨h.c3, h.c4, m.keep fun x hx => by rcases hx with rfl | rfl <;> exact h.old _ (by omega)⟩
  · rintro k s' s'' hn ⟨h1, h⟩ k1 k2; exact ⟨h1, h.more k1 k2⟩
  · rintro j s' s'' hn ⟨h1, h2, h⟩ k1 k2; exact ⟨h1, h2, h.more k1 k2⟩
  · rintro LR LB LJ hLB hLR k _ s' hk ⟨p, mp, Ap, rfl, l1, l2, mr⟩ hd hLL hln ⟨hno, hI⟩
    obtain ⟨old, n, c0, r1, r2, c3, c4⟩ := hI
    rw [hsn] at l1 l2
    simp only [hsn, List.zip_cons_cons, List.zip_nil_right, List.reverse_cons, List.reverse_nil, List.nil_append, List.cons_append] at hd hLL hln ⊢
    obtain ⟨t1, t2, t3⟩ := mr.lt
    have okk : ManyOk 900000 (seqM M L k) := (seqM_ok hM (L.take k)).more (by have := List.length_take_le k L; omega)
    repeat (first | simp -dsimp -implicitDefEqProofs (disch := first | omega | (simp <;> omega) | fail) [hLL, c0] | (with_reducible apply m_draw) | ((with_reducible refine ⟨m_op ?_, ?_⟩); (focus (simp -dsimp -implicitDefEqProofs (disch := first | omega | (simp <;> omega) | fail) [hLL, c0]; done))) | ((with_reducible first | apply m_d1 rfl | apply m_dE | apply m_dE0); (focus ((conv => lhs; simp -dsimp -implicitDefEqProofs (disch := first | omega | (simp <;> omega) | fail) [hLL, c0]); done))) | ((with_reducible first | apply m_1 | apply m_0); (focus ((conv => lhs; simp -dsimp -implicitDefEqProofs (disch := first | omega | (simp <;> omega) | fail) [hLL, c0]); done))) | ((with_reducible first | apply i_T | apply g_T | apply h_T); (focus (simp -dsimp -implicitDefEqProofs (disch := first | omega | (simp <;> omega) | fail) [hLL, c0]; done))) | ((with_reducible first | apply i_F | apply g_F | apply h_F); (focus (simp -dsimp -implicitDefEqProofs (disch := first | omega | (simp <;> omega) | fail) [hLL, c0]; done))))
    have m2' : ManyAt (s'.set (s.n + 5 + 1) LB) p mp Ap (seqM M L k) := mr.keep fun x hx => by rcases hx with rfl | rfl <;> simp (disch := first | omega | (simp <;> omega) | fail)
    refine gv (ct_many_Many_All m2' okk (by omega)) ?_
    refine ⟨.of_ext (AState.ext.refl _), ?_⟩
    repeat (first | simp -dsimp -implicitDefEqProofs (disch := first | omega | (simp <;> omega) | fail) [hLL, c0] | (with_reducible apply m_draw) | ((with_reducible refine ⟨m_op ?_, ?_⟩); (focus (simp -dsimp -implicitDefEqProofs (disch := first | omega | (simp <;> omega) | fail) [hLL, c0]; done))) | ((with_reducible first | apply m_d1 rfl | apply m_dE | apply m_dE0); (focus ((conv => lhs; simp -dsimp -implicitDefEqProofs (disch := first | omega | (simp <;> omega) | fail) [hLL, c0]); done))) | ((with_reducible first | apply m_1 | apply m_0); (focus ((conv => lhs; simp -dsimp -implicitDefEqProofs (disch := first | omega | (simp <;> omega) | fail) [hLL, c0]); done))) | ((with_reducible first | apply i_T | apply g_T | apply h_T); (focus (simp -dsimp -implicitDefEqProofs (disch := first | omega | (simp <;> omega) | fail) [hLL, c0]; done))) | ((with_reducible first | apply i_F | apply g_F | apply h_F); (focus (simp -dsimp -implicitDefEqProofs (disch := first | omega | (simp <;> omega) | fail) [hLL, c0]; done))))
    refine gv (ct_slices_EqualFunc_Group (l := got) (m := grpsM (seqM M L k)) hg hge) ?_
    by_cases he : got = grpsM (seqM M L k)
    · obtain ⟨rfl, k', rfl, hk', he', hno'⟩ | ⟨_, _, hn'⟩ := H
      · have hkk : k' = k := by
          rcases Nat.lt_trichotomy k' k with h | h | h
          · exact absurd he' (hno k' h)
          · exact h
          · exact absurd he (hno' k h)
        subst hkk
        repeat (first | simp -dsimp -implicitDefEqProofs (disch := first | omega | (simp <;> omega) | fail) [hLL, he, r1, r2] | (with_reducible apply m_draw) | ((with_reducible refine ⟨m_op ?_, ?_⟩); (focus (simp -dsimp -implicitDefEqProofs (disch := first | omega | (simp <;> omega) | fail) [hLL, he, r1, r2]; done))) | ((with_reducible first | apply m_d1 rfl | apply m_dE | apply m_dE0); (focus ((conv => lhs; simp -dsimp -implicitDefEqProofs (disch := first | omega | (simp <;> omega) | fail) [hLL, he, r1, r2]); done))) | ((with_reducible first | apply m_1 | apply m_0); (focus ((conv => lhs; simp -dsimp -implicitDefEqProofs (disch := first | omega | (simp <;> omega) | fail) [hLL, he, r1, r2]); done))) | ((with_reducible first | apply i_T | apply g_T | apply h_T); (focus (simp -dsimp -implicitDefEqProofs (disch := first | omega | (simp <;> omega) | fail) [hLL, he, r1, r2]; done))) | ((with_reducible first | apply i_F | apply g_F | apply h_F); (focus (simp -dsimp -implicitDefEqProofs (disch := first | omega | (simp <;> omega) | fail) [hLL, he, r1, r2]; done))))
        exact finx_j (fun y h1 h2 => by simp (disch := first | omega | (simp <;> omega) | fail)) (by simp) (fun d hd' => by cases hd'; simp (disch := first | omega | (simp <;> omega) | fail) [hd]) (by simp (disch := first | omega | (simp <;> omega) | fail)) ⟨rfl, rfl, fun y hy => by simp (disch := first | omega | (simp <;> omega) | fail) [old y hy], by simp; omega, by simp (disch := first | omega | (simp <;> omega) | fail) [c0], by simp (disch := first | omega | (simp <;> omega) | fail), by simp (disch := first | omega | (simp <;> omega) | fail), by simp (disch := first | omega | (simp <;> omega) | fail) [c3], dz1 c4⟩
      · exact absurd he (hn' k (by omega))
    · repeat (first | simp -dsimp -implicitDefEqProofs (disch := first | omega | (simp <;> omega) | fail) [hLL, he] | (with_reducible apply m_draw) | ((with_reducible refine ⟨m_op ?_, ?_⟩); (focus (simp -dsimp -implicitDefEqProofs (disch := first | omega | (simp <;> omega) | fail) [hLL, he]; done))) | ((with_reducible first | apply m_d1 rfl | apply m_dE | apply m_dE0); (focus ((conv => lhs; simp -dsimp -implicitDefEqProofs (disch := first | omega | (simp <;> omega) | fail) [hLL, he]); done))) | ((with_reducible first | apply m_1 | apply m_0); (focus ((conv => lhs; simp -dsimp -implicitDefEqProofs (disch := first | omega | (simp <;> omega) | fail) [hLL, he]); done))) | ((with_reducible first | apply i_T | apply g_T | apply h_T); (focus (simp -dsimp -implicitDefEqProofs (disch := first | omega | (simp <;> omega) | fail) [hLL, he]; done))) | ((with_reducible first | apply i_F | apply g_F | apply h_F); (focus (simp -dsimp -implicitDefEqProofs (disch := first | omega | (simp <;> omega) | fail) [hLL, he]; done))))
      exact finx_n (fun y h1 h2 => dz0) (by simp) (fun d hd' => by cases hd'; simp (disch := first | omega | (simp <;> omega) | fail) [hd]) (dz0) ⟨fun j hj => by
        by_cases e : j = k
        · subst e; exact he
        · exact hno j (by omega), fun y hy => dz1 (old y hy), by simp; omega, dz1 c0, dz1 r1, dz1 r2, dz1 c3, dz1 c4⟩
  · rintro s' hd hln ⟨hno, h⟩
    simp only [hsn] at hd hln ⊢
    obtain ⟨old, n, c0, r1, r2, c3, c4⟩ := h
    obtain ⟨_, k, _, hkl, he, _⟩ | ⟨rfl, rfl, _⟩ := H
    · exact absurd he (hno k (by omega))
    repeat (first | simp -dsimp -implicitDefEqProofs (disch := first | omega | (simp <;> omega) | fail) [r1, r2] | ((with_reducible first | apply m_1 | apply m_0); (focus ((conv => lhs; simp -dsimp -implicitDefEqProofs (disch := first | omega | (simp <;> omega) | fail) [r1, r2]); done))) | ((with_reducible first | apply i_T | apply g_T); (focus (simp -dsimp -implicitDefEqProofs (disch := first | omega | (simp <;> omega) | fail) [r1, r2]; done))) | ((with_reducible first | apply i_F | apply g_F); (focus (simp -dsimp -implicitDefEqProofs (disch := first | omega | (simp <;> omega) | fail) [r1, r2]; done))))
    exact ret_okD (by simp (disch := first | omega | (simp <;> omega) | fail) [hd]) (by simp) (by simp (disch := first | omega | (simp <;> omega) | fail) [killAll, r1, r2]; rfl) ⟨⟨by simp [killAll]; omega, fun x hx => .inl (by simp (disch := first | omega | (simp <;> omega) | fail) [killAll, old x hx])⟩, .refl _⟩
  · rintro j s' hd hln ⟨rfl, rfl, h⟩
    simp only [hsn] at hd hln ⊢
    obtain ⟨old, n, c0, r1, r2, c3, c4⟩ := h
    rw [show AJump.ret.exitOf = Exit.ret from rfl]
    repeat (first | simp -dsimp -implicitDefEqProofs (disch := first | omega | (simp <;> omega) | fail) [r1, r2] | ((with_reducible first | apply m_1 | apply m_0); (focus ((conv => lhs; simp -dsimp -implicitDefEqProofs (disch := first | omega | (simp <;> omega) | fail) [r1, r2]); done))) | ((with_reducible first | apply i_T | apply g_T); (focus (simp -dsimp -implicitDefEqProofs (disch := first | omega | (simp <;> omega) | fail) [r1, r2]; done))) | ((with_reducible first | apply i_F | apply g_F); (focus (simp -dsimp -implicitDefEqProofs (disch := first | omega | (simp <;> omega) | fail) [r1, r2]; done))))
    exact ret_okD (by simp (disch := first | omega | (simp <;> omega) | fail) [hd]) (by simp) (by simp (disch := first | omega | (simp <;> omega) | fail) [killAll, r1, r2]; rfl) ⟨⟨by simp [killAll]; omega, fun x hx => .inl (by simp (disch := first | omega | (simp <;> omega) | fail) [killAll, old x hx])⟩, .refl _⟩
end Go.Proofs.Ytmfhchaoijiodaa
end
section
namespace Go.Ab
set_option linter.unusedVariables false
theorem rem_u8 {n m : Int} (hn : 0 ≤ n) (hm : 0 < m) : 0 ≤ n.tmod m ∧ n.tmod m < m := ⟨Int.tmod_nonneg _ hn, Int.tmod_lt_of_pos _ hm⟩
end Go.Ab
namespace Go.Proofs.Ytmfhchaoijiodaa
open Go.Ab
set_option linter.unusedVariables false
set_option linter.unusedSimpArgs false
set_option maxRecDepth 100000
set_option maxHeartbeats 1000000
theorem MkI.ext {s s' s'' : AState} {n b mb : Nat} {M : List (Int × Grp)} (h : MkI s n b mb M s') (he : s'.ext s'') (hlo : ∀ x, x < s.n → s''.get x = s'.get x) : MkI s n b mb M s'' := by
  obtain ⟨old, n, hb, hm, A, m⟩ := h
  have hn := he.1
  exact ⟨fun x hx => (hlo x hx).trans (old x hx), by omega, hb, hm, A, ⟨(he.2 b (by rw [m.b]; simp) (by rw [m.b]; simp)).trans m.b, (he.2 mb (by rw [m.m]; simp) (by rw [m.m]; simp)).trans m.m, m.r⟩⟩
end Go.Proofs.Ytmfhchaoijiodaa
end
section
namespace Go.Ab
set_option linter.unusedVariables false
def hardP (g : Int) : Prt := ⟨g, 2, [], 0, 0, 0, 0, 0, false, false⟩
def kcL : List (List Prt) := [[hardP 1], [hardP 2]]
theorem kc2 : grpsM (seqM [] kcL 1) = [newG 1] := by decide +kernel
theorem kc3 : ∀ j, j ≤ 2 → ¬ [(⟨9, 1, 0, 0, 0, 0, []⟩ : Grp)] = grpsM (seqM [] kcL j) := by decide +kernel
theorem kc4 : ¬ [newG 1] = grpsM (seqM [] kcL 0) := by decide +kernel
theorem kc5 : ∀ j, j < 1 → ¬ [newG 1] = grpsM (seqM [] kcL j) := fun j hj => by
  obtain rfl : j = 0 := by omega
  exact kc4
def cutB : List (List Prt) := [[hardP 3], [desP 4], [desP 3]]
def cutL (c : Nat) : List (List Prt) := (List.replicate c cutB).flatten
theorem cutL_snoc (c : Nat) : cutL (c + 1) = cutL c ++ cutB := by unfold cutL; rw [List.replicate_succ', List.flatten_append]; simp
theorem cutL_len (c : Nat) : (cutL c).length = 3 * c := by
  induction c with
  | zero => rfl
  | succ c ih => rw [cutL_snoc, List.length_append, ih]; show 3 * c + 3 = _; omega
theorem cutL_mem {c : Nat} : ∀ l ∈ cutL c, l.length ≤ 1000 ∧ ∀ p ∈ l, p.es.length ≤ 1000000 := by
  intro l hl
  unfold cutL at hl
  obtain ⟨m, hm, hl⟩ := List.mem_flatten.1 hl
  have := (List.mem_replicate.1 hm).2
  subst this
  have key : ∀ l ∈ cutB, l.length ≤ 1000 ∧ ∀ p ∈ l, p.es.length ≤ 1000000 := by decide
  exact key l hl
def cutA (j : Nat) : List (Int × Grp) := if j % 3 = 0 then [] else [(3, newG 3)]
theorem cut_k : ∀ c, c < 10 → ∀ j, j < 3 * (c + 1) + 1 → seqM [] (cutL (c + 1)) j = cutA j := by decide +kernel
end Go.Ab
namespace Go.Proofs.Ytmfhchaoijiodaa
open Go.Ab
set_option linter.unusedVariables false
set_option linter.unusedSimpArgs false
set_option maxRecDepth 100000
set_option maxHeartbeats 1000000
section
variable {s s' : AState} {n b mb B K : Nat} {M : List (Int × Grp)} {L : List (List Prt)}
theorem MkI.afterR (h : MkI s n b mb M s') (hM : ManyOk B M) (hB : B + 24 * L.length ≤ 900000) (hl : ∀ l ∈ L, l.length ≤ 1000 ∧ ∀ p ∈ l, p.es.length ≤ 1000000) (hK : K ≤ L.length) :
    Runs (compCode prog) prog F_cut_After [.p b 0, listsV L, .v (.int .i64 K)] s' (fun x s'' => ∃ p mp, x = .p p 0 ∧ MkI s n b mb M s'' ∧ MkI s n p mp (seqM M L K) s'' ∧ (∀ y, y < s'.n → s''.get y = s'.get y) ∧ s'.n ≤ s''.n ∧ mb < s'.n ∧ s'.n ≤ mp ∧ s'.n ≤ p) := by
  have h0 := h
  obtain ⟨l1, l2, l3⟩ := h0.lt
  obtain ⟨old, n1, hb, hm, A, m⟩ := h
  refine (rn_cut_After m hM hB (fun l hl' => (hl l hl').1) (fun l hl' => (hl l hl').2) hK).mono ?_
  rintro _ s'' ⟨p, mp, Ap, rfl, k1, k2, k3, k4, k5⟩
  exact ⟨p, mp, rfl, h0.keep (c := s'.n) (fun x hx _ => k1 x hx) k2 (by omega) (by omega) (by omega), ⟨fun x hx => (k1 x (by omega)).trans (old x hx), by omega, by omega, by omega, Ap, k5⟩, k1, k2, l2, k4, k3⟩
theorem MkI.fitsR {got : List Grp} {r : Int} {o : Bool} (h : MkI s n b mb M s') (hM : ManyOk B M) (hB : B + 24 * L.length ≤ 900000) (hl : ∀ l ∈ L, l.length ≤ 1000 ∧ ∀ p ∈ l, p.es.length ≤ 1000000)
    (hg : (got.length : Int) < 9223372036854775808) (hge : ∀ g ∈ got, (g.es.length : Int) < 9223372036854775808)
    (H : (o = true ∧ ∃ k : Nat, r = k ∧ k ≤ L.length ∧ got = grpsM (seqM M L k) ∧ ∀ j, j < k → ¬ got = grpsM (seqM M L j)) ∨ (o = false ∧ r = -1 ∧ ∀ j, j ≤ L.length → ¬ got = grpsM (seqM M L j))) :
    Gives prog F_cut_Fits [.sl (got.map Grp.av) .no, .p b 0, listsV L] s' (.tup [.v (.int .i64 r), .v (.bool o)]) s' := by
  obtain ⟨A, m⟩ := h.m
  exact ct_cut_Fits m hM hB (fun l hl' => (hl l hl').1) (fun l hl' => (hl l hl').2) hg hge H
end
theorem ct_ladelaw26_known {s : AState} : Gives prog F_ladelaw26_known [] s (.v (.bool true)) s := by
  refine Runs.gives (runs_e h_ladelaw26_known (Nat.le_of_ble_eq_true rfl) ?_) (.v _)
  have ok0 := ManyOk.nil 0
  have hk : ∀ l ∈ kcL, l.length ≤ 1000 ∧ ∀ p ∈ l, p.es.length ≤ 1000000 := by decide
  repeat (first | simp -dsimp -implicitDefEqProofs (disch := first | omega | (simp <;> omega) | fail) | ((with_reducible first | apply m_1 | apply m_0); (focus ((conv => lhs; simp -dsimp -implicitDefEqProofs (disch := first | omega | (simp <;> omega) | fail)); done))) | ((with_reducible first | apply i_T | apply g_T); (focus (simp -dsimp -implicitDefEqProofs (disch := first | omega | (simp <;> omega) | fail); done))) | ((with_reducible first | apply i_F | apply g_F); (focus (simp -dsimp -implicitDefEqProofs (disch := first | omega | (simp <;> omega) | fail); done))))
  refine run (MkI.newR) (by first | (simp; done) | rfl | (simp; rfl)) ?_
  rintro _ s1 ⟨rfl, i1⟩
  repeat (first | simp -dsimp -implicitDefEqProofs (disch := first | omega | (simp <;> omega) | fail) | ((with_reducible first | apply m_1 | apply m_0); (focus ((conv => lhs; simp -dsimp -implicitDefEqProofs (disch := first | omega | (simp <;> omega) | fail)); done))) | ((with_reducible first | apply i_T | apply g_T); (focus (simp -dsimp -implicitDefEqProofs (disch := first | omega | (simp <;> omega) | fail); done))) | ((with_reducible first | apply i_F | apply g_F); (focus (simp -dsimp -implicitDefEqProofs (disch := first | omega | (simp <;> omega) | fail); done))))
  refine runU (i1.afterR (L := kcL) (K := 1) ok0 (by decide) hk (by decide)) (by first | rfl | (simp; rfl)) ?_
  rintro _ s2 ⟨p, mp, rfl, i2, a2, k2, n2, e1, e2, e3⟩
  have oka : ManyOk 48 (seqM [] kcL 1) := (seqM_ok ok0 (kcL.take 1)).more (by decide)
  repeat (first | simp -dsimp -implicitDefEqProofs (disch := first | omega | (simp <;> omega) | fail) | ((with_reducible first | apply m_1 | apply m_0); (focus ((conv => lhs; simp -dsimp -implicitDefEqProofs (disch := first | omega | (simp <;> omega) | fail)); done))) | ((with_reducible first | apply i_T | apply g_T); (focus (simp -dsimp -implicitDefEqProofs (disch := first | omega | (simp <;> omega) | fail); done))) | ((with_reducible first | apply i_F | apply g_F); (focus (simp -dsimp -implicitDefEqProofs (disch := first | omega | (simp <;> omega) | fail); done))))
  refine giv (MkI.allR a2 oka (by omega)) (by simp) ?_
  rw [kc2]
  repeat (first | simp -dsimp -implicitDefEqProofs (disch := first | omega | (simp <;> omega) | fail) | ((with_reducible first | apply m_1 | apply m_0); (focus ((conv => lhs; simp -dsimp -implicitDefEqProofs (disch := first | omega | (simp <;> omega) | fail)); done))) | ((with_reducible first | apply i_T | apply g_T); (focus (simp -dsimp -implicitDefEqProofs (disch := first | omega | (simp <;> omega) | fail); done))) | ((with_reducible first | apply i_F | apply g_F); (focus (simp -dsimp -implicitDefEqProofs (disch := first | omega | (simp <;> omega) | fail); done))))
  refine giv (MkI.allR i2 ok0 (by omega)) (by simp) ?_
  rw [show grpsM [] = [] from rfl]
  repeat (first | simp -dsimp -implicitDefEqProofs (disch := first | omega | (simp <;> omega) | fail) | ((with_reducible first | apply m_1 | apply m_0); (focus ((conv => lhs; simp -dsimp -implicitDefEqProofs (disch := first | omega | (simp <;> omega) | fail)); done))) | ((with_reducible first | apply i_T | apply g_T); (focus (simp -dsimp -implicitDefEqProofs (disch := first | omega | (simp <;> omega) | fail); done))) | ((with_reducible first | apply i_F | apply g_F); (focus (simp -dsimp -implicitDefEqProofs (disch := first | omega | (simp <;> omega) | fail); done))))
  refine giv (MkI.allR a2 oka (by omega)) (by simp) ?_
  rw [kc2]
  repeat (first | simp -dsimp -implicitDefEqProofs (disch := first | omega | (simp <;> omega) | fail) | ((with_reducible first | apply m_1 | apply m_0); (focus ((conv => lhs; simp -dsimp -implicitDefEqProofs (disch := first | omega | (simp <;> omega) | fail)); done))) | ((with_reducible first | apply i_T | apply g_T); (focus (simp -dsimp -implicitDefEqProofs (disch := first | omega | (simp <;> omega) | fail); done))) | ((with_reducible first | apply i_F | apply g_F); (focus (simp -dsimp -implicitDefEqProofs (disch := first | omega | (simp <;> omega) | fail); done))))
  refine giv (MkI.fitsR (L := kcL) (got := [newG 1]) (r := 1) (o := true) i2 ok0 (by decide) hk (by decide) (by decide) (.inl ⟨rfl, 1, rfl, by decide, kc2.symm, kc5⟩)) (by first | rfl | (simp; rfl)) ?_
  refine st0 ?_
  refine giv (MkI.fitsR (L := kcL) (got := [⟨9, 1, 0, 0, 0, 0, []⟩]) (r := -1) (o := false) i2 ok0 (by decide) hk (by decide) (by decide) (.inr ⟨rfl, rfl, fun j hj => kc3 j (by simpa [kcL] using hj)⟩)) (by first | rfl | (simp; rfl)) ?_
  refine st0 ?_
  have := i2.n
  exact ret_ok rfl ⟨⟨by omega, fun x hx => .inl (i2.old x hx).symm⟩, .refl _⟩
end Go.Proofs.Ytmfhchaoijiodaa
end
section
namespace Go.Proofs.Ytmfhchaoijiodaa
open Go.Ab
set_option linter.unusedVariables false
set_option linter.unusedSimpArgs false
set_option maxRecDepth 100000
set_option maxHeartbeats 1000000
def slP (l : List Prt) : AV := .sl (l.map Prt.av) .no
theorem ct_ladelaw26_CutLeast {n u : Int} {s : AState} (hn : 0 ≤ n ∧ n < 256) (hu : 0 ≤ u ∧ u < 256) : Gives prog F_ladelaw26_CutLeast [.v (.int .u8 n), .v (.int .u8 u)] s (.v (.bool true)) s := by
  refine Runs.gives (runs_e h_ladelaw26_CutLeast (Nat.le_of_ble_eq_true rfl) ?_) (.v _)
  have hr := rem_u8 hn.1 (show (0 : Int) < 10 by omega)
  obtain ⟨c0, hc0⟩ : ∃ c : Nat, (c : Int) = n.tmod 10 := ⟨(n.tmod 10).toNat, by omega⟩
  have hw : IntKind.wrap .i64 (n.tmod 10) = c0 := by rw [wrap_i64 (by omega) (by omega), hc0]
  have hw1 : IntKind.wrap .i64 ((c0 : Int) + 1) = ((c0 + 1 : Nat) : Int) := by rw [wrap_i64 (by omega) (by omega)]; omega
  have hwu : IntKind.wrap .i64 u = u := wrap_i64 (by omega) (by omega)
  have hc10 : c0 < 10 := by omega
  obtain ⟨c, hc⟩ : ∃ c, c = c0 + 1 := ⟨_, rfl⟩
  rw [← hc] at hw1
  have w3 : IntKind.wrap .i64 (3 * (c : Int)) = 3 * (c : Int) := wrap_i64 (by omega) (by omega)
  have w4 : IntKind.wrap .i64 (3 * (c : Int) + 1) = 3 * (c : Int) + 1 := wrap_i64 (by omega) (by omega)
  have hr2 := rem_u8 hu.1 (show (0 : Int) < 3 * (c : Int) + 1 by omega)
  obtain ⟨j, hj⟩ : ∃ j : Nat, (j : Int) = u.tmod (3 * (c : Int) + 1) := ⟨(u.tmod (3 * (c : Int) + 1)).toNat, by omega⟩
  have hwj : IntKind.wrap .i64 (u.tmod (3 * (c : Int) + 1)) = j := by rw [wrap_i64 (by omega) (by omega), hj]
  have hjc : j < 3 * c + 1 := by omega
  have ok0 := ManyOk.nil 0
  repeat (first | simp -dsimp -implicitDefEqProofs (disch := first | omega | (simp <;> omega) | fail) | ((with_reducible first | apply m_1 | apply m_0); (focus ((conv => lhs; simp -dsimp -implicitDefEqProofs (disch := first | omega | (simp <;> omega) | fail)); done))) | ((with_reducible first | apply i_T | apply g_T); (focus (simp -dsimp -implicitDefEqProofs (disch := first | omega | (simp <;> omega) | fail); done))) | ((with_reducible first | apply i_F | apply g_F); (focus (simp -dsimp -implicitDefEqProofs (disch := first | omega | (simp <;> omega) | fail); done))))
  refine gv (ct_ladelaw26_known) ?_
  repeat (first | simp -dsimp -implicitDefEqProofs (disch := first | omega | (simp <;> omega) | fail) | ((with_reducible first | apply m_1 | apply m_0); (focus ((conv => lhs; simp -dsimp -implicitDefEqProofs (disch := first | omega | (simp <;> omega) | fail)); done))) | ((with_reducible first | apply i_T | apply g_T); (focus (simp -dsimp -implicitDefEqProofs (disch := first | omega | (simp <;> omega) | fail); done))) | ((with_reducible first | apply i_F | apply g_F); (focus (simp -dsimp -implicitDefEqProofs (disch := first | omega | (simp <;> omega) | fail); done))))
  refine rn0 (MkI.newR) ?_
  rintro _ s1 ⟨rfl, i1⟩
  repeat (first | simp -dsimp -implicitDefEqProofs (disch := first | omega | (simp <;> omega) | fail) [hw, hw1] | ((with_reducible first | apply m_1 | apply m_0); (focus ((conv => lhs; simp -dsimp -implicitDefEqProofs (disch := first | omega | (simp <;> omega) | fail) [hw, hw1]); done))) | ((with_reducible first | apply i_T | apply g_T); (focus (simp -dsimp -implicitDefEqProofs (disch := first | omega | (simp <;> omega) | fail) [hw, hw1]; done))) | ((with_reducible first | apply i_F | apply g_F); (focus (simp -dsimp -implicitDefEqProofs (disch := first | omega | (simp <;> omega) | fail) [hw, hw1]; done))))
  have n1 := i1.n
  refine loop_ok [1, 5, 6, 7, 8] (fun r a s2 => ∃ (i : Nat) (tk : Tok), i + r = c ∧ MkI s 2 (s.n + 1) s.n [] s2 ∧ May s.n s2 ((cutL i).map slP) tk ∧
    a = { t := den 77 [(1, .v (.int .u8 u)), (5, .p (s.n + 1) 0), (6, .sl ((cutL i).map slP) tk), (7, .v (.int .i64 c)), (8, .v (.int .i64 i))], d := [] }) c ?_ ?_
  · exact ⟨0, .zero, by simp, i1, trivial, by simp [cutL]⟩
  rintro r a s2 ⟨i, tk, hir, i2, may, rfl⟩
  have n2 := i2.n
  by_cases hlt : i < c
  · have w5 : IntKind.wrap .i64 ((i : Int) + 1) = (i : Int) + 1 := wrap_i64 (by omega) (by omega)
    repeat (first | simp -dsimp -implicitDefEqProofs (disch := first | omega | (simp <;> omega) | fail) [hlt] | ((with_reducible first | apply m_1 | apply m_0); (focus ((conv => lhs; simp -dsimp -implicitDefEqProofs (disch := first | omega | (simp <;> omega) | fail) [hlt]); done))) | ((with_reducible first | apply i_T | apply g_T); (focus (simp -dsimp -implicitDefEqProofs (disch := first | omega | (simp <;> omega) | fail) [hlt]; done))) | ((with_reducible first | apply i_F | apply g_F); (focus (simp -dsimp -implicitDefEqProofs (disch := first | omega | (simp <;> omega) | fail) [hlt]; done))))
    refine m_appS (xs := (cutL i).map slP) (tk := tk) (ys := cutB.map slP) (t2 := .zero) (N := s.n) (by simp) (by simp; rfl) (by omega) may (by cases cutL i <;> simp [headK, slP, AV.cells]) (by decide) (by simp [cutL_len, cutB]; omega) (by simp [cutL_len, cutB]; omega) ?_
    intro s3 tk2 hm2 hlow hext
    have hst : List.map (AV.strip ∘ slP) cutB = List.map slP cutB := rfl
    repeat (first | simp -dsimp -implicitDefEqProofs (disch := first | omega | (simp <;> omega) | fail) | ((with_reducible first | apply m_1 | apply m_0); (focus ((conv => lhs; simp -dsimp -implicitDefEqProofs (disch := first | omega | (simp <;> omega) | fail)); done))) | ((with_reducible first | apply i_T | apply g_T); (focus (simp -dsimp -implicitDefEqProofs (disch := first | omega | (simp <;> omega) | fail); done))) | ((with_reducible first | apply i_F | apply g_F); (focus (simp -dsimp -implicitDefEqProofs (disch := first | omega | (simp <;> omega) | fail); done))))
    refine ⟨r - 1, by omega, i + 1, tk2, by omega, i2.ext hext hlow, by rw [cutL_snoc, List.map_append]; simpa [hst] using hm2, by rw [cutL_snoc]; simp [w5, hst]⟩
  have hic : i = c := by omega
  subst hic
  have hL := cutL_len i
  have hmem := cutL_mem (c := i)
  have hk : ∀ x, x < 3 * i + 1 → seqM [] (cutL i) x = cutA x := fun x hx => by
    have := cut_k c0 hc10 x (by omega)
    rwa [← hc] at this
  have ne : ¬ 3 * (i : Int) + 1 = 0 := by omega
  have hj' : u.tmod (3 * (i : Int) + 1) = j := hj.symm
  repeat (first | simp -dsimp -implicitDefEqProofs (disch := first | omega | (simp <;> omega) | fail) [hlt, hwu, w3, w4, hwj, ne, hj'] | ((with_reducible first | apply m_1 | apply m_0); (focus ((conv => lhs; simp -dsimp -implicitDefEqProofs (disch := first | omega | (simp <;> omega) | fail) [hlt, hwu, w3, w4, hwj, ne, hj']); done))) | ((with_reducible first | apply i_T | apply g_T); (focus (simp -dsimp -implicitDefEqProofs (disch := first | omega | (simp <;> omega) | fail) [hlt, hwu, w3, w4, hwj, ne, hj']; done))) | ((with_reducible first | apply i_F | apply g_F); (focus (simp -dsimp -implicitDefEqProofs (disch := first | omega | (simp <;> omega) | fail) [hlt, hwu, w3, w4, hwj, ne, hj']; done))))
  refine runU (i2.afterR (L := cutL i) (K := j) ok0 (by omega) hmem (by omega)) (by first | rfl | (simp; first | rfl | exact ⟨rfl, hj.symm⟩)) ?_
  rintro _ s3 ⟨p, mp, rfl, i3, a3, k3, n3, e1, e2, e3⟩
  rw [hk j hjc] at a3
  have hz : seqM [] (cutL i) 0 = [] := rfl
  have hg3 : grpsM [((3 : Int), newG 3)] = [newG 3] := rfl
  have m3 : IntKind.wrap .i64 ((j : Int).tmod 3) = ((j % 3 : Nat) : Int) := by
    rw [show (j : Int).tmod 3 = ((j % 3 : Nat) : Int) from rfl]
    exact wrap_i64 (by omega) (by omega)
  have m3' : (j : Int).tmod 3 = ((j % 3 : Nat) : Int) := rfl
  by_cases h3 : j % 3 = 0
  · have ha : cutA j = [] := if_pos h3
    rw [ha] at a3
    have h3b : ((j : Int) % 3 != 0) = false := by simp; omega
    repeat (first | simp -dsimp -implicitDefEqProofs (disch := first | omega | (simp <;> omega) | fail) [hj', m3, m3', h3, h3b] | ((with_reducible first | apply m_1 | apply m_0); (focus ((conv => lhs; simp -dsimp -implicitDefEqProofs (disch := first | omega | (simp <;> omega) | fail) [hj', m3, m3', h3, h3b]); done))) | ((with_reducible first | apply i_T | apply g_T); (focus (simp -dsimp -implicitDefEqProofs (disch := first | omega | (simp <;> omega) | fail) [hj', m3, m3', h3, h3b]; done))) | ((with_reducible first | apply i_F | apply g_F); (focus (simp -dsimp -implicitDefEqProofs (disch := first | omega | (simp <;> omega) | fail) [hj', m3, m3', h3, h3b]; done))))
    refine giv (MkI.allR a3 (ManyOk.nil 0) (by omega)) (by simp) ?_
    rw [show grpsM [] = [] from rfl]
    repeat (first | simp -dsimp -implicitDefEqProofs (disch := first | omega | (simp <;> omega) | fail) | ((with_reducible first | apply m_1 | apply m_0); (focus ((conv => lhs; simp -dsimp -implicitDefEqProofs (disch := first | omega | (simp <;> omega) | fail)); done))) | ((with_reducible first | apply i_T | apply g_T); (focus (simp -dsimp -implicitDefEqProofs (disch := first | omega | (simp <;> omega) | fail); done))) | ((with_reducible first | apply i_F | apply g_F); (focus (simp -dsimp -implicitDefEqProofs (disch := first | omega | (simp <;> omega) | fail); done))))
    refine giv (MkI.fitsR (L := cutL i) (got := []) (r := 0) (o := true) i3 ok0 (by omega) hmem (by simp) (by simp) (.inl ⟨rfl, 0, rfl, by omega, rfl, fun x hx => by omega⟩)) (by first | rfl | (simp; rfl)) ?_
    repeat (first | simp -dsimp -implicitDefEqProofs (disch := first | omega | (simp <;> omega) | fail) | ((with_reducible first | apply m_1 | apply m_0); (focus ((conv => lhs; simp -dsimp -implicitDefEqProofs (disch := first | omega | (simp <;> omega) | fail)); done))) | ((with_reducible first | apply i_T | apply g_T); (focus (simp -dsimp -implicitDefEqProofs (disch := first | omega | (simp <;> omega) | fail); done))) | ((with_reducible first | apply i_F | apply g_F); (focus (simp -dsimp -implicitDefEqProofs (disch := first | omega | (simp <;> omega) | fail); done))))
    refine giv (MkI.allR a3 (ManyOk.nil 0) (by omega)) (by simp) ?_
    rw [show grpsM [] = [] from rfl]
    repeat (first | simp -dsimp -implicitDefEqProofs (disch := first | omega | (simp <;> omega) | fail) | ((with_reducible first | apply m_1 | apply m_0); (focus ((conv => lhs; simp -dsimp -implicitDefEqProofs (disch := first | omega | (simp <;> omega) | fail)); done))) | ((with_reducible first | apply i_T | apply g_T); (focus (simp -dsimp -implicitDefEqProofs (disch := first | omega | (simp <;> omega) | fail); done))) | ((with_reducible first | apply i_F | apply g_F); (focus (simp -dsimp -implicitDefEqProofs (disch := first | omega | (simp <;> omega) | fail); done))))
    refine giv (MkI.allR i3 (ManyOk.nil 0) (by omega)) (by simp) ?_
    rw [show grpsM [] = [] from rfl]
    refine st0 ?_
    have := i3.n
    exact ret_ok rfl ⟨⟨by omega, fun x hx => .inl (i3.old x hx).symm⟩, .refl _⟩
  · have ha : cutA j = [(3, newG 3)] := if_neg h3
    rw [ha] at a3
    have h3b : ((j : Int) % 3 != 0) = true := by simp; omega
    have h1 : seqM [] (cutL i) 1 = [(3, newG 3)] := (hk 1 (by omega)).trans rfl
    have ok3 : ManyOk 10000 [((3 : Int), newG 3)] := by
      have := seqM_ok ok0 ((cutL i).take 1)
      rw [show ((cutL i).take 1).foldl doM [] = seqM [] (cutL i) 1 from rfl, h1] at this
      exact this.more (by have := List.length_take_le 1 (cutL i); omega)
    have fit : ∀ x, x < 1 → ¬ [newG 3] = grpsM (seqM [] (cutL i) x) := fun x hx => by
      obtain rfl : x = 0 := by omega
      rw [hz]; simp [grpsM]
    refine st4 hj' m3 m3' h3b ?_
    refine giv (MkI.allR a3 ok3 (by omega)) (by simp) ?_
    rw [hg3]
    refine st0 ?_
    refine giv (MkI.fitsR (L := cutL i) (got := [newG 3]) (r := 1) (o := true) i3 ok0 (by omega) hmem (by simp) (by simp [newG]) (.inl ⟨rfl, 1, rfl, by omega, by rw [h1, hg3], fit⟩)) (by first | rfl | (simp; rfl)) ?_
    refine st0 ?_
    refine giv (MkI.allR a3 ok3 (by omega)) (by simp) ?_
    rw [hg3]
    refine st0 ?_
    refine giv (MkI.allR i3 (ManyOk.nil 0) (by omega)) (by simp) ?_
    rw [show grpsM [] = [] from rfl]
    refine st0 ?_
    have := i3.n
    exact ret_ok rfl ⟨⟨by omega, fun x hx => .inl (i3.old x hx).symm⟩, .refl _⟩
end Go.Proofs.Ytmfhchaoijiodaa
end
