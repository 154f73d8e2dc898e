/- Going on. -/
import Derived.Shelf.SlGeneric
import Derived.Ground.GgzProg
import Derived.Ground.SlgmProg
import Derived.Ground.SlmcProg
import Derived.Shelf.SlIterI.Nil
import Derived.Shelf.SlMaps.Clone
import Derived.Shelf.SortM.Plain
import Derived.Shelf.SortM.SortNone
import Derived.Test.YtmfhchaoijiodaaGreatKMP17
section
namespace Go.Proofs
open Go.Shelf
def Tryz.sh_maps_Clone_Group_ren : Go.Shelf.Ren := ⟨fun | 5 => 33 | 7 => 56 | n => n, fun | 23 => 63 | 25 => 3 | 3 => 31 | 4 => 4 | 20 => 20 | n => n, fun | n => n⟩
theorem Tryz.sh_maps_Clone_Group : Go.Proofs.SlLaysW.n5 Tryz.prog Tryz.sh_maps_Clone_Group_ren := {
  mixed := by kernel_rfl
  f5 := ⟨Tryz.f33.name, by decide, Tryz.func33.trans (congrArg some (by kernel_rfl))⟩
  f7 := Tryz.func56.trans (congrArg some (by kernel_rfl))
  t4 := Tryz.underlying4
  a4 := Tryz.isAgg4
  z4 := Tryz.sizeOf4
  v4 := Tryz.zeroValue4
  t20 := Tryz.underlying20
  a20 := Tryz.isAgg20
  z20 := Tryz.sizeOf20
  v20 := Tryz.zeroValue20
  t23 := Tryz.underlying63
  a23 := Tryz.isAgg63
  z23 := Tryz.sizeOf63
  v23 := Tryz.zeroValue63 }
def Tryz.sh_slices_Sorted_int_ren : Go.Shelf.Ren := ⟨fun | 6 => 46 | 8 => 82 | 9 => 83 | 11 => 106 | 13 => 108 | 12 => 107 | 23 => 124 | 24 => 125 | 14 => 115 | 15 => 116 | 16 => 117 | 17 => 118 | 18 => 119 | 19 => 120 | 20 => 121 | 21 => 122 | 22 => 123 | 25 => 130 | 26 => 131 | 27 => 132 | 28 => 133 | 29 => 134 | 30 => 135 | 31 => 141 | n => n, fun | 26 => 3 | 28 => 84 | 24 => 86 | 0 => 0 | 3 => 3 | 37 => 129 | 48 => 133 | 50 => 153 | 4 => 4 | 40 => 144 | 39 => 143 | 45 => 149 | 5 => 5 | 9 => 9 | 51 => 156 | 55 => 160 | 57 => 169 | 58 => 170 | 33 => 115 | n => n, fun | n => n⟩
theorem Tryz.sh_slices_Sorted_int : Go.Proofs.SlLaysZI.n6 Tryz.prog Tryz.sh_slices_Sorted_int_ren := {
  mixed := by kernel_rfl
  f6 := ⟨Tryz.f46.name, by decide, Tryz.func46.trans (congrArg some (by kernel_rfl))⟩
  f8 := ⟨Tryz.f82.name, by decide, Tryz.func82.trans (congrArg some (by kernel_rfl))⟩
  f11 := ⟨Tryz.f106.name, by decide, Tryz.func106.trans (congrArg some (by kernel_rfl))⟩
  t0 := Tryz.underlying0
  a0 := Tryz.isAgg0
  z0 := Tryz.sizeOf0
  v0 := Tryz.zeroValue0
  t24 := Tryz.underlying86
  a24 := Tryz.isAgg86
  z24 := Tryz.sizeOf86
  v24 := Tryz.zeroValue86
  t26 := Tryz.underlying3
  a26 := Tryz.isAgg3
  z26 := Tryz.sizeOf3
  v26 := Tryz.zeroValue3
  t28 := Tryz.underlying84
  a28 := Tryz.isAgg84
  z28 := Tryz.sizeOf84
  v28 := Tryz.zeroValue84
  i26 := by kernel_rfl }
def Tryz.sh_maps_Keys_Group_ren : Go.Shelf.Ren := ⟨fun | 7 => 47 | 10 => 84 | n => n, fun | 23 => 63 | 26 => 3 | 3 => 31 | 28 => 84 | 0 => 0 | 27 => 83 | 33 => 115 | 4 => 4 | n => n, fun | n => n⟩
theorem Tryz.sh_maps_Keys_Group : Go.Proofs.SlLaysZI.n7 Tryz.prog Tryz.sh_maps_Keys_Group_ren := {
  mixed := by kernel_rfl
  f7 := ⟨Tryz.f47.name, by decide, Tryz.func47.trans (congrArg some (by kernel_rfl))⟩
  f10 := ⟨Tryz.f84.name, by decide, Tryz.func84.trans (congrArg some (by kernel_rfl))⟩
  t0 := Tryz.underlying0
  a0 := Tryz.isAgg0
  z0 := Tryz.sizeOf0
  v0 := Tryz.zeroValue0
  t4 := Tryz.underlying4
  a4 := Tryz.isAgg4
  z4 := Tryz.sizeOf4
  v4 := Tryz.zeroValue4
  t23 := Tryz.underlying63
  a23 := Tryz.isAgg63
  z23 := Tryz.sizeOf63
  v23 := Tryz.zeroValue63
  t26 := Tryz.underlying3
  a26 := Tryz.isAgg3
  z26 := Tryz.sizeOf3
  v26 := Tryz.zeroValue3
  t27 := Tryz.underlying83
  a27 := Tryz.isAgg83
  z27 := Tryz.sizeOf83
  v27 := Tryz.zeroValue83
  t28 := Tryz.underlying84
  a28 := Tryz.isAgg84
  z28 := Tryz.sizeOf84
  v28 := Tryz.zeroValue84
  t33 := Tryz.underlying115
  a33 := Tryz.isAgg115
  z33 := Tryz.sizeOf115
  v33 := Tryz.zeroValue115 }
def Tryz.sh_slices_Sort_int_ren : Go.Shelf.Ren := ⟨fun | 5 => 83 | 8 => 108 | 7 => 107 | 19 => 124 | 20 => 125 | 10 => 115 | 11 => 116 | 12 => 117 | 13 => 118 | 14 => 119 | 15 => 120 | 16 => 121 | 17 => 122 | 18 => 123 | 30 => 130 | 31 => 131 | 32 => 132 | 33 => 133 | 34 => 134 | 35 => 135 | 40 => 141 | n => n, fun | 23 => 86 | 25 => 3 | 3 => 3 | 32 => 129 | 22 => 86 | 0 => 0 | 44 => 133 | 46 => 153 | 4 => 4 | 36 => 144 | 35 => 143 | 41 => 149 | 5 => 5 | 9 => 9 | 53 => 156 | 57 => 160 | 63 => 169 | 64 => 170 | n => n, fun | n => n⟩
theorem Tryz.sh_slices_Sort_int : Go.Proofs.SlLaysM.n5 Tryz.prog Tryz.sh_slices_Sort_int_ren := {
  mixed := by kernel_rfl
  f5 := ⟨Tryz.f83.name, by decide, Tryz.func83.trans (congrArg some (by kernel_rfl))⟩
  f7 := ⟨Tryz.f107.name, by decide, Tryz.func107.trans (congrArg some (by kernel_rfl))⟩
  f8 := Tryz.func108.trans (congrArg some (by kernel_rfl))
  f10 := ⟨Tryz.f115.name, by decide, Tryz.func115.trans (congrArg some (by kernel_rfl))⟩
  f11 := ⟨Tryz.f116.name, by decide, Tryz.func116.trans (congrArg some (by kernel_rfl))⟩
  f12 := ⟨Tryz.f117.name, by decide, Tryz.func117.trans (congrArg some (by kernel_rfl))⟩
  f13 := ⟨Tryz.f118.name, by decide, Tryz.func118.trans (congrArg some (by kernel_rfl))⟩
  f14 := ⟨Tryz.f119.name, by decide, Tryz.func119.trans (congrArg some (by kernel_rfl))⟩
  f15 := ⟨Tryz.f120.name, by decide, Tryz.func120.trans (congrArg some (by kernel_rfl))⟩
  f16 := ⟨Tryz.f121.name, by decide, Tryz.func121.trans (congrArg some (by kernel_rfl))⟩
  f17 := ⟨Tryz.f122.name, by decide, Tryz.func122.trans (congrArg some (by kernel_rfl))⟩
  f18 := ⟨Tryz.f123.name, by decide, Tryz.func123.trans (congrArg some (by kernel_rfl))⟩
  f19 := Tryz.func124.trans (congrArg some (by kernel_rfl))
  f20 := Tryz.func125.trans (congrArg some (by kernel_rfl))
  f30 := ⟨Tryz.f130.name, by decide, Tryz.func130.trans (congrArg some (by kernel_rfl))⟩
  f31 := Tryz.func131.trans (congrArg some (by kernel_rfl))
  f32 := Tryz.func132.trans (congrArg some (by kernel_rfl))
  f33 := ⟨Tryz.f133.name, by decide, Tryz.func133.trans (congrArg some (by kernel_rfl))⟩
  f34 := ⟨Tryz.f134.name, by decide, Tryz.func134.trans (congrArg some (by kernel_rfl))⟩
  f35 := ⟨Tryz.f135.name, by decide, Tryz.func135.trans (congrArg some (by kernel_rfl))⟩
  f40 := ⟨Tryz.f141.name, by decide, Tryz.func141.trans (congrArg some (by kernel_rfl))⟩
  t0 := Tryz.underlying0
  a0 := Tryz.isAgg0
  z0 := Tryz.sizeOf0
  v0 := Tryz.zeroValue0
  t3 := Tryz.underlying3
  a3 := Tryz.isAgg3
  z3 := Tryz.sizeOf3
  v3 := Tryz.zeroValue3
  t4 := Tryz.underlying4
  a4 := Tryz.isAgg4
  z4 := Tryz.sizeOf4
  v4 := Tryz.zeroValue4
  t5 := Tryz.underlying5
  a5 := Tryz.isAgg5
  z5 := Tryz.sizeOf5
  v5 := Tryz.zeroValue5
  t9 := Tryz.underlying9
  a9 := Tryz.isAgg9
  z9 := Tryz.sizeOf9
  v9 := Tryz.zeroValue9
  t22 := Tryz.underlying86
  a22 := Tryz.isAgg86
  z22 := Tryz.sizeOf86
  v22 := Tryz.zeroValue86
  t23 := Tryz.underlying86
  a23 := Tryz.isAgg86
  z23 := Tryz.sizeOf86
  v23 := Tryz.zeroValue86
  t25 := Tryz.underlying3
  a25 := Tryz.isAgg3
  z25 := Tryz.sizeOf3
  v25 := Tryz.zeroValue3
  t32 := Tryz.underlying129
  a32 := Tryz.isAgg129
  z32 := Tryz.sizeOf129
  v32 := Tryz.zeroValue129
  t35 := Tryz.underlying143
  a35 := Tryz.isAgg143
  z35 := Tryz.sizeOf143
  v35 := Tryz.zeroValue143
  t36 := Tryz.underlying144
  a36 := Tryz.isAgg144
  z36 := Tryz.sizeOf144
  v36 := Tryz.zeroValue144
  t41 := Tryz.underlying149
  a41 := Tryz.isAgg149
  z41 := Tryz.sizeOf149
  v41 := Tryz.zeroValue149
  t44 := Tryz.underlying133
  a44 := Tryz.isAgg133
  z44 := Tryz.sizeOf133
  v44 := Tryz.zeroValue133
  t46 := Tryz.underlying153
  a46 := Tryz.isAgg153
  z46 := Tryz.sizeOf153
  v46 := Tryz.zeroValue153
  t53 := Tryz.underlying156
  a53 := Tryz.isAgg156
  z53 := Tryz.sizeOf156
  v53 := Tryz.zeroValue156
  t57 := Tryz.underlying160
  a57 := Tryz.isAgg160
  z57 := Tryz.sizeOf160
  v57 := Tryz.zeroValue160
  t63 := Tryz.underlying169
  a63 := Tryz.isAgg169
  z63 := Tryz.sizeOf169
  v63 := Tryz.zeroValue169
  t64 := Tryz.underlying170
  a64 := Tryz.isAgg170
  z64 := Tryz.sizeOf170
  v64 := Tryz.zeroValue170 }
end Go.Proofs
end
section
namespace Go.Proofs.YtmfhchaoijiodaaGreat
open Go.Ab Go.Maps
set_option linter.unusedVariables false
set_option linter.unusedSimpArgs false
set_option maxRecDepth 100000
set_option maxHeartbeats 4000000
theorem sortsI (m : Nat) : AnyZI.SortsIn Tryz.prog Tryz.sh_slices_Sorted_int_ren Fence.wide m :=
  ⟨fun blk off cap ss W hH hblk hsz => callsIn_wide.2 (AnyM.slices_Sort_int Tryz.sh_slices_Sort_int blk off cap ss W hH hblk hsz),
   fun p cap W => callsIn_wide.2 (AnyM.slices_Sort_int_none Tryz.sh_slices_Sort_int p cap W)⟩
theorem ct_sorted_Group {β : Type} {s : AState} {cb b : Nat} {enc : β → AV} {A B : List (Int × β)} (hcb : s.get cb = .cells [.m b]) (hb : s.get b = .map (encM enc A)) (hAB : Rep A B)
    (hw : ∀ x ∈ B, -9223372036854775808 ≤ x.1 ∧ x.1 < 9223372036854775808) (hlen : B.length * 8 ≤ 140737488355328) :
    Gives prog F_slices_Sorted_int [.f (.func F_maps_Keys_Group_1) [] [.p cb 0]] s (.sl ((B.map (·.1)).map fun n => .v (.int .i64 n)) .no) s := by
  refine Runs.sorted (kt := Tryz.sh_maps_Keys_Group_ren.t 26) (T := Tryz.sh_slices_Sorted_int_ren.t 26) (enters_of Tryz.func46 (by kernel_rfl) rfl) hcb hb hAB hw Tryz.sh_maps_Keys_Group.t26 hlen ?_
  intro w Bm r D0 hc hlt hown hsz
  have hseq := AnyZI.keys_gives (ρ := Tryz.sh_maps_Keys_Group_ren) { Tryz.sh_maps_Keys_Group with } Fence.wide 2 trivial rfl (by omega) Bm r _ D0 w hlt hc hown
  have := AnyZI.sorted_in Tryz.sh_slices_Sorted_int Fence.wide 5 trivial trivial trivial trivial rfl (by omega) (sortsI _) (enters_of Tryz.func83 (by kernel_rfl) rfl) F_maps_Keys_Group_1 #[.pointer (some ⟨Bm, 0, none⟩)] trivial (enters_of Tryz.func84 (by kernel_rfl) rfl) _ (Maps.size D0)
    (by have e : maxLen = 9223372036854775807 := rfl; omega) (by omega) w hseq
  exact (callsIn_wide (n := 5)).1 this
theorem ct_maps_Keys_Group {b : Nat} {s : AState} : Gives prog F_maps_Keys_Group [.m b] s (.f (.func F_maps_Keys_Group_1) [] [.p s.n 0]) (s.alloc (.cells [.m b])) := by
  refine runs_e h_maps_Keys_Group (Nat.le_of_ble_eq_true rfl) ?_
  refine st0 ?_
  exact ret_ok rfl ⟨rfl, rfl⟩
theorem ct_maps_Clone_Group {κ β : Type} [DecidableEq κ] [KE κ] {s : AState} {b : Nat} {enc : β → AV} {A : List (κ × β)} (hb : s.get b = .map (encM enc A)) : Gives prog F_maps_Clone_Group [.m b] s (.m s.n) (s.alloc (.map (encM enc A))) :=
  Runs.clone (enters_of Tryz.func33 (by kernel_rfl) rfl) hb fun w r es clock h => AnyW.maps_Clone Tryz.sh_maps_Clone_Group r es clock w h
theorem ct_slices_Clone_Entry {es : List Ent} {s : AState} (hlen : es.length * 32 ≤ 140737488355328) : Gives prog F_slices_Clone_Entry [.sl (es.map Ent.av) .no] s (.sl (es.map Ent.av) .no) s := by
  refine Runs.gives' (runs_e h_slices_Clone_Entry (Nat.le_of_ble_eq_true rfl) ?_) (flat_sl Ent.row _)
  refine st0 ?_
  refine i_N (fun hne => ?_) (fun hne b => ?_)
  · refine st0 ?_
    refine m_app (xs := []) (tk := .zero) (B := s) (N := s.n) (by simp) (by simp; exact ⟨rfl, rfl⟩) (Grows.refl s) (Nat.le_refl _) (Nat.le_refl _) trivial (by simp) (by simp) (by simp; omega) (by simp; omega) ?_
    intro s' tk2 hg hm _ _
    refine st0 ?_
    exact ret_ok rfl ⟨hg, by simpa using AV.le_no _ _⟩
  · have : es = [] := by simpa using hne
    subst this
    cases b
    · refine st0 ?_
      exact ret_ok rfl ⟨Grows.refl _, AV.le_no _ _⟩
    · refine st0 ?_
      exact ret_ok rfl ⟨Grows.refl _, AV.le_no _ _⟩
end Go.Proofs.YtmfhchaoijiodaaGreat
end
section
namespace Go.Ab
set_option linter.unusedVariables false
structure ManyAt (s : AState) (b mb : Nat) (A M : List (Int × Grp)) : Prop where
  b : s.get b = .cells [.m mb]
  m : s.get mb = .map (encM Grp.av A)
  r : Rep A M
theorem ManyAt.keep {s s' : AState} {b mb : Nat} {A M : List (Int × Grp)} (h : ManyAt s b mb A M) (k : ∀ x, x = b ∨ x = mb → s'.get x = s.get x) : ManyAt s' b mb A M :=
  ⟨(k b (.inl rfl)).trans h.b, (k mb (.inr rfl)).trans h.m, h.r⟩
theorem ManyAt.lt {s : AState} {b mb : Nat} {A M : List (Int × Grp)} (h : ManyAt s b mb A M) : b < s.n ∧ mb < s.n ∧ b ≠ mb :=
  ⟨AState.lt_of_get h.b (by simp), AState.lt_of_get h.m (by simp), fun e => by have h1 := h.b; have h2 := h.m; rw [e, h2] at h1; cases h1⟩
def zeroG' : Grp := ⟨0, 0, 0, 0, 0, 0, []⟩
end Go.Ab
namespace Go.Proofs.YtmfhchaoijiodaaGreat
open Go.Ab
set_option linter.unusedVariables false
set_option linter.unusedSimpArgs false
set_option maxRecDepth 100000
set_option maxHeartbeats 1000000
theorem rn_many_New {s : AState} : Runs (compCode prog) prog F_many_New [] s (fun x s' => x = .p (s.n + 1) 0 ∧ s' = (s.alloc (.map [])).alloc (.cells [.m s.n])) := by
  refine runs_e h_many_New (Nat.le_of_ble_eq_true rfl) ?_
  refine st0 ?_
  exact ret_ok rfl ⟨rfl, rfl⟩
theorem ct_many_copied {g : Grp} {s : AState} (hl : g.es.length * 32 ≤ 140737488355328) : Gives prog F_many_copied [g.av] s g.av s := by
  refine Runs.gives' (runs_e h_many_copied (Nat.le_of_ble_eq_true rfl) ?_) (Grp.row _).flat
  refine st0 ?_
  refine gv (ct_slices_Clone_Entry (es := g.es) hl) ?_
  refine st0 ?_
  refine ret_ok (by simp; rfl) ⟨((Grows.refl _).alloc _).alloc _, ?_⟩
  simp [retVal]; exact .refl _
theorem ct_many_Many_Get {b mb : Nat} {A M : List (Int × Grp)} {i : Int} {s : AState} {B : Nat} (h : ManyAt s b mb A M) (hM : ManyOk B M) (hB : B ≤ 1000000) :
    Gives prog F_many_Many_Get [.p b 0, .v (.int .i64 i)] s (.tup [((lk M i).getD zeroG').av, .v (.bool (lk M i).isSome)]) s := by
  refine Runs.gives' (runs_e h_many_Many_Get (Nat.le_of_ble_eq_true rfl) ?_) (Flat.tup (by simp; exact ⟨(Grp.row _).flat, .v _⟩))
  obtain ⟨lb, lm, lne⟩ := h.lt
  obtain ⟨h1, h2, h3⟩ := h
  repeat (first | simp -dsimp -implicitDefEqProofs (disch := first | omega | (simp <;> omega) | fail) [h1] | ((with_reducible first | apply m_1 | apply m_0); (focus ((conv => lhs; simp -dsimp -implicitDefEqProofs (disch := first | omega | (simp <;> omega) | fail) [h1]); done))) | ((with_reducible first | apply i_T | apply g_T); (focus (simp -dsimp -implicitDefEqProofs (disch := first | omega | (simp <;> omega) | fail) [h1]; done))) | ((with_reducible first | apply i_F | apply g_F); (focus (simp -dsimp -implicitDefEqProofs (disch := first | omega | (simp <;> omega) | fail) [h1]; done))))
  refine m_look (κ := Int) (A := A) (enc := Grp.av) (k := i) (b := mb) (by simp) (dz1 h2) (by simp; rfl) ?_
  have hl : ((lk M i).getD zeroG').es.length ≤ 1000000 := by
    cases hk : lk M i with
    | none => exact Nat.zero_le _
    | some g => have := hM.len _ (lk_mem hk); simp only [Option.getD_some] at this ⊢; omega
  unfold lkV
  rw [h3.lk]
  generalize lk M i = o at hl ⊢
  cases o with
  | none =>
    repeat (first | simp -dsimp -implicitDefEqProofs (disch := first | omega | (simp <;> omega) | fail) | ((with_reducible first | apply m_1 | apply m_0); (focus ((conv => lhs; simp -dsimp -implicitDefEqProofs (disch := first | omega | (simp <;> omega) | fail)); done))) | ((with_reducible first | apply i_T | apply g_T); (focus (simp -dsimp -implicitDefEqProofs (disch := first | omega | (simp <;> omega) | fail); done))) | ((with_reducible first | apply i_F | apply g_F); (focus (simp -dsimp -implicitDefEqProofs (disch := first | omega | (simp <;> omega) | fail); done))))
    refine gv (ct_many_copied (g := zeroG') (by simp [zeroG'])) ?_
    refine st0 ?_
    refine ret_ok (by simp; rfl) ⟨((Grows.refl _).alloc _).alloc _, ?_⟩
    simp [retVal, zeroG', Grp.av, Grp.cells]; exact .refl _
  | some g =>
    simp only [Option.getD_some] at hl
    repeat (first | simp -dsimp -implicitDefEqProofs (disch := first | omega | (simp <;> omega) | fail) | ((with_reducible first | apply m_1 | apply m_0); (focus ((conv => lhs; simp -dsimp -implicitDefEqProofs (disch := first | omega | (simp <;> omega) | fail)); done))) | ((with_reducible first | apply i_T | apply g_T); (focus (simp -dsimp -implicitDefEqProofs (disch := first | omega | (simp <;> omega) | fail); done))) | ((with_reducible first | apply i_F | apply g_F); (focus (simp -dsimp -implicitDefEqProofs (disch := first | omega | (simp <;> omega) | fail); done))))
    refine gv (ct_many_copied (g := g) (by omega)) ?_
    repeat (first | simp -dsimp -implicitDefEqProofs (disch := first | omega | (simp <;> omega) | fail) | ((with_reducible first | apply m_1 | apply m_0); (focus ((conv => lhs; simp -dsimp -implicitDefEqProofs (disch := first | omega | (simp <;> omega) | fail)); done))) | ((with_reducible first | apply i_T | apply g_T); (focus (simp -dsimp -implicitDefEqProofs (disch := first | omega | (simp <;> omega) | fail); done))) | ((with_reducible first | apply i_F | apply g_F); (focus (simp -dsimp -implicitDefEqProofs (disch := first | omega | (simp <;> omega) | fail); done))))
    refine ret_ok (by simp; rfl) ⟨((Grows.refl _).alloc _).alloc _, ?_⟩
    simp [retVal]; exact .refl _
theorem rn_many_Many_Copy {b mb : Nat} {A M : List (Int × Grp)} {s : AState} (h : ManyAt s b mb A M) : Runs (compCode prog) prog F_many_Many_Copy [.p b 0] s (fun x s' => x = .p (s.n + 1) 0 ∧ s' = (s.alloc (.map (encM Grp.av A))).alloc (.cells [.m s.n])) := by
  refine runs_e h_many_Many_Copy (Nat.le_of_ble_eq_true rfl) ?_
  obtain ⟨lb, lm, lne⟩ := h.lt
  obtain ⟨h1, h2, h3⟩ := h
  repeat (first | simp -dsimp -implicitDefEqProofs (disch := first | omega | (simp <;> omega) | fail) [h1] | ((with_reducible first | apply m_1 | apply m_0); (focus ((conv => lhs; simp -dsimp -implicitDefEqProofs (disch := first | omega | (simp <;> omega) | fail) [h1]); done))) | ((with_reducible first | apply i_T | apply g_T); (focus (simp -dsimp -implicitDefEqProofs (disch := first | omega | (simp <;> omega) | fail) [h1]; done))) | ((with_reducible first | apply i_F | apply g_F); (focus (simp -dsimp -implicitDefEqProofs (disch := first | omega | (simp <;> omega) | fail) [h1]; done))))
  refine gv (ct_maps_Clone_Group (A := A) (enc := Grp.av) (b := mb) h2) ?_
  refine st0 ?_
  exact ret_ok rfl ⟨rfl, rfl⟩
theorem rn_many_Many_one {b mb : Nat} {A M : List (Int × Grp)} {p : Prt} {s : AState} {B : Nat} (h : ManyAt s b mb A M) (hM : ManyOk B M) (hB : B ≤ 1000000) (hp : isPart p = true) :
    Runs (compCode prog) prog F_many_Many_one [.p b 0, p.av] s (fun x s' => x = .v (.int .i64 (errM M p)) ∧ Mut [mb] [] s s' ∧ ∃ A', ManyAt s' b mb A' (oneM M p)) := by
  refine runs_e h_many_Many_one (Nat.le_of_ble_eq_true rfl) ?_
  obtain ⟨lb, lm, lne⟩ := h.lt
  obtain ⟨h1, h2, h3⟩ := h
  have hO := okP hp
  have hl6 := hO.len
  repeat (first | simp -dsimp -implicitDefEqProofs (disch := first | omega | (simp <;> omega) | fail) [h1] | (with_reducible apply m_draw) | ((with_reducible refine ⟨m_op ?_, ?_⟩); (focus (simp -dsimp -implicitDefEqProofs (disch := first | omega | (simp <;> omega) | fail) [h1]; done))) | ((with_reducible first | apply m_d1 rfl | apply m_dE | apply m_dE0); (focus ((conv => lhs; simp -dsimp -implicitDefEqProofs (disch := first | omega | (simp <;> omega) | fail) [h1]); done))) | ((with_reducible first | apply m_1 | apply m_0); (focus ((conv => lhs; simp -dsimp -implicitDefEqProofs (disch := first | omega | (simp <;> omega) | fail) [h1]); done))) | ((with_reducible first | apply i_T | apply g_T | apply h_T); (focus (simp -dsimp -implicitDefEqProofs (disch := first | omega | (simp <;> omega) | fail) [h1]; done))) | ((with_reducible first | apply i_F | apply g_F | apply h_F); (focus (simp -dsimp -implicitDefEqProofs (disch := first | omega | (simp <;> omega) | fail) [h1]; done))))
  refine q_look (κ := Int) (A := A) (enc := Grp.av) (k := p.gr) (b := mb) (by simp) (by simp (disch := first | omega | (simp <;> omega) | fail) [h2]) (by simp; rfl) ?_
  unfold lkV errM oneM
  rw [h3.lk]
  cases hk : lk M p.gr with
  | none =>
    have hg := newG_ok (i := p.gr) hO.gr
    by_cases k35 : p.kd = 3 ∨ p.kd = 5
    · rw [if_pos k35]
      simp only [if_pos k35]
      have out : ∀ s', (∀ x, x < s.n → s'.get x = s.get x) → s.n ≤ s'.n → AV.v (.int .i64 13) = .v (.int .i64 13) ∧ Mut [mb] [] s s' ∧ ∃ A', ManyAt s' b mb A' M := fun s' k n =>
        ⟨rfl, ⟨n, fun x hx _ => k x hx, by simp⟩, A, (⟨h1, h2, h3⟩ : ManyAt s b mb A M).keep fun x hx => by rcases hx with rfl | rfl <;> exact k _ (by assumption)⟩
      rcases k35 with k3 | k3
      · repeat (first | simp -dsimp -implicitDefEqProofs (disch := first | omega | (simp <;> omega) | fail) [k3] | (with_reducible apply m_draw) | ((with_reducible refine ⟨m_op ?_, ?_⟩); (focus (simp -dsimp -implicitDefEqProofs (disch := first | omega | (simp <;> omega) | fail) [k3]; done))) | ((with_reducible first | apply m_d1 rfl | apply m_dE | apply m_dE0); (focus ((conv => lhs; simp -dsimp -implicitDefEqProofs (disch := first | omega | (simp <;> omega) | fail) [k3]); done))) | ((with_reducible first | apply m_1 | apply m_0); (focus ((conv => lhs; simp -dsimp -implicitDefEqProofs (disch := first | omega | (simp <;> omega) | fail) [k3]); done))) | ((with_reducible first | apply i_T | apply g_T | apply h_T); (focus (simp -dsimp -implicitDefEqProofs (disch := first | omega | (simp <;> omega) | fail) [k3]; done))) | ((with_reducible first | apply i_F | apply g_F | apply h_F); (focus (simp -dsimp -implicitDefEqProofs (disch := first | omega | (simp <;> omega) | fail) [k3]; done))))
        refine ⟨.of_ext (AState.ext_alloc _ _), ?_⟩
        repeat (first | simp -dsimp -implicitDefEqProofs (disch := first | omega | (simp <;> omega) | fail) [k3] | (with_reducible apply m_draw) | ((with_reducible refine ⟨m_op ?_, ?_⟩); (focus (simp -dsimp -implicitDefEqProofs (disch := first | omega | (simp <;> omega) | fail) [k3]; done))) | ((with_reducible first | apply m_d1 rfl | apply m_dE | apply m_dE0); (focus ((conv => lhs; simp -dsimp -implicitDefEqProofs (disch := first | omega | (simp <;> omega) | fail) [k3]); done))) | ((with_reducible first | apply m_1 | apply m_0); (focus ((conv => lhs; simp -dsimp -implicitDefEqProofs (disch := first | omega | (simp <;> omega) | fail) [k3]); done))) | ((with_reducible first | apply i_T | apply g_T | apply h_T); (focus (simp -dsimp -implicitDefEqProofs (disch := first | omega | (simp <;> omega) | fail) [k3]; done))) | ((with_reducible first | apply i_F | apply g_F | apply h_F); (focus (simp -dsimp -implicitDefEqProofs (disch := first | omega | (simp <;> omega) | fail) [k3]; done))))
        exact ret_ok rfl (out _ (fun x hx => by simp (disch := first | omega | (simp <;> omega) | fail)) (by simp <;> omega))
      · have k33 : ¬ p.kd = 3 := by omega
        repeat (first | simp -dsimp -implicitDefEqProofs (disch := first | omega | (simp <;> omega) | fail) [k3, k33] | (with_reducible apply m_draw) | ((with_reducible refine ⟨m_op ?_, ?_⟩); (focus (simp -dsimp -implicitDefEqProofs (disch := first | omega | (simp <;> omega) | fail) [k3, k33]; done))) | ((with_reducible first | apply m_d1 rfl | apply m_dE | apply m_dE0); (focus ((conv => lhs; simp -dsimp -implicitDefEqProofs (disch := first | omega | (simp <;> omega) | fail) [k3, k33]); done))) | ((with_reducible first | apply m_1 | apply m_0); (focus ((conv => lhs; simp -dsimp -implicitDefEqProofs (disch := first | omega | (simp <;> omega) | fail) [k3, k33]); done))) | ((with_reducible first | apply i_T | apply g_T | apply h_T); (focus (simp -dsimp -implicitDefEqProofs (disch := first | omega | (simp <;> omega) | fail) [k3, k33]; done))) | ((with_reducible first | apply i_F | apply g_F | apply h_F); (focus (simp -dsimp -implicitDefEqProofs (disch := first | omega | (simp <;> omega) | fail) [k3, k33]; done))))
        refine ⟨.of_ext (AState.ext_alloc _ _), ?_⟩
        repeat (first | simp -dsimp -implicitDefEqProofs (disch := first | omega | (simp <;> omega) | fail) [k3, k33] | (with_reducible apply m_draw) | ((with_reducible refine ⟨m_op ?_, ?_⟩); (focus (simp -dsimp -implicitDefEqProofs (disch := first | omega | (simp <;> omega) | fail) [k3, k33]; done))) | ((with_reducible first | apply m_d1 rfl | apply m_dE | apply m_dE0); (focus ((conv => lhs; simp -dsimp -implicitDefEqProofs (disch := first | omega | (simp <;> omega) | fail) [k3, k33]); done))) | ((with_reducible first | apply m_1 | apply m_0); (focus ((conv => lhs; simp -dsimp -implicitDefEqProofs (disch := first | omega | (simp <;> omega) | fail) [k3, k33]); done))) | ((with_reducible first | apply i_T | apply g_T | apply h_T); (focus (simp -dsimp -implicitDefEqProofs (disch := first | omega | (simp <;> omega) | fail) [k3, k33]; done))) | ((with_reducible first | apply i_F | apply g_F | apply h_F); (focus (simp -dsimp -implicitDefEqProofs (disch := first | omega | (simp <;> omega) | fail) [k3, k33]; done))))
        exact ret_ok rfl (out _ (fun x hx => by simp (disch := first | omega | (simp <;> omega) | fail)) (by simp <;> omega))
    · rw [if_neg k35]
      simp only [if_neg k35]
      have k3 : ¬ p.kd = 3 := fun e => k35 (.inl e)
      have k5 : ¬ p.kd = 5 := fun e => k35 (.inr e)
      have hes : (newG p.gr).es.length = 0 := rfl
      repeat (first | simp -dsimp -implicitDefEqProofs (disch := first | omega | (simp <;> omega) | fail) [k3, k5] | (with_reducible apply m_draw) | ((with_reducible refine ⟨m_op ?_, ?_⟩); (focus (simp -dsimp -implicitDefEqProofs (disch := first | omega | (simp <;> omega) | fail) [k3, k5]; done))) | ((with_reducible first | apply m_d1 rfl | apply m_dE | apply m_dE0); (focus ((conv => lhs; simp -dsimp -implicitDefEqProofs (disch := first | omega | (simp <;> omega) | fail) [k3, k5]); done))) | ((with_reducible first | apply m_1 | apply m_0); (focus ((conv => lhs; simp -dsimp -implicitDefEqProofs (disch := first | omega | (simp <;> omega) | fail) [k3, k5]); done))) | ((with_reducible first | apply i_T | apply g_T | apply h_T); (focus (simp -dsimp -implicitDefEqProofs (disch := first | omega | (simp <;> omega) | fail) [k3, k5]; done))) | ((with_reducible first | apply i_F | apply g_F | apply h_F); (focus (simp -dsimp -implicitDefEqProofs (disch := first | omega | (simp <;> omega) | fail) [k3, k5]; done))))
      refine ⟨.of_ext (AState.ext_alloc _ _), ?_⟩
      repeat (first | simp -dsimp -implicitDefEqProofs (disch := first | omega | (simp <;> omega) | fail) [k3, k5] | (with_reducible apply m_draw) | ((with_reducible refine ⟨m_op ?_, ?_⟩); (focus (simp -dsimp -implicitDefEqProofs (disch := first | omega | (simp <;> omega) | fail) [k3, k5]; done))) | ((with_reducible first | apply m_d1 rfl | apply m_dE | apply m_dE0); (focus ((conv => lhs; simp -dsimp -implicitDefEqProofs (disch := first | omega | (simp <;> omega) | fail) [k3, k5]); done))) | ((with_reducible first | apply m_1 | apply m_0); (focus ((conv => lhs; simp -dsimp -implicitDefEqProofs (disch := first | omega | (simp <;> omega) | fail) [k3, k5]); done))) | ((with_reducible first | apply i_T | apply g_T | apply h_T); (focus (simp -dsimp -implicitDefEqProofs (disch := first | omega | (simp <;> omega) | fail) [k3, k5]; done))) | ((with_reducible first | apply i_F | apply g_F | apply h_F); (focus (simp -dsimp -implicitDefEqProofs (disch := first | omega | (simp <;> omega) | fail) [k3, k5]; done))))
      refine giv (ct_group_New (id := p.gr)) (by first | (simp; done) | rfl | (simp; rfl)) ?_
      repeat (first | simp -dsimp -implicitDefEqProofs (disch := first | omega | (simp <;> omega) | fail) [k5, k3] | (with_reducible apply m_draw) | ((with_reducible refine ⟨m_op ?_, ?_⟩); (focus (simp -dsimp -implicitDefEqProofs (disch := first | omega | (simp <;> omega) | fail) [k5, k3]; done))) | ((with_reducible first | apply m_d1 rfl | apply m_dE | apply m_dE0); (focus ((conv => lhs; simp -dsimp -implicitDefEqProofs (disch := first | omega | (simp <;> omega) | fail) [k5, k3]); done))) | ((with_reducible first | apply m_1 | apply m_0); (focus ((conv => lhs; simp -dsimp -implicitDefEqProofs (disch := first | omega | (simp <;> omega) | fail) [k5, k3]); done))) | ((with_reducible first | apply i_T | apply g_T | apply h_T); (focus (simp -dsimp -implicitDefEqProofs (disch := first | omega | (simp <;> omega) | fail) [k5, k3]; done))) | ((with_reducible first | apply i_F | apply g_F | apply h_F); (focus (simp -dsimp -implicitDefEqProofs (disch := first | omega | (simp <;> omega) | fail) [k5, k3]; done))))
      refine giv (ct_group_Do (g := (newG p.gr)) (p := p) hg.s (by omega) (by omega)) (by first | (simp; done) | rfl | (simp; rfl)) ?_
      by_cases hc : chkG (newG p.gr) p = 0
      · have hrun : runG (newG p.gr) p = doG (newG p.gr) p := by unfold runG; rw [if_pos hc]
        repeat (first | simp -dsimp -implicitDefEqProofs (disch := first | omega | (simp <;> omega) | fail) [hc, h1, hrun] | ((with_reducible first | apply m_1 | apply m_0); (focus ((conv => lhs; simp -dsimp -implicitDefEqProofs (disch := first | omega | (simp <;> omega) | fail) [hc, h1, hrun]); done))) | ((with_reducible first | apply i_T | apply g_T); (focus (simp -dsimp -implicitDefEqProofs (disch := first | omega | (simp <;> omega) | fail) [hc, h1, hrun]; done))) | ((with_reducible first | apply i_F | apply g_F); (focus (simp -dsimp -implicitDefEqProofs (disch := first | omega | (simp <;> omega) | fail) [hc, h1, hrun]; done))))
        refine m_mset (κ := Int) (A := A) (k := p.gr) (v := doG (newG p.gr) p) (b := mb) (enc := Grp.av) (by simp) (by simp (disch := first | omega | (simp <;> omega) | fail) [h2]) (by simp; rfl) (by simp) ?_
        repeat (first | simp -dsimp -implicitDefEqProofs (disch := first | omega | (simp <;> omega) | fail) | ((with_reducible first | apply m_1 | apply m_0); (focus ((conv => lhs; simp -dsimp -implicitDefEqProofs (disch := first | omega | (simp <;> omega) | fail)); done))) | ((with_reducible first | apply i_T | apply g_T); (focus (simp -dsimp -implicitDefEqProofs (disch := first | omega | (simp <;> omega) | fail); done))) | ((with_reducible first | apply i_F | apply g_F); (focus (simp -dsimp -implicitDefEqProofs (disch := first | omega | (simp <;> omega) | fail); done))))
        refine ret_ok rfl ⟨by simp [retVal, hc], ?_, setM A p.gr (doG (newG p.gr) p), ?_⟩
        · exact ⟨by simp <;> omega, fun x hx hn => by simp only [List.mem_singleton] at hn; simp (disch := first | omega | (simp <;> omega) | fail) [hn], by simp⟩
        · rw [if_pos hc]
          exact ⟨by simp (disch := first | omega | (simp <;> omega) | fail) [h1], by simp (disch := first | omega | (simp <;> omega) | fail), h3.set _ _⟩
      · repeat (first | simp -dsimp -implicitDefEqProofs (disch := first | omega | (simp <;> omega) | fail) [hc] | ((with_reducible first | apply m_1 | apply m_0); (focus ((conv => lhs; simp -dsimp -implicitDefEqProofs (disch := first | omega | (simp <;> omega) | fail) [hc]); done))) | ((with_reducible first | apply i_T | apply g_T); (focus (simp -dsimp -implicitDefEqProofs (disch := first | omega | (simp <;> omega) | fail) [hc]; done))) | ((with_reducible first | apply i_F | apply g_F); (focus (simp -dsimp -implicitDefEqProofs (disch := first | omega | (simp <;> omega) | fail) [hc]; done))))
        refine ret_ok rfl ⟨by simp [retVal], ?_, A, ?_⟩
        · exact ⟨by simp <;> omega, fun x hx hn => by simp (disch := first | omega | (simp <;> omega) | fail), by simp⟩
        · rw [if_neg hc]
          exact ⟨by simp (disch := first | omega | (simp <;> omega) | fail) [h1], by simp (disch := first | omega | (simp <;> omega) | fail) [h2], h3⟩
  | some g =>
    have hm := lk_mem hk
    obtain ⟨hg, hi⟩ := hM.ok _ hm
    have hb := hM.len _ hm
    simp only [] at hg hi hb
    have hes : g.es.length ≤ 1000000 := by omega
    by_cases k5 : p.kd = 5
    · simp only [if_pos k5]
      repeat (first | simp -dsimp -implicitDefEqProofs (disch := first | omega | (simp <;> omega) | fail) [k5] | (with_reducible apply m_draw) | ((with_reducible refine ⟨m_op ?_, ?_⟩); (focus (simp -dsimp -implicitDefEqProofs (disch := first | omega | (simp <;> omega) | fail) [k5]; done))) | ((with_reducible first | apply m_d1 rfl | apply m_dE | apply m_dE0); (focus ((conv => lhs; simp -dsimp -implicitDefEqProofs (disch := first | omega | (simp <;> omega) | fail) [k5]); done))) | ((with_reducible first | apply m_1 | apply m_0); (focus ((conv => lhs; simp -dsimp -implicitDefEqProofs (disch := first | omega | (simp <;> omega) | fail) [k5]); done))) | ((with_reducible first | apply i_T | apply g_T | apply h_T); (focus (simp -dsimp -implicitDefEqProofs (disch := first | omega | (simp <;> omega) | fail) [k5]; done))) | ((with_reducible first | apply i_F | apply g_F | apply h_F); (focus (simp -dsimp -implicitDefEqProofs (disch := first | omega | (simp <;> omega) | fail) [k5]; done))))
      refine ⟨.of_ext (AState.ext_alloc _ _), ?_⟩
      repeat (first | simp -dsimp -implicitDefEqProofs (disch := first | omega | (simp <;> omega) | fail) [k5, h1] | (with_reducible apply m_draw) | ((with_reducible refine ⟨m_op ?_, ?_⟩); (focus (simp -dsimp -implicitDefEqProofs (disch := first | omega | (simp <;> omega) | fail) [k5, h1]; done))) | ((with_reducible first | apply m_d1 rfl | apply m_dE | apply m_dE0); (focus ((conv => lhs; simp -dsimp -implicitDefEqProofs (disch := first | omega | (simp <;> omega) | fail) [k5, h1]); done))) | ((with_reducible first | apply m_1 | apply m_0); (focus ((conv => lhs; simp -dsimp -implicitDefEqProofs (disch := first | omega | (simp <;> omega) | fail) [k5, h1]); done))) | ((with_reducible first | apply i_T | apply g_T | apply h_T); (focus (simp -dsimp -implicitDefEqProofs (disch := first | omega | (simp <;> omega) | fail) [k5, h1]; done))) | ((with_reducible first | apply i_F | apply g_F | apply h_F); (focus (simp -dsimp -implicitDefEqProofs (disch := first | omega | (simp <;> omega) | fail) [k5, h1]; done))))
      refine m_mdel0 (κ := Int) (A := A) (k := p.gr) (b := mb) (enc := Grp.av) (by simp) (by simp (disch := first | omega | (simp <;> omega) | fail) [h2]) (by simp; rfl) ?_
      refine st0 ?_
      refine ret_ok rfl ⟨rfl, ⟨by simp <;> omega, fun x hx hn => by simp only [List.mem_singleton] at hn; simp (disch := first | omega | (simp <;> omega) | fail) [hn], by simp⟩, delM A p.gr, ⟨dz1 h1, dz0, h3.del _⟩⟩
    · simp only [if_neg k5]
      have k3 : True := trivial
      refine sd1 k5 ?_
      refine ⟨.of_ext (AState.ext_alloc _ _), ?_⟩
      refine sd2 k5 k3 ?_
      refine gv (ct_group_Do (g := g) (p := p) hg.s (by omega) (by omega)) ?_
      by_cases hc : chkG g p = 0
      · have hrun : runG g p = doG g p := by unfold runG; rw [if_pos hc]
        refine st3 hc h1 hrun ?_
        refine m_mset (κ := Int) (A := A) (k := p.gr) (v := doG g p) (b := mb) (enc := Grp.av) (by simp) (dz1 h2) (by simp; rfl) (by simp) ?_
        refine st0 ?_
        refine ret_ok rfl ⟨by simp [retVal, hc], ?_, setM A p.gr (doG g p), ?_⟩
        · exact ⟨by simp <;> omega, fun x hx hn => by simp only [List.mem_singleton] at hn; simp (disch := first | omega | (simp <;> omega) | fail) [hn], by simp⟩
        · rw [if_pos hc]
          exact ⟨dz1 h1, dz0, h3.set _ _⟩
      · refine st1 hc ?_
        refine ret_ok rfl ⟨by simp [retVal], ?_, A, ?_⟩
        · exact ⟨by simp <;> omega, fun x hx hn => dz0, by simp⟩
        · rw [if_neg hc]
          exact ⟨dz1 h1, dz1 h2, h3⟩
end Go.Proofs.YtmfhchaoijiodaaGreat
end
section
namespace Go.Ab
set_option linter.unusedVariables false
def settledS (g : Grp) (p : Prt) : Prt :=
  match atS g.es p.ix with
  | none => p
  | some e => if p.kd = 3 then { p with tm := e.tm } else if p.kd = 4 ∧ p.tm = e.tm then { p with kd := 3 } else p
theorem at_one {l : List Ent} (h : l.Pairwise fun a b => a.ix < b.ix) (i : Int) : (l.filter (inR i (i + 1))).length ≤ 1 := by
  have h1 := h.filter (inR i (i + 1))
  have h2 : ∀ e ∈ l.filter (inR i (i + 1)), e.ix = i := fun e he => by
    have := (List.mem_filter.1 he).2
    simp [inR] at this; omega
  generalize l.filter (inR i (i + 1)) = m at h1 h2
  match m, h1, h2 with
  | [], _, _ => simp
  | [a], _, _ => simp
  | a :: b :: m, h1, h2 =>
    have e1 := h2 a (by simp)
    have e2 := h2 b (by simp)
    have := (List.pairwise_cons.1 h1).1 b (by simp)
    omega
structure StlI (s : AState) (g : Grp) (p q : Prt) (s' : AState) : Prop where
  b0 : s'.get (s.n + 1) = .cells q.cells
  b2 : ∃ cs : List AV, s'.get (s.n + 2) = .cells cs ∧ cs.length = 10
  c1 : s'.get (s.n + 3) = .cells g.cells
  c2 : s'.get (s.n + 4) = .cells [.v (.int .i64 p.ix)]
  c3 : s'.get (s.n + 5) = .cells [.v (.int .i64 (p.ix + 1))]
  g : Grows s s'
  n : s.n + 8 ≤ s'.n
end Go.Ab
namespace Go.Proofs.YtmfhchaoijiodaaGreat
open Go.Ab
set_option linter.unusedVariables false
set_option linter.unusedSimpArgs false
set_option maxRecDepth 100000
set_option maxHeartbeats 1000000
theorem ct_many_settled {g : Grp} {p : Prt} {s : AState} (hs : g.es.Pairwise fun a b => a.ix < b.ix) (hl : g.es.length ≤ 1000000) (hi : 0 ≤ p.ix ∧ p.ix ≤ MI) : Gives prog F_many_settled [g.av, p.av] s (settledS g p).av s := by
  have hMI := MI_eq
  refine Runs.gives' (runs_e h_many_settled (Nat.le_of_ble_eq_true rfl) ?_) (Prt.row _).flat
  have w1 : IntKind.wrap .i64 (p.ix + 1) = p.ix + 1 := wrap_i64 (by omega) (by omega)
  refine st1 w1 ?_
  refine giv (ct_group_Within (g := g) (lo := p.ix) (hi := p.ix + 1)) (by first | (simp; done) | rfl | (simp; rfl)) ?_
  repeat (first | simp -dsimp -implicitDefEqProofs (disch := first | omega | (simp <;> omega) | fail) | ((with_reducible first | apply m_1 | apply m_0); (focus ((conv => lhs; simp -dsimp -implicitDefEqProofs (disch := first | omega | (simp <;> omega) | fail)); done))) | ((with_reducible first | apply i_T | apply g_T); (focus (simp -dsimp -implicitDefEqProofs (disch := first | omega | (simp <;> omega) | fail); done))) | ((with_reducible first | apply i_F | apply g_F); (focus (simp -dsimp -implicitDefEqProofs (disch := first | omega | (simp <;> omega) | fail); done))))
  have h1 := at_one hs p.ix
  have hset : settledS g p = match (g.es.filter (inR p.ix (p.ix + 1))).head? with
    | none => p
    | some e => if p.kd = 3 then { p with tm := e.tm } else if p.kd = 4 ∧ p.tm = e.tm then { p with kd := 3 } else p := rfl
  have hit := it_group_Within (g := g) (lo := p.ix) (hi := p.ix + 1) (b1 := s.n + 3) (b2 := s.n + 4) (b3 := s.n + 5) (by omega)
  generalize hfl : g.es.filter (inR p.ix (p.ix + 1)) = fl at h1 hset hit
  have hsn : ((((((s.alloc (.cells g.cells)).alloc (.cells p.cells)).alloc (.cells [.v (.int .i64 0), .v (.int .i64 0), .sl [] .zero, .v (.int .i64 0), .v (.int .i64 0), .v (.int .i64 0), .v (.int .i64 0), .v (.int .i64 0), .v (.bool false), .v (.bool false)])).alloc (.cells g.cells)).alloc (.cells [.v (.int .i64 p.ix)])).alloc (.cells [.v (.int .i64 (p.ix + 1))])).n = s.n + 6 := by simp
  refine w_rangeS (m := fl.length) (by simp) hit (by intro x hx; obtain ⟨e, _, rfl⟩ := List.mem_map.1 hx; rfl) (by simp) (fun k s' => StlI s g p (if k = 0 then p else settledS g p) s') (fun j s' => False) ?_ ?_ ?_ ?_ ?_ ?_ ?_
  · intro LR
    refine ⟨by simp (disch := first | omega | (simp <;> omega) | fail), ⟨_, by simp (disch := first | omega | (simp <;> omega) | fail); rfl, rfl⟩, by simp (disch := first | omega | (simp <;> omega) | fail), by simp (disch := first | omega | (simp <;> omega) | fail), by simp (disch := first | omega | (simp <;> omega) | fail), ?_, by simp⟩
    exact ((((((((Grows.refl _).alloc _).alloc _).alloc _).alloc _).alloc _).alloc _).alloc _).alloc _
  · rintro k s' h; exact ⟨h.c1, h.c2, h.c3⟩
  · rintro k s' o hn ⟨b0, ⟨cs, b2, b2'⟩, c1, c2, c3, gr, n⟩
    exact ⟨by simp (disch := first | omega | (simp <;> omega) | fail) [b0], ⟨cs, by simp (disch := first | omega | (simp <;> omega) | fail) [b2], b2'⟩, by simp (disch := first | omega | (simp <;> omega) | fail) [c1], by simp (disch := first | omega | (simp <;> omega) | fail) [c2], by simp (disch := first | omega | (simp <;> omega) | fail) [c3], gr.alloc _, by simp; omega⟩
  · intro j s' o hn h; exact h.elim
  · intro LR LB LJ hLB hLR k hk s' hd hLL hln hI
    have hk' : k < fl.length := by simpa using hk
    have hk0 : k = 0 := by omega
    subst hk0
    obtain ⟨b0, ⟨cs, b2, b2'⟩, c1, c2, c3, gr, n⟩ := hI
    rw [if_pos rfl] at b0
    simp only [hsn, List.getElem_map, List.zip_cons_cons, List.zip_nil_right, List.reverse_cons, List.reverse_nil, List.nil_append, List.cons_append] at hd hLL hln ⊢
    have hh : fl.head? = some fl[0] := by rw [List.head?_eq_getElem?, List.getElem?_eq_getElem hk']
    rw [hh] at hset
    generalize fl[0] = e at hset ⊢
    simp only [] at hset
    by_cases k3 : p.kd = 3
    · rw [if_pos k3] at hset
      repeat (first | simp -dsimp -implicitDefEqProofs (disch := first | omega | (simp <;> omega) | fail) [hLL, b0, k3] | ((with_reducible first | apply m_1 | apply m_0); (focus ((conv => lhs; simp -dsimp -implicitDefEqProofs (disch := first | omega | (simp <;> omega) | fail) [hLL, b0, k3]); done))) | ((with_reducible first | apply i_T | apply g_T); (focus (simp -dsimp -implicitDefEqProofs (disch := first | omega | (simp <;> omega) | fail) [hLL, b0, k3]; done))) | ((with_reducible first | apply i_F | apply g_F); (focus (simp -dsimp -implicitDefEqProofs (disch := first | omega | (simp <;> omega) | fail) [hLL, b0, k3]; done))))
      refine fins_n (fun d hd' => by cases hd'; simp (disch := first | omega | (simp <;> omega) | fail) [hd]) (by simp (disch := first | omega | (simp <;> omega) | fail)) ⟨by rw [if_neg (by omega), hset]; simp (disch := first | omega | (simp <;> omega) | fail) [Prt.cells, k3], ⟨cs, by simp (disch := first | omega | (simp <;> omega) | fail) [b2], b2'⟩, by simp (disch := first | omega | (simp <;> omega) | fail) [c1], by simp (disch := first | omega | (simp <;> omega) | fail) [c2], by simp (disch := first | omega | (simp <;> omega) | fail) [c3], (((gr.set _ (by omega) (by omega)).set _ (by omega) (by simp; omega)).set _ (by omega) (by simp; omega)).alloc _, by simp; omega⟩
    · rw [if_neg k3] at hset
      by_cases k4 : p.kd = 4
      · by_cases ht : p.tm = e.tm
        · rw [if_pos ⟨k4, ht⟩] at hset
          repeat (first | simp -dsimp -implicitDefEqProofs (disch := first | omega | (simp <;> omega) | fail) [hLL, b0, k3, k4, ht] | ((with_reducible first | apply m_1 | apply m_0); (focus ((conv => lhs; simp -dsimp -implicitDefEqProofs (disch := first | omega | (simp <;> omega) | fail) [hLL, b0, k3, k4, ht]); done))) | ((with_reducible first | apply i_T | apply g_T); (focus (simp -dsimp -implicitDefEqProofs (disch := first | omega | (simp <;> omega) | fail) [hLL, b0, k3, k4, ht]; done))) | ((with_reducible first | apply i_F | apply g_F); (focus (simp -dsimp -implicitDefEqProofs (disch := first | omega | (simp <;> omega) | fail) [hLL, b0, k3, k4, ht]; done))))
          refine fins_n (fun d hd' => by cases hd'; simp (disch := first | omega | (simp <;> omega) | fail) [hd]) (by simp (disch := first | omega | (simp <;> omega) | fail)) ⟨by rw [if_neg (by omega), hset]; simp (disch := first | omega | (simp <;> omega) | fail) [Prt.cells, ht], ⟨cs, by simp (disch := first | omega | (simp <;> omega) | fail) [b2], b2'⟩, by simp (disch := first | omega | (simp <;> omega) | fail) [c1], by simp (disch := first | omega | (simp <;> omega) | fail) [c2], by simp (disch := first | omega | (simp <;> omega) | fail) [c3], (((gr.set _ (by omega) (by omega)).set _ (by omega) (by simp; omega)).set _ (by omega) (by simp; omega)).alloc _, by simp; omega⟩
        · rw [if_neg (fun h => ht h.2)] at hset
          repeat (first | simp -dsimp -implicitDefEqProofs (disch := first | omega | (simp <;> omega) | fail) [hLL, b0, k3, k4, ht] | ((with_reducible first | apply m_1 | apply m_0); (focus ((conv => lhs; simp -dsimp -implicitDefEqProofs (disch := first | omega | (simp <;> omega) | fail) [hLL, b0, k3, k4, ht]); done))) | ((with_reducible first | apply i_T | apply g_T); (focus (simp -dsimp -implicitDefEqProofs (disch := first | omega | (simp <;> omega) | fail) [hLL, b0, k3, k4, ht]; done))) | ((with_reducible first | apply i_F | apply g_F); (focus (simp -dsimp -implicitDefEqProofs (disch := first | omega | (simp <;> omega) | fail) [hLL, b0, k3, k4, ht]; done))))
          refine fins_n (fun d hd' => by cases hd'; simp (disch := first | omega | (simp <;> omega) | fail) [hd]) (by simp (disch := first | omega | (simp <;> omega) | fail)) ⟨by rw [if_neg (by omega), hset]; simp (disch := first | omega | (simp <;> omega) | fail) [b0], ⟨cs, by simp (disch := first | omega | (simp <;> omega) | fail) [b2], b2'⟩, by simp (disch := first | omega | (simp <;> omega) | fail) [c1], by simp (disch := first | omega | (simp <;> omega) | fail) [c2], by simp (disch := first | omega | (simp <;> omega) | fail) [c3], (gr.set _ (by omega) (by omega)).alloc _, by simp; omega⟩
      · rw [if_neg (fun h => k4 h.1)] at hset
        repeat (first | simp -dsimp -implicitDefEqProofs (disch := first | omega | (simp <;> omega) | fail) [hLL, b0, k3, k4] | ((with_reducible first | apply m_1 | apply m_0); (focus ((conv => lhs; simp -dsimp -implicitDefEqProofs (disch := first | omega | (simp <;> omega) | fail) [hLL, b0, k3, k4]); done))) | ((with_reducible first | apply i_T | apply g_T); (focus (simp -dsimp -implicitDefEqProofs (disch := first | omega | (simp <;> omega) | fail) [hLL, b0, k3, k4]; done))) | ((with_reducible first | apply i_F | apply g_F); (focus (simp -dsimp -implicitDefEqProofs (disch := first | omega | (simp <;> omega) | fail) [hLL, b0, k3, k4]; done))))
        refine fins_n (fun d hd' => by cases hd'; simp (disch := first | omega | (simp <;> omega) | fail) [hd]) (by simp (disch := first | omega | (simp <;> omega) | fail)) ⟨by rw [if_neg (by omega), hset]; simp (disch := first | omega | (simp <;> omega) | fail) [b0], ⟨cs, by simp (disch := first | omega | (simp <;> omega) | fail) [b2], b2'⟩, by simp (disch := first | omega | (simp <;> omega) | fail) [c1], by simp (disch := first | omega | (simp <;> omega) | fail) [c2], by simp (disch := first | omega | (simp <;> omega) | fail) [c3], (gr.set _ (by omega) (by omega)).alloc _, by simp; omega⟩
  · rintro s' hd hln ⟨b0, ⟨cs, b2, b2'⟩, c1, c2, c3, gr, n⟩
    simp only [hsn] at hd hln ⊢
    have hq : (if fl.length = 0 then p else settledS g p) = settledS g p := by
      split
      · next h => rw [hset, List.eq_nil_of_length_eq_zero h]; rfl
      · rfl
    rw [hq] at b0
    have hcs : List.drop 10 cs = [] := List.drop_eq_nil_of_le (by omega)
    repeat (first | simp -dsimp -implicitDefEqProofs (disch := first | omega | (simp <;> omega) | fail) [b0, b2, b2', hcs] | ((with_reducible first | apply m_1 | apply m_0); (focus ((conv => lhs; simp -dsimp -implicitDefEqProofs (disch := first | omega | (simp <;> omega) | fail) [b0, b2, b2', hcs]); done))) | ((with_reducible first | apply i_T | apply g_T); (focus (simp -dsimp -implicitDefEqProofs (disch := first | omega | (simp <;> omega) | fail) [b0, b2, b2', hcs]; done))) | ((with_reducible first | apply i_F | apply g_F); (focus (simp -dsimp -implicitDefEqProofs (disch := first | omega | (simp <;> omega) | fail) [b0, b2, b2', hcs]; done))))
    have hD : Dfs s.n ((s'.set (s.n + 6 + 1) .dead).set (s.n + 2) (.cells ((settledS g p).cells ++ []))) [s.n + 6] := Dfs.cons (.nil _ _) (by omega) (by simp (disch := first | omega | (simp <;> omega) | fail) [hd]) (by simp)
    refine ret_okD (fun x hx => (hD.1 x hx).2) hD.2 (by simp (disch := first | omega | (simp <;> omega) | fail) [killAll]; rfl) ⟨killAll_grows ((gr.set _ (by omega) (by omega)).set _ (by omega) (by simp; omega)) (Nat.le_refl _) hD, ?_⟩
    simp [retVal]; exact .refl _
  · rintro j s' _ _ h; exact h.elim
end Go.Proofs.YtmfhchaoijiodaaGreat
end
section
namespace Go.Ab
set_option linter.unusedVariables false
def mayP (p : Prt) : Bool := isPart p && !decide (p.kd = 6)
def stepM (M : List (Int × Grp)) (p : Prt) : List (Int × Grp) := if mayP p = true then oneM M p else M
def outP (M : List (Int × Grp)) (p : Prt) : Prt := if mayP p = true ∧ errM M p = 0 then settledS ((lk M p.gr).getD zeroG') p else p
def stM (M : List (Int × Grp)) (l : List Prt) : List (Int × Grp) := l.foldl stepM M
def outL (M : List (Int × Grp)) : List Prt → List Prt
  | [] => []
  | p :: l => outP M p :: outL (stepM M p) l
theorem outL_append (M : List (Int × Grp)) (a b : List Prt) : outL M (a ++ b) = outL M a ++ outL (stM M a) b := by
  induction a generalizing M with
  | nil => rfl
  | cons p a ih => simp only [List.cons_append, outL, ih]; rfl
theorem outL_len (M : List (Int × Grp)) (l : List Prt) : (outL M l).length = l.length := by
  induction l generalizing M with
  | nil => rfl
  | cons p l ih => simp only [outL, List.length_cons, ih]
theorem outL_snoc {M : List (Int × Grp)} {l : List Prt} {i : Nat} (h : i < l.length) : outL M (l.take (i + 1)) = outL M (l.take i) ++ [outP (stM M (l.take i)) l[i]] := by
  have e : l.take (i + 1) = l.take i ++ [l[i]] := (List.take_append_getElem h).symm
  rw [e, outL_append]; rfl
theorem stM_snoc {M : List (Int × Grp)} {l : List Prt} {i : Nat} (h : i < l.length) : stM M (l.take (i + 1)) = stepM (stM M (l.take i)) l[i] := by
  have e : l.take (i + 1) = l.take i ++ [l[i]] := (List.take_append_getElem h).symm
  unfold stM; rw [e, List.foldl_append]; rfl
theorem ManyOk.step {B : Nat} {M : List (Int × Grp)} (h : ManyOk B M) (p : Prt) : ManyOk (B + 6) (stepM M p) := by
  unfold stepM
  split
  · next hm => exact h.one (by simp only [mayP, Bool.and_eq_true] at hm; exact hm.1)
  · exact h.more (by omega)
theorem ManyOk.st {B : Nat} {M : List (Int × Grp)} (h : ManyOk B M) (l : List Prt) : ManyOk (B + 6 * l.length) (stM M l) := by
  induction l generalizing M B with
  | nil => exact h
  | cons p l ih => exact (ih (h.step p)).more (by simp; omega)
theorem flat_len (l : List Prt) : (l.flatMap Prt.cells).length = l.length * 10 := by
  induction l with
  | nil => rfl
  | cons p l ih => rw [List.flatMap_cons, List.length_append, ih, List.length_cons]; show 10 + _ = _; omega
theorem flat_rep (n : Nat) (z : List AV) : ((List.replicate n z).flatten).length = n * z.length := by
  induction n with
  | zero => simp
  | succ n ih => rw [List.replicate_succ, List.flatten_cons, List.length_append, ih, Nat.add_mul]; omega
structure StI (s : AState) (l : List Prt) (M : List (Int × Grp)) (i : Nat) (s' : AState) : Prop where
  g : ∀ x, x < s.n → s'.get x = s.get x
  n : s.n + 3 ≤ s'.n
  m : ∃ A, ManyAt s' (s.n + 1) s.n A (stM M (l.take i))
  c : ∃ T, s'.get (s.n + 2) = .cells ((outL M (l.take i)).flatMap Prt.cells ++ T) ∧ T.length + i * 10 = l.length * 10
end Go.Ab
namespace Go.Proofs.YtmfhchaoijiodaaGreat
open Go.Ab
set_option linter.unusedVariables false
set_option linter.unusedSimpArgs false
set_option maxRecDepth 100000
set_option maxHeartbeats 1000000
theorem rn_many_Many_Settle {b mb : Nat} {A M : List (Int × Grp)} {l : List Prt} {s : AState} {B : Nat} (h : ManyAt s b mb A M) (hM : ManyOk B M) (hB : B + 6 * l.length ≤ 1000000) (hl : l.length ≤ 1000) (hes : ∀ p ∈ l, p.es.length ≤ 1000000) :
    Runs (compCode prog) prog F_many_Many_Settle [.p b 0, .sl (l.map Prt.av) .no] s (fun x s' => x = .ms (s.n + 2) 0 l.length ∧ StI s l M l.length s') := by
  have hMI := MI_eq
  refine runs_e h_many_Many_Settle (Nat.le_of_ble_eq_true rfl) ?_
  repeat (first | simp -dsimp -implicitDefEqProofs (disch := first | omega | (simp <;> omega) | fail) | ((with_reducible first | apply m_1 | apply m_0); (focus ((conv => lhs; simp -dsimp -implicitDefEqProofs (disch := first | omega | (simp <;> omega) | fail)); done))) | ((with_reducible first | apply i_T | apply g_T); (focus (simp -dsimp -implicitDefEqProofs (disch := first | omega | (simp <;> omega) | fail); done))) | ((with_reducible first | apply i_F | apply g_F); (focus (simp -dsimp -implicitDefEqProofs (disch := first | omega | (simp <;> omega) | fail); done))))
  refine run (rn_many_Many_Copy h) (by first | (simp; done) | rfl | (simp; rfl)) ?_
  rintro _ s1 ⟨rfl, hs1⟩
  have m1 : ManyAt s1 (s.n + 1) s.n A M := by rw [hs1]; exact ⟨by simp (disch := first | omega | (simp <;> omega) | fail), by simp (disch := first | omega | (simp <;> omega) | fail), h.r⟩
  have g1 : Grows s s1 := by rw [hs1]; exact ((Grows.refl _).alloc _).alloc _
  have n1 : s1.n = s.n + 2 := by rw [hs1]; simp
  clear hs1
  repeat (first | simp -dsimp -implicitDefEqProofs (disch := first | omega | (simp <;> omega) | fail) | ((with_reducible first | apply m_1 | apply m_0); (focus ((conv => lhs; simp -dsimp -implicitDefEqProofs (disch := first | omega | (simp <;> omega) | fail)); done))) | ((with_reducible first | apply i_T | apply g_T); (focus (simp -dsimp -implicitDefEqProofs (disch := first | omega | (simp <;> omega) | fail); done))) | ((with_reducible first | apply i_F | apply g_F); (focus (simp -dsimp -implicitDefEqProofs (disch := first | omega | (simp <;> omega) | fail); done))))
  refine m_mks (kd := .i64) (mm := (l.length : Int)) (by simp) (by omega) ?_
  repeat (first | simp -dsimp -implicitDefEqProofs (disch := first | omega | (simp <;> omega) | fail) | ((with_reducible first | apply m_1 | apply m_0); (focus ((conv => lhs; simp -dsimp -implicitDefEqProofs (disch := first | omega | (simp <;> omega) | fail)); done))) | ((with_reducible first | apply i_T | apply g_T); (focus (simp -dsimp -implicitDefEqProofs (disch := first | omega | (simp <;> omega) | fail); done))) | ((with_reducible first | apply i_F | apply g_F); (focus (simp -dsimp -implicitDefEqProofs (disch := first | omega | (simp <;> omega) | fail); done))))
  refine loop_ok [5, 6, 15, 16, 17] (fun m a s2 => ∃ i : Nat, i + m = l.length ∧ StI s l M i s2 ∧
    a = { t := den 65 [(5, .p (s.n + 1) 0), (6, .ms (s.n + 2) 0 l.length), (15, .sl (l.map Prt.av) .no), (16, .v (.int .i64 l.length)), (17, .v (.int .i64 i))], d := [] }) l.length ?_ ?_
  · refine ⟨0, by simp, ⟨fun x hx => (g1.alloc _).get hx, by simp; omega, ⟨A, ?_⟩, ?_⟩, by simp [n1]⟩
    · exact m1.keep fun x hx => by rcases hx with rfl | rfl <;> simp (disch := first | omega | (simp <;> omega) | fail)
    · refine ⟨_, by rw [show s.n + 2 = s1.n from n1.symm]; simp [outL]; rfl, ?_⟩
      rw [flat_rep]; simp
  rintro m a s2 ⟨i, him, hI, rfl⟩
  obtain ⟨gr, n2, ⟨A2, hA⟩, T, hc, hT⟩ := hI
  by_cases hlt : i < l.length
  · have hw : IntKind.wrap .i64 ((i : Int) + 1) = (i : Int) + 1 := wrap_i64 (by omega) (by omega)
    have hM2 := hM.st (l.take i)
    have hB2 : B + 6 * (l.take i).length ≤ 1000000 := by rw [List.length_take]; omega
    have eo := outL_snoc (M := M) hlt
    have es := stM_snoc (M := M) hlt
    have hpl := hes _ (List.getElem_mem hlt)
    have hR : ((outL M (l.take i)).flatMap Prt.cells).length = i * 10 := by rw [flat_len, outL_len, List.length_take]; omega
    obtain ⟨R, hRe⟩ : ∃ R, (outL M (l.take i)).flatMap Prt.cells = R := ⟨_, rfl⟩
    rw [hRe] at hc hR
    generalize hst : stM M (l.take i) = M2 at hA hM2 eo es
    generalize hq : l[i] = q at hpl eo es
    obtain ⟨lb, lm, lne⟩ := hA.lt
    obtain ⟨a1, a2, a3⟩ := hA
    have lc := AState.lt_of_get hc (by simp)
    have hT10 : 10 ≤ T.length := by omega
    have f1 : ∀ Y, List.take (i * 10) (R ++ Y) = R := fun Y => by rw [← hR]; exact List.take_left
    have f2 : ∀ k Y, List.take (i * 10 + k) (R ++ Y) = R ++ List.take k Y := fun k Y => by rw [← hR, List.take_length_add_append]
    have f3 : ∀ Y, List.drop (i * 10) (R ++ Y) = Y := fun Y => by rw [← hR]; exact List.drop_left
    have f4 : ∀ k Y, List.drop (i * 10 + k) (R ++ Y) = List.drop k Y := fun k Y => by rw [← hR, List.drop_length_add_append]
    repeat (first | simp -dsimp -implicitDefEqProofs (disch := first | omega | (simp <;> omega) | fail) [hlt, hq, hc, hR, f1, f2, f3, f4, hT10] | ((with_reducible first | apply m_1 | apply m_0); (focus ((conv => lhs; simp -dsimp -implicitDefEqProofs (disch := first | omega | (simp <;> omega) | fail) [hlt, hq, hc, hR, f1, f2, f3, f4, hT10]); done))) | ((with_reducible first | apply i_T | apply g_T); (focus (simp -dsimp -implicitDefEqProofs (disch := first | omega | (simp <;> omega) | fail) [hlt, hq, hc, hR, f1, f2, f3, f4, hT10]; done))) | ((with_reducible first | apply i_F | apply g_F); (focus (simp -dsimp -implicitDefEqProofs (disch := first | omega | (simp <;> omega) | fail) [hlt, hq, hc, hR, f1, f2, f3, f4, hT10]; done))))
    refine giv (ct_slices_Clone_Entry (es := q.es) (by omega)) (by first | (simp; done) | rfl | (simp; rfl)) ?_
    have f5 : i * 10 + 2 + 1 ≤ i * 10 + T.length := by omega
    have f6 : List.take 2 (q.cells ++ List.drop 10 T) ++ AV.sl (List.map Ent.av q.es) .no :: List.drop (i * 10 + 2 + 1) (R ++ (q.cells ++ List.drop 10 T)) = q.cells ++ List.drop 10 T := by
      rw [show i * 10 + 2 + 1 = i * 10 + 3 by omega, f4]; rfl
    have hT2 : (List.drop 10 T).length + (i + 1) * 10 = l.length * 10 := by rw [List.length_drop]; omega
    generalize List.drop 10 T = D at *
    have f7 : i * 10 + 2 + 1 ≤ i * 10 + (10 + D.length) := by omega
    repeat (first | simp -dsimp -implicitDefEqProofs (disch := first | omega | (simp <;> omega) | fail) [hR, hlt, f1, f2, f3, f4, f7, f6, a1] | (with_reducible apply m_draw) | ((with_reducible refine ⟨m_op ?_, ?_⟩); (focus (simp -dsimp -implicitDefEqProofs (disch := first | omega | (simp <;> omega) | fail) [hR, hlt, f1, f2, f3, f4, f7, f6, a1]; done))) | ((with_reducible first | apply m_d1 rfl | apply m_dE | apply m_dE0); (focus ((conv => lhs; simp -dsimp -implicitDefEqProofs (disch := first | omega | (simp <;> omega) | fail) [hR, hlt, f1, f2, f3, f4, f7, f6, a1]); done))) | ((with_reducible first | apply m_1 | apply m_0); (focus ((conv => lhs; simp -dsimp -implicitDefEqProofs (disch := first | omega | (simp <;> omega) | fail) [hR, hlt, f1, f2, f3, f4, f7, f6, a1]); done))) | ((with_reducible first | apply i_T | apply g_T | apply h_T); (focus (simp -dsimp -implicitDefEqProofs (disch := first | omega | (simp <;> omega) | fail) [hR, hlt, f1, f2, f3, f4, f7, f6, a1]; done))) | ((with_reducible first | apply i_F | apply g_F | apply h_F); (focus (simp -dsimp -implicitDefEqProofs (disch := first | omega | (simp <;> omega) | fail) [hR, hlt, f1, f2, f3, f4, f7, f6, a1]; done))))
    refine q_look (κ := Int) (A := A2) (enc := Grp.av) (k := q.gr) (b := s.n) (by simp) (by simp (disch := first | omega | (simp <;> omega) | fail) [a2]) (by simp; rfl) ?_
    have hlv : ∃ gc : List AV, lkV Grp.av A2 q.gr (.agg [.v (.int .i64 0), .v (.int .i64 0), .v (.int .i64 0), .v (.int .i64 0), .v (.int .i64 0), .v (.int .i64 0), .sl [] .zero]) false = .agg gc ∧ gc.length = 7 ∧ gc.all AV.one = true ∧ (AV.agg gc).strip = ((lk M2 q.gr).getD zeroG').av := by
      unfold lkV
      rw [a3.lk]
      cases lk M2 q.gr with
      | none => exact ⟨_, rfl, rfl, rfl, rfl⟩
      | some g => exact ⟨_, rfl, rfl, rfl, rfl⟩
    obtain ⟨gc, hgc, gl, go, gs⟩ := hlv
    have gt : List.take 7 gc = gc := List.take_of_length_le (by omega)
    rw [hgc]
    have hnext : ∀ s', (∀ x, x < s.n → s'.get x = s.get x) → s.n + 3 ≤ s'.n → (∃ A, ManyAt s' (s.n + 1) s.n A (stepM M2 q)) → s'.get (s.n + 2) = .cells (R ++ ((outP M2 q).cells ++ D)) → StI s l M (i + 1) s' := fun s' k1 k2 k3 k4 =>
      ⟨k1, k2, by rw [es]; exact k3, D, by rw [eo, List.flatMap_append, hRe, k4]; simp, hT2⟩
    have f8 : List.drop 10 (q.cells ++ D) = D := rfl
    have f9 : List.take 10 (q.cells ++ D) = q.cells := rfl
    have hA' : ∀ s', s'.get (s.n + 1) = s2.get (s.n + 1) → s'.get s.n = s2.get s.n → ManyAt s' (s.n + 1) s.n A2 M2 := fun s' k1 k2 => ⟨k1.trans a1, k2.trans a2, a3⟩
    by_cases hmay : mayP q = true
    · have hip : isPart q = true := by simp only [mayP, Bool.and_eq_true] at hmay; exact hmay.1
      have k6 : ¬ q.kd = 6 := by simp only [mayP, Bool.and_eq_true] at hmay; simpa using hmay.2
      have hst2 : stepM M2 q = oneM M2 q := if_pos hmay
      repeat (first | simp -dsimp -implicitDefEqProofs (disch := first | omega | (simp <;> omega) | fail) [gl, go, gt, hR] | (with_reducible apply m_draw) | ((with_reducible refine ⟨m_op ?_, ?_⟩); (focus (simp -dsimp -implicitDefEqProofs (disch := first | omega | (simp <;> omega) | fail) [gl, go, gt, hR]; done))) | ((with_reducible first | apply m_d1 rfl | apply m_dE | apply m_dE0); (focus ((conv => lhs; simp -dsimp -implicitDefEqProofs (disch := first | omega | (simp <;> omega) | fail) [gl, go, gt, hR]); done))) | ((with_reducible first | apply m_1 | apply m_0); (focus ((conv => lhs; simp -dsimp -implicitDefEqProofs (disch := first | omega | (simp <;> omega) | fail) [gl, go, gt, hR]); done))) | ((with_reducible first | apply i_T | apply g_T | apply h_T); (focus (simp -dsimp -implicitDefEqProofs (disch := first | omega | (simp <;> omega) | fail) [gl, go, gt, hR]; done))) | ((with_reducible first | apply i_F | apply g_F | apply h_F); (focus (simp -dsimp -implicitDefEqProofs (disch := first | omega | (simp <;> omega) | fail) [gl, go, gt, hR]; done))))
      refine ⟨.of_ext (AState.ext_alloc _ _), ?_⟩
      repeat (first | simp -dsimp -implicitDefEqProofs (disch := first | omega | (simp <;> omega) | fail) [gl, go, gt, hR] | (with_reducible apply m_draw) | ((with_reducible refine ⟨m_op ?_, ?_⟩); (focus (simp -dsimp -implicitDefEqProofs (disch := first | omega | (simp <;> omega) | fail) [gl, go, gt, hR]; done))) | ((with_reducible first | apply m_d1 rfl | apply m_dE | apply m_dE0); (focus ((conv => lhs; simp -dsimp -implicitDefEqProofs (disch := first | omega | (simp <;> omega) | fail) [gl, go, gt, hR]); done))) | ((with_reducible first | apply m_1 | apply m_0); (focus ((conv => lhs; simp -dsimp -implicitDefEqProofs (disch := first | omega | (simp <;> omega) | fail) [gl, go, gt, hR]); done))) | ((with_reducible first | apply i_T | apply g_T | apply h_T); (focus (simp -dsimp -implicitDefEqProofs (disch := first | omega | (simp <;> omega) | fail) [gl, go, gt, hR]; done))) | ((with_reducible first | apply i_F | apply g_F | apply h_F); (focus (simp -dsimp -implicitDefEqProofs (disch := first | omega | (simp <;> omega) | fail) [gl, go, gt, hR]; done))))
      refine giv (ct_part_Is (p := q) (by omega)) (by first | (simp; done) | rfl | (simp; rfl)) ?_
      repeat (first | simp -dsimp -implicitDefEqProofs (disch := first | omega | (simp <;> omega) | fail) [hip, k6] | ((with_reducible first | apply m_1 | apply m_0); (focus ((conv => lhs; simp -dsimp -implicitDefEqProofs (disch := first | omega | (simp <;> omega) | fail) [hip, k6]); done))) | ((with_reducible first | apply i_T | apply g_T); (focus (simp -dsimp -implicitDefEqProofs (disch := first | omega | (simp <;> omega) | fail) [hip, k6]; done))) | ((with_reducible first | apply i_F | apply g_F); (focus (simp -dsimp -implicitDefEqProofs (disch := first | omega | (simp <;> omega) | fail) [hip, k6]; done))))
      refine run (rn_many_Many_one (M := M2) (A := A2) (mb := s.n) (hA' _ (by simp (disch := first | omega | (simp <;> omega) | fail)) (by simp (disch := first | omega | (simp <;> omega) | fail))) hM2 hB2 hip) (by first | (simp; done) | rfl | (simp; rfl)) ?_
      rintro _ s3 ⟨rfl, mt, A3, k1⟩
      have n3 := mt.n
      simp at n3
      have c0 : s3.get s2.n = .cells q.cells := (mt.keep _ (by simp <;> omega) (by simp <;> omega)).trans (by simp (disch := first | omega | (simp <;> omega) | fail))
      have c1 : s3.get (s2.n + 1) = .cells gc := (mt.keep _ (by simp <;> omega) (by simp <;> omega)).trans (by simp (disch := first | omega | (simp <;> omega) | fail))
      have c2 : s3.get (s.n + 2) = .cells (R ++ (q.cells ++ D)) := (mt.keep _ (by simp <;> omega) (by simp <;> omega)).trans (by simp (disch := first | omega | (simp <;> omega) | fail))
      have c3 : ∀ x, x < s.n → s3.get x = s.get x := fun x hx => ((mt.keep _ (by simp <;> omega) (by simp <;> omega)).trans (by simp (disch := first | omega | (simp <;> omega) | fail))).trans (gr x hx)
      by_cases he : errM M2 q = 0
      · have ho : outP M2 q = settledS ((lk M2 q.gr).getD zeroG') q := if_pos ⟨hmay, he⟩
        repeat (first | simp -dsimp -implicitDefEqProofs (disch := first | omega | (simp <;> omega) | fail) [he, hip, k6, c0, c1, c2, gl, gt, hR, hlt, f1, f2, f3, f4, f8, f9] | ((with_reducible first | apply m_1 | apply m_0); (focus ((conv => lhs; simp -dsimp -implicitDefEqProofs (disch := first | omega | (simp <;> omega) | fail) [he, hip, k6, c0, c1, c2, gl, gt, hR, hlt, f1, f2, f3, f4, f8, f9]); done))) | ((with_reducible first | apply i_T | apply g_T); (focus (simp -dsimp -implicitDefEqProofs (disch := first | omega | (simp <;> omega) | fail) [he, hip, k6, c0, c1, c2, gl, gt, hR, hlt, f1, f2, f3, f4, f8, f9]; done))) | ((with_reducible first | apply i_F | apply g_F); (focus (simp -dsimp -implicitDefEqProofs (disch := first | omega | (simp <;> omega) | fail) [he, hip, k6, c0, c1, c2, gl, gt, hR, hlt, f1, f2, f3, f4, f8, f9]; done))))
        have hO := okP hip
        have hgs : ((lk M2 q.gr).getD zeroG').es.Pairwise (fun a b => a.ix < b.ix) ∧ ((lk M2 q.gr).getD zeroG').es.length ≤ 1000000 := by
          cases hk : lk M2 q.gr with
          | none => exact ⟨List.Pairwise.nil, Nat.zero_le _⟩
          | some g =>
            have hm := lk_mem hk
            exact ⟨(hM2.ok _ hm).1.s.srt, by have := hM2.len _ hm; simp only [Option.getD_some] at this ⊢; omega⟩
        refine giv (ct_many_settled (g := (lk M2 q.gr).getD zeroG') (p := q) hgs.1 hgs.2 hO.ix) (by simp [gs]) ?_
        have f10 : i * 10 + 10 ≤ i * 10 + (10 + D.length) := by omega
        repeat (first | simp -dsimp -implicitDefEqProofs (disch := first | omega | (simp <;> omega) | fail) [c2, hR, hlt, f1, f4, f8, f10] | ((with_reducible first | apply m_1 | apply m_0); (focus ((conv => lhs; simp -dsimp -implicitDefEqProofs (disch := first | omega | (simp <;> omega) | fail) [c2, hR, hlt, f1, f4, f8, f10]); done))) | ((with_reducible first | apply i_T | apply g_T); (focus (simp -dsimp -implicitDefEqProofs (disch := first | omega | (simp <;> omega) | fail) [c2, hR, hlt, f1, f4, f8, f10]; done))) | ((with_reducible first | apply i_F | apply g_F); (focus (simp -dsimp -implicitDefEqProofs (disch := first | omega | (simp <;> omega) | fail) [c2, hR, hlt, f1, f4, f8, f10]; done))))
        refine ⟨m - 1, by omega, i + 1, by omega, hnext _ (fun x hx => (by simp (disch := first | omega | (simp <;> omega) | fail) : _ = s3.get x).trans (c3 x hx)) (by simp; omega) ⟨A3, by rw [hst2]; exact k1.keep fun x hx => by rcases hx with rfl | rfl <;> simp (disch := first | omega | (simp <;> omega) | fail)⟩ (by rw [ho]; simp (disch := first | omega | (simp <;> omega) | fail)), by simp [hw]⟩
      · have ho : outP M2 q = q := if_neg fun h => he h.2
        repeat (first | simp -dsimp -implicitDefEqProofs (disch := first | omega | (simp <;> omega) | fail) [he, hip, k6] | ((with_reducible first | apply m_1 | apply m_0); (focus ((conv => lhs; simp -dsimp -implicitDefEqProofs (disch := first | omega | (simp <;> omega) | fail) [he, hip, k6]); done))) | ((with_reducible first | apply i_T | apply g_T); (focus (simp -dsimp -implicitDefEqProofs (disch := first | omega | (simp <;> omega) | fail) [he, hip, k6]; done))) | ((with_reducible first | apply i_F | apply g_F); (focus (simp -dsimp -implicitDefEqProofs (disch := first | omega | (simp <;> omega) | fail) [he, hip, k6]; done))))
        refine ⟨m - 1, by omega, i + 1, by omega, hnext _ c3 (by omega) ⟨A3, by rw [hst2]; exact k1⟩ (by rw [ho]; exact c2), by simp [hw]⟩
    · have hst2 : stepM M2 q = M2 := if_neg hmay
      have ho : outP M2 q = q := if_neg fun h => hmay h.1
      have fin : ∀ s', s' = ((s2.set (s.n + 2) (.cells (R ++ (q.cells ++ D)))).alloc (.cells q.cells)).alloc (.cells gc) → StI s l M (i + 1) s' := fun s' e => by
        subst e
        exact hnext _ (fun x hx => (by simp (disch := first | omega | (simp <;> omega) | fail) : _ = s2.get x).trans (gr x hx)) (by simp; omega) ⟨A2, by rw [hst2]; exact hA' _ (by simp (disch := first | omega | (simp <;> omega) | fail)) (by simp (disch := first | omega | (simp <;> omega) | fail))⟩ (by rw [ho]; simp (disch := first | omega | (simp <;> omega) | fail))
      cases hip : isPart q with
      | false =>
        refine sd4 gl go gt hR ?_
        refine ⟨.of_ext (AState.ext_alloc _ _), ?_⟩
        refine sd4 gl go gt hR ?_
        refine gv (ct_part_Is (p := q) (by omega)) ?_
        refine st1 hip ?_
        exact ⟨m - 1, by omega, i + 1, by omega, fin _ rfl, by simp [hw]⟩
      | true =>
        have k6 : q.kd = 6 := by simpa [mayP, hip] using hmay
        refine sd4 gl go gt hR ?_
        refine ⟨.of_ext (AState.ext_alloc _ _), ?_⟩
        refine sd4 gl go gt hR ?_
        refine gv (ct_part_Is (p := q) (by omega)) ?_
        refine st2 hip k6 ?_
        exact ⟨m - 1, by omega, i + 1, by omega, fin _ rfl, by simp [hw]⟩
  · have hie : i = l.length := by omega
    subst hie
    repeat (first | simp -dsimp -implicitDefEqProofs (disch := first | omega | (simp <;> omega) | fail) | ((with_reducible first | apply m_1 | apply m_0); (focus ((conv => lhs; simp -dsimp -implicitDefEqProofs (disch := first | omega | (simp <;> omega) | fail)); done))) | ((with_reducible first | apply i_T | apply g_T); (focus (simp -dsimp -implicitDefEqProofs (disch := first | omega | (simp <;> omega) | fail); done))) | ((with_reducible first | apply i_F | apply g_F); (focus (simp -dsimp -implicitDefEqProofs (disch := first | omega | (simp <;> omega) | fail); done))))
    exact ret_ok rfl ⟨rfl, gr, n2, ⟨A2, hA⟩, T, hc, hT⟩
end Go.Proofs.YtmfhchaoijiodaaGreat
end
section
namespace Go.Ab
set_option linter.unusedVariables false
theorem settled_part {g : Grp} {p : Prt} (h : isPart p = true) (hg : ∀ e ∈ g.es, okEnt e = true) : isPart (settledS g p) = true ∧ (settledS g p).gr = p.gr ∧ (p.kd ≠ 6 → (settledS g p).kd ≠ 6) := by
  unfold settledS
  cases ha : atS g.es p.ix with
  | none => exact ⟨h, rfl, id⟩
  | some e =>
    have hok := okEnt_iff.1 (hg e (atS_mem ha).1)
    have hMI := MI_eq
    simp only []
    split
    · next k3 =>
      refine ⟨?_, rfl, fun h6 => h6⟩
      have h' := h
      simp only [isPart, Bool.and_eq_true, decide_eq_true_eq] at h' ⊢
      obtain ⟨⟨a1, a2⟩, a3⟩ := h'
      refine ⟨⟨a1, ?_⟩, ?_⟩
      · have : core p = { gr := p.gr, kd := p.kd, es := [], ht := 0, hv := 0, hc := 0, ix := p.ix, tm := p.tm, mr := false, he := false } := by simp [core, k3]
        rw [this] at a2
        have : core { p with tm := e.tm } = { gr := p.gr, kd := p.kd, es := [], ht := 0, hv := 0, hc := 0, ix := p.ix, tm := e.tm, mr := false, he := false } := by simp [core, k3]
        rw [this]
        rw [Prt.ext_iff] at a2 ⊢
        simp only at a2 ⊢
        simp [a2]
      · rw [if_neg (show ¬ p.kd = 1 by omega), if_neg (show ¬ p.kd = 2 by omega), if_pos k3] at a3 ⊢
        simp only [okMrk, btw, Bool.and_eq_true, decide_eq_true_eq] at a3 ⊢
        omega
    split
    · next k3 k4 =>
      obtain ⟨k4, ht⟩ := k4
      refine ⟨?_, rfl, fun _ => by simp⟩
      have h' := h
      simp only [isPart, Bool.and_eq_true, decide_eq_true_eq] at h' ⊢
      obtain ⟨⟨a1, a2⟩, a3⟩ := h'
      refine ⟨⟨a1, ?_⟩, ?_⟩
      · have : core p = { gr := p.gr, kd := p.kd, es := [], ht := 0, hv := 0, hc := 0, ix := p.ix, tm := p.tm, mr := false, he := false } := by simp [core, k4]
        rw [this] at a2
        have : core { p with kd := 3 } = { gr := p.gr, kd := 3, es := [], ht := 0, hv := 0, hc := 0, ix := p.ix, tm := p.tm, mr := false, he := false } := by simp [core]
        rw [this]
        rw [Prt.ext_iff] at a2 ⊢
        simp only at a2 ⊢
        simp [a2]
      · rw [if_neg (show ¬ p.kd = 1 by omega), if_neg (show ¬ p.kd = 2 by omega), if_neg k3, if_pos k4] at a3
        rw [if_neg (show ¬ (3 : Int) = 1 by omega), if_neg (show ¬ (3 : Int) = 2 by omega), if_pos trivial]
        simp only [okMrk, btw, Bool.and_eq_true, decide_eq_true_eq] at a3 ⊢
        omega
    · exact ⟨h, rfl, id⟩
theorem outP_may {B : Nat} {M : List (Int × Grp)} (hM : ManyOk B M) {p : Prt} (h : mayP p = true) : isPart (outP M p) = true ∧ (outP M p).kd ≠ 6 := by
  obtain ⟨h1, h2⟩ : isPart p = true ∧ ¬ p.kd = 6 := by simp only [mayP, Bool.and_eq_true] at h; exact ⟨h.1, by simpa using h.2⟩
  unfold outP
  split
  · have hg : ∀ e ∈ ((lk M p.gr).getD zeroG').es, okEnt e = true := by
      cases hk : lk M p.gr with
      | none => simp [zeroG']
      | some g => exact (hM.ok _ (lk_mem hk)).1.s.ok
    have := settled_part h1 hg
    exact ⟨this.1, this.2.2 h2⟩
  · exact ⟨h1, h2⟩
theorem outL_may {B : Nat} {M : List (Int × Grp)} (hM : ManyOk B M) {l : List Prt} (h : ∀ p ∈ l, mayP p = true) : ∀ p ∈ outL M l, isPart p = true ∧ p.kd ≠ 6 := by
  induction l generalizing M B with
  | nil => intro p hp; cases hp
  | cons q l ih =>
    intro p hp
    rcases List.mem_cons.1 hp with rfl | hp
    · exact outP_may hM (h q (by simp))
    · exact ih (hM.step q) (fun x hx => h x (by simp [hx])) p hp
theorem out_rec {B : Nat} {M : List (Int × Grp)} (hM : ManyOk B M) {l : List Prt} (h : ∀ p ∈ l, mayP p = true) (h1 : 1 ≤ l.length) (h4 : l.length ≤ 4) : isRec ⟨1125899906842624, outL M l⟩ = true := by
  have hm := outL_may hM h
  have hl := outL_len M l
  rw [isRec_iff]
  refine ⟨(by decide : (1 : Int) ≤ 1125899906842624), Int.le_refl _, by simp only [hl]; exact h1, by simp only [hl]; exact h4, fun p hp => ?_⟩
  obtain ⟨a, b⟩ := hm p hp
  have h0 : 0 < (outL M l).length := by omega
  have c : fwdP (outL M l) = false := by
    unfold fwdP
    rw [List.getD_eq_getElem?_getD, List.getElem?_eq_getElem h0]
    exact decide_eq_false (hm _ (List.getElem_mem h0)).2
  unfold goodR
  rw [a, c, decide_eq_false b]; rfl
def wrongM (l : List Prt) : Int := if l.length = 0 ∨ 4 < l.length ∨ l.any (fun p => !mayP p) = true then 11 else 0
end Go.Ab
namespace Go.Proofs.YtmfhchaoijiodaaGreat
open Go.Ab
set_option linter.unusedVariables false
set_option linter.unusedSimpArgs false
set_option maxRecDepth 100000
set_option maxHeartbeats 1000000
theorem row_flat (l : List Prt) : (l.map Prt.av).flatMap AV.cells = l.flatMap Prt.cells := by
  rw [List.flatMap_map]; rfl
theorem ct_many_Many_Settle {b mb : Nat} {A M : List (Int × Grp)} {l : List Prt} {s : AState} {B : Nat} (h : ManyAt s b mb A M) (hM : ManyOk B M) (hB : B + 6 * l.length ≤ 1000000) (hl : l.length ≤ 1000) (hes : ∀ p ∈ l, p.es.length ≤ 1000000) :
    Gives prog F_many_Many_Settle [.p b 0, .sl (l.map Prt.av) .no] s (.sl ((outL M l).map Prt.av) .no) s := by
  refine Runs.gives (Runs.freeze ((rn_many_Many_Settle h hM hB hl hes).mono ?_)) (flat_sl Prt.row _)
  rintro _ s' ⟨rfl, g, n, m, T, hc, hT⟩
  have hT0 : T = [] := List.eq_nil_of_length_eq_zero (by omega)
  rw [List.take_length, hT0, List.append_nil] at hc
  refine ⟨s.n + 2, l.length, 10, (outL M l).map Prt.av, _, rfl, hc, ?_, by simp [outL_len], (row_flat _).symm, ⟨by simp; omega, fun x hx => .inl ?_⟩, .refl _⟩
  · intro y hy; obtain ⟨p, _, rfl⟩ := List.mem_map.1 hy; rfl
  · simp (disch := first | omega | (simp <;> omega) | fail) [g x hx]
theorem ct_many_wrong1 {p : Prt} {s : AState} (hl : p.es.length ≤ 1000000) : Gives prog F_many_Many_wrong_1 [p.av] s (.v (.bool (!mayP p))) s := by
  refine Runs.gives' (runs_e h_many_Many_wrong_1 (Nat.le_of_ble_eq_true rfl) ?_) (.v _)
  refine st0 ?_
  refine gv (ct_part_Is (p := p) (by omega)) ?_
  cases h : isPart p with
  | false =>
    refine st1 h ?_
    refine ret_ok rfl ⟨(Grows.refl _).alloc _, ?_⟩
    simp [mayP, h, retVal]; exact .refl _
  | true =>
    refine st1 h ?_
    refine ret_ok rfl ⟨(Grows.refl _).alloc _, ?_⟩
    have e : (!mayP p) = (p.kd == 6) := by simp [mayP, h]; by_cases k : p.kd = 6 <;> simp [k]
    rw [e]; simp [retVal]; exact .refl _
theorem ct_many_Many_wrong {b mb : Nat} {A M : List (Int × Grp)} {l : List Prt} {s : AState} {B : Nat} (h : ManyAt s b mb A M) (hM : ManyOk B M) (hB : B + 6 * l.length ≤ 1000000) (hl : l.length ≤ 1000) (hes : ∀ p ∈ l, p.es.length ≤ 1000000) :
    Gives prog F_many_Many_wrong [.p b 0, .sl (l.map Prt.av) .no] s (.v (.int .i64 (wrongM l))) s := by
  refine Runs.gives (runs_e h_many_Many_wrong (Nat.le_of_ble_eq_true rfl) ?_) (.v _)
  unfold wrongM
  by_cases c1 : l.length = 0
  · have : l = [] := List.eq_nil_of_length_eq_zero c1
    subst this
    refine st0 ?_
    exact ret_ok rfl ⟨⟨Nat.le_refl _, fun x hx => .inl rfl⟩, .refl _⟩
  have c1' : ¬ l = [] := fun e => c1 (by rw [e]; rfl)
  by_cases c2 : 4 < l.length
  · have c2' : (4 : Int) < l.length := by omega
    rw [if_pos (.inr (.inl c2))]
    refine st3 c1 c1' c2' ?_
    exact ret_ok rfl ⟨⟨Nat.le_refl _, fun x hx => .inl rfl⟩, .refl _⟩
  have c2' : ¬ (4 : Int) < l.length := by omega
  refine st3 c1 c1' c2' ?_
  refine gv (ct_slices_ContainsFunc_Part (l := l) (g := F_many_Many_wrong_1) (fs := []) (caps := []) (p := fun p => !mayP p) (by omega) (fun p hp => ct_many_wrong1 (hes p hp))) ?_
  cases c3 : l.any (fun p => !mayP p) with
  | true =>
    rw [if_pos (.inr (.inr rfl))]
    refine st1 c3 ?_
    exact ret_ok rfl ⟨⟨Nat.le_refl _, fun x hx => .inl rfl⟩, .refl _⟩
  | false =>
    rw [if_neg (by simp [c1, c2, c1'])]
    have hmay : ∀ p ∈ l, mayP p = true := fun p hp => by
      have := (List.any_eq_false.1 c3) p hp; simpa using this
    have hrec := out_rec hM hmay (by omega) (by omega)
    refine st1 c3 ?_
    refine gv (ct_many_Many_Settle h hM hB hl hes) ?_
    refine st0 ?_
    refine giv (ct_record_Bytes (r := ⟨1125899906842624, outL M l⟩) (by simp only [outL_len]; omega) (fun p hp => by have := (okP (outL_may hM hmay p hp).1).len; omega)) (by simp; rfl) ?_
    rw [if_pos hrec, if_pos hrec]
    refine st0 ?_
    exact ret_ok rfl ⟨⟨Nat.le_refl _, fun x hx => .inl rfl⟩, .refl _⟩
end Go.Proofs.YtmfhchaoijiodaaGreat
end
section
namespace Go.Ab
set_option linter.unusedVariables false
def errL (M : List (Int × Grp)) : List Prt → Int
  | [] => 0
  | p :: l => if errM M p = 0 then errL (oneM M p) l else errM M p
def triedE (M : List (Int × Grp)) (l : List Prt) : Int := if wrongM l = 0 then errL M l else 11
def doM (M : List (Int × Grp)) (l : List Prt) : List (Int × Grp) := if triedE M l = 0 then stM M l else M
theorem wrong0 {l : List Prt} (h : wrongM l = 0) : 1 ≤ l.length ∧ l.length ≤ 4 ∧ ∀ p ∈ l, mayP p = true := by
  unfold wrongM at h
  split at h
  · cases h
  · next hc =>
    simp only [not_or, Nat.not_lt, Bool.not_eq_true] at hc
    exact ⟨by omega, by omega, fun p hp => by have := (List.any_eq_false.1 hc.2.2) p hp; simpa using this⟩
theorem wrong11 {l : List Prt} (h : ¬ wrongM l = 0) : wrongM l = 11 := by
  unfold wrongM at h ⊢
  split
  · rfl
  · next hc => rw [if_neg hc] at h; exact absurd rfl h
theorem errL_app {M : List (Int × Grp)} {a b : List Prt} (h : errL M a = 0) (hm : ∀ p ∈ a, mayP p = true) : errL M (a ++ b) = errL (stM M a) b := by
  induction a generalizing M with
  | nil => rfl
  | cons p a ih =>
    have hp : stepM M p = oneM M p := if_pos (hm p (by simp))
    by_cases he : errM M p = 0
    · simp only [errL, if_pos he] at h
      simp only [List.cons_append, errL, if_pos he]
      rw [ih h fun x hx => hm x (by simp [hx]), ← hp]; rfl
    · simp only [errL, if_neg he] at h; exact absurd h he
theorem errM_app {M : List (Int × Grp)} {a b : List Prt} (h : ¬ errL M a = 0) : errL M (a ++ b) = errL M a := by
  induction a generalizing M with
  | nil => exact absurd rfl h
  | cons p a ih =>
    by_cases he : errM M p = 0
    · simp only [List.cons_append, errL, if_pos he] at h ⊢; exact ih h
    · simp only [List.cons_append, errL, if_neg he]
theorem ManyOk.doM {B : Nat} {M : List (Int × Grp)} (h : ManyOk B M) (l : List Prt) : ManyOk (B + 24) (doM M l) := by
  unfold Ab.doM
  split
  · next he =>
    have hw : wrongM l = 0 := by
      unfold triedE at he
      split at he
      · assumption
      · cases he
    exact (h.st l).more (by have := (wrong0 hw).2.1; omega)
  · exact h.more (by omega)
structure TrI (s : AState) (l : List Prt) (M : List (Int × Grp)) (k : Nat) (s' : AState) : Prop where
  old : ∀ x, x < s.n → s'.get x = s.get x
  n : s.n + 8 ≤ s'.n
  c0 : s'.get s.n = .cells [.v (.pointer none)]
  c1 : s'.get (s.n + 1) = .cells [.v (.int .i64 0)]
  c2 : s'.get (s.n + 4) = .cells [.p (s.n + 3) 0]
  m : ∃ A, ManyAt s' (s.n + 3) (s.n + 2) A (stM M (l.take k))
  b : s'.get (s.n + 5) = .cells [.sl (l.map Prt.av) .no]
  e : errL M (l.take k) = 0
structure TrJ (s : AState) (l : List Prt) (M : List (Int × Grp)) (j : AJump) (s' : AState) : Prop where
  j : j = .ret
  old : ∀ x, x < s.n → s'.get x = s.get x
  n : s.n + 8 ≤ s'.n
  c0 : s'.get s.n = .cells [.v (.pointer none)]
  c1 : s'.get (s.n + 1) = .cells [.v (.int .i64 (errL M l))]
  e : ¬ errL M l = 0
end Go.Ab
namespace Go.Proofs.YtmfhchaoijiodaaGreat
open Go.Ab
set_option linter.unusedVariables false
set_option linter.unusedSimpArgs false
set_option maxRecDepth 100000
set_option maxHeartbeats 1000000
theorem rn_many_Many_tried {b mb : Nat} {A M : List (Int × Grp)} {l : List Prt} {s : AState} {B : Nat} (h : ManyAt s b mb A M) (hM : ManyOk B M) (hB : B + 6 * l.length ≤ 1000000) (hl : l.length ≤ 1000) (hes : ∀ p ∈ l, p.es.length ≤ 1000000) :
    Runs (compCode prog) prog F_many_Many_tried [.p b 0, .sl (l.map Prt.av) .no] s (fun x s' => (∀ x, x < s.n → s'.get x = s.get x) ∧ s.n ≤ s'.n ∧
      ((triedE M l = 0 ∧ ∃ c mc A', x = .tup [.p c 0, .v (.int .i64 0)] ∧ s.n ≤ c ∧ s.n ≤ mc ∧ ManyAt s' c mc A' (stM M l)) ∨ (¬ triedE M l = 0 ∧ x = .tup [.v (.pointer none), .v (.int .i64 (triedE M l))]))) := by
  have hMI := MI_eq
  refine runs_e h_many_Many_tried (Nat.le_of_ble_eq_true rfl) ?_
  obtain ⟨lb, lm, lne⟩ := h.lt
  repeat (first | simp -dsimp -implicitDefEqProofs (disch := first | omega | (simp <;> omega) | fail) | ((with_reducible first | apply m_1 | apply m_0); (focus ((conv => lhs; simp -dsimp -implicitDefEqProofs (disch := first | omega | (simp <;> omega) | fail)); done))) | ((with_reducible first | apply i_T | apply g_T); (focus (simp -dsimp -implicitDefEqProofs (disch := first | omega | (simp <;> omega) | fail); done))) | ((with_reducible first | apply i_F | apply g_F); (focus (simp -dsimp -implicitDefEqProofs (disch := first | omega | (simp <;> omega) | fail); done))))
  refine giv (ct_many_Many_wrong (b := b) (mb := mb) (A := A) (M := M) (l := l) (h.keep fun x hx => by rcases hx with rfl | rfl <;> simp (disch := first | omega | (simp <;> omega) | fail)) hM hB hl hes) (by simp) ?_
  unfold triedE
  by_cases hw : wrongM l = 0
  case neg =>
    rw [wrong11 hw]
    repeat (first | simp -dsimp -implicitDefEqProofs (disch := first | omega | (simp <;> omega) | fail) | ((with_reducible first | apply m_1 | apply m_0); (focus ((conv => lhs; simp -dsimp -implicitDefEqProofs (disch := first | omega | (simp <;> omega) | fail)); done))) | ((with_reducible first | apply i_T | apply g_T); (focus (simp -dsimp -implicitDefEqProofs (disch := first | omega | (simp <;> omega) | fail); done))) | ((with_reducible first | apply i_F | apply g_F); (focus (simp -dsimp -implicitDefEqProofs (disch := first | omega | (simp <;> omega) | fail); done))))
    refine ret_ok (by simp; rfl) ⟨fun x hx => by simp (disch := first | omega | (simp <;> omega) | fail), by simp <;> omega, .inr ⟨by simp, by simp [retVal]⟩⟩
  rw [hw]
  obtain ⟨w1, w2, w3⟩ := wrong0 hw
  repeat (first | simp -dsimp -implicitDefEqProofs (disch := first | omega | (simp <;> omega) | fail) | ((with_reducible first | apply m_1 | apply m_0); (focus ((conv => lhs; simp -dsimp -implicitDefEqProofs (disch := first | omega | (simp <;> omega) | fail)); done))) | ((with_reducible first | apply i_T | apply g_T); (focus (simp -dsimp -implicitDefEqProofs (disch := first | omega | (simp <;> omega) | fail); done))) | ((with_reducible first | apply i_F | apply g_F); (focus (simp -dsimp -implicitDefEqProofs (disch := first | omega | (simp <;> omega) | fail); done))))
  refine run (rn_many_Many_Copy (b := b) (mb := mb) (A := A) (M := M) (h.keep fun x hx => by rcases hx with rfl | rfl <;> simp (disch := first | omega | (simp <;> omega) | fail))) (by simp) ?_
  rintro _ s1 ⟨rfl, rfl⟩
  repeat (first | simp -dsimp -implicitDefEqProofs (disch := first | omega | (simp <;> omega) | fail) | ((with_reducible first | apply m_1 | apply m_0); (focus ((conv => lhs; simp -dsimp -implicitDefEqProofs (disch := first | omega | (simp <;> omega) | fail)); done))) | ((with_reducible first | apply i_T | apply g_T); (focus (simp -dsimp -implicitDefEqProofs (disch := first | omega | (simp <;> omega) | fail); done))) | ((with_reducible first | apply i_F | apply g_F); (focus (simp -dsimp -implicitDefEqProofs (disch := first | omega | (simp <;> omega) | fail); done))))
  refine giv (ct_slices_Values_Part (xs := l.map Prt.av)) (by first | (simp; done) | rfl | (simp; rfl)) ?_
  repeat (first | simp -dsimp -implicitDefEqProofs (disch := first | omega | (simp <;> omega) | fail) | ((with_reducible first | apply m_1 | apply m_0); (focus ((conv => lhs; simp -dsimp -implicitDefEqProofs (disch := first | omega | (simp <;> omega) | fail)); done))) | ((with_reducible first | apply i_T | apply g_T); (focus (simp -dsimp -implicitDefEqProofs (disch := first | omega | (simp <;> omega) | fail); done))) | ((with_reducible first | apply i_F | apply g_F); (focus (simp -dsimp -implicitDefEqProofs (disch := first | omega | (simp <;> omega) | fail); done))))
  have hsn : ((((((s.alloc (.cells [.v (.pointer none)])).alloc (.cells [.v (.int .i64 0)])).alloc (.map (encM Grp.av A))).alloc (.cells [.m (s.n + 1 + 1)])).alloc (.cells [.p (s.n + 1 + 1 + 1) 0])).alloc (.cells [.sl (l.map Prt.av) .no])).n = s.n + 6 := by simp
  refine w_rangeS (m := l.length) (by simp) (it_slices_Values_Part l (s.n + 5) (by omega)) (by intro x hx; obtain ⟨p, _, rfl⟩ := List.mem_map.1 hx; rfl) (by simp) (fun k s' => TrI s l M k s') (fun j s' => TrJ s l M j s') ?_ ?_ ?_ ?_ ?_ ?_ ?_
  · intro LR
    exact ⟨fun x hx => by simp (disch := first | omega | (simp <;> omega) | fail), by simp, by simp (disch := first | omega | (simp <;> omega) | fail), by simp (disch := first | omega | (simp <;> omega) | fail), by simp (disch := first | omega | (simp <;> omega) | fail), ⟨A, by simp (disch := first | omega | (simp <;> omega) | fail), by simp (disch := first | omega | (simp <;> omega) | fail), h.r⟩, by simp (disch := first | omega | (simp <;> omega) | fail), rfl⟩
  · rintro k s' h; exact h.b
  · rintro k s' o hn ⟨old, n, c0, c1, c2, ⟨A1, m⟩, b, e⟩
    exact ⟨fun x hx => by simp (disch := first | omega | (simp <;> omega) | fail) [old x hx], by simp; omega, by simp (disch := first | omega | (simp <;> omega) | fail) [c0], by simp (disch := first | omega | (simp <;> omega) | fail) [c1], by simp (disch := first | omega | (simp <;> omega) | fail) [c2], ⟨A1, m.keep fun x hx => by rcases hx with rfl | rfl <;> simp (disch := first | omega | (simp <;> omega) | fail)⟩, by simp (disch := first | omega | (simp <;> omega) | fail) [b], e⟩
  · rintro j s' o hn ⟨j, old, n, c0, c1, e⟩
    exact ⟨j, fun x hx => by simp (disch := first | omega | (simp <;> omega) | fail) [old x hx], by simp; omega, by simp (disch := first | omega | (simp <;> omega) | fail) [c0], by simp (disch := first | omega | (simp <;> omega) | fail) [c1], e⟩
  · intro LR LB LJ hLB hLR k hk s' hd hLL hln hI
    have hk' : k < l.length := by simpa using hk
    obtain ⟨old, n, c0, c1, c2, ⟨A1, m⟩, b, e⟩ := hI
    simp only [hsn, List.getElem_map, List.zip_cons_cons, List.zip_nil_right, List.reverse_cons, List.reverse_nil, List.nil_append, List.cons_append] at hd hLL hln ⊢
    have hq := w3 _ (List.getElem_mem hk')
    have es := stM_snoc (M := M) hk'
    have et : l.take (k + 1) = l.take k ++ [l[k]] := (List.take_append_getElem hk').symm
    have el : l = l.take k ++ (l[k] :: l.drop (k + 1)) := by rw [← List.drop_eq_getElem_cons hk', List.take_append_drop]
    have hM2 := hM.st (l.take k)
    have hB2 : B + 6 * (l.take k).length ≤ 1000000 := by rw [List.length_take]; omega
    have hw3 : ∀ p ∈ l.take k, mayP p = true := fun p hp => w3 p (List.mem_of_mem_take hp)
    have e1 := errL_app (b := [l[k]]) e hw3
    have e2 := errL_app (b := l[k] :: l.drop (k + 1)) e hw3
    rw [← et] at e1
    rw [← el] at e2
    generalize stM M (l.take k) = M2 at m hM2 es e1 e2
    generalize hqe : l[k] = q at hq es e1 e2
    have hip : isPart q = true := by simp only [mayP, Bool.and_eq_true] at hq; exact hq.1
    have hst : stepM M2 q = oneM M2 q := if_pos hq
    refine st2 hLL c2 ?_
    refine run (rn_many_Many_one (M := M2) (A := A1) (b := s.n + 3) (mb := s.n + 2) (m.keep fun x hx => by rcases hx with rfl | rfl <;> simp (disch := first | omega | (simp <;> omega) | fail)) hM2 hB2 hip) (by simp) ?_
    rintro _ s3 ⟨rfl, mt, A3, k1⟩
    have n3 := mt.n
    simp at n3
    have q0 : s3.get s.n = .cells [.v (.pointer none)] := (mt.keep _ (by simp <;> omega) (by simp <;> omega)).trans (dz1 c0)
    have q1 : s3.get (s.n + 1) = .cells [.v (.int .i64 0)] := (mt.keep _ (by simp <;> omega) (by simp <;> omega)).trans (dz1 c1)
    have q2 : s3.get (s.n + 4) = .cells [.p (s.n + 3) 0] := (mt.keep _ (by simp <;> omega) (by simp <;> omega)).trans (dz1 c2)
    have q3 : s3.get (s.n + 5) = .cells [.sl (l.map Prt.av) .no] := (mt.keep _ (by simp <;> omega) (by simp <;> omega)).trans (dz1 b)
    have q4 : ∀ x, x < s.n → s3.get x = s.get x := fun x hx => ((mt.keep _ (by simp <;> omega) (by simp <;> omega)).trans (dz0)).trans (old x hx)
    have q5 : s3.get (s.n + 6) = .defd := (mt.keep _ (by simp <;> omega) (by simp <;> omega)).trans (by simp (disch := first | omega | (simp <;> omega) | fail) [hd])
    have q6 : s3.get (s.n + 6 + 1) = LB := (mt.keep _ (by simp <;> omega) (by simp <;> omega)).trans (dz0)
    by_cases he : errM M2 q = 0
    · refine st2 he q6 ?_
      refine fins_n (fun d hd' => by cases hd'; simp (disch := first | omega | (simp <;> omega) | fail) [q5]) (dz0) ⟨fun x hx => dz1 (q4 x hx), by simp; omega, dz1 q0, dz1 q1, dz1 q2, ⟨A3, ?_⟩, dz1 q3, ?_⟩
      · rw [es, hst]; exact k1.keep fun x hx => by rcases hx with rfl | rfl <;> simp (disch := first | omega | (simp <;> omega) | fail)
      · rw [e1]; simp only [errL, if_pos he]
    · have e3 : errL M l = errM M2 q := by rw [e2]; simp only [errL, if_neg he]
      refine st4 he q0 q1 q6 ?_
      refine fins_j (fun d hd' => by cases hd'; simp (disch := first | omega | (simp <;> omega) | fail) [q5]) (dz0) ⟨rfl, fun x hx => dz1 (q4 x hx), by simp; omega, dz0, by rw [e3]; simp (disch := first | omega | (simp <;> omega) | fail), by rw [e3]; exact he⟩
  · rintro s' hd hln ⟨old, n, c0, c1, c2, ⟨A1, m⟩, b, e⟩
    simp only [hsn] at hd hln ⊢
    rw [List.take_length] at m e
    refine st3 c0 c1 c2 ?_
    refine ret_okD (by simp (disch := first | omega | (simp <;> omega) | fail) [hd]) (by simp) (by simp (disch := first | omega | (simp <;> omega) | fail) [killAll]; rfl) ⟨fun x hx => by simp (disch := first | omega | (simp <;> omega) | fail) [killAll, old x hx], by simp [killAll]; omega, .inl ⟨e, s.n + 3, s.n + 2, A1, by simp [retVal], by omega, by omega, m.keep fun x hx => by rcases hx with rfl | rfl <;> simp (disch := first | omega | (simp <;> omega) | fail) [killAll]⟩⟩
  · rintro j s' hd hln ⟨rfl, old, n, c0, c1, e⟩
    simp only [hsn] at hd hln ⊢
    repeat (first | simp -dsimp -implicitDefEqProofs (disch := first | omega | (simp <;> omega) | fail) [AJump.exitOf, c0, c1] | ((with_reducible first | apply m_1 | apply m_0); (focus ((conv => lhs; simp -dsimp -implicitDefEqProofs (disch := first | omega | (simp <;> omega) | fail) [AJump.exitOf, c0, c1]); done))) | ((with_reducible first | apply i_T | apply g_T); (focus (simp -dsimp -implicitDefEqProofs (disch := first | omega | (simp <;> omega) | fail) [AJump.exitOf, c0, c1]; done))) | ((with_reducible first | apply i_F | apply g_F); (focus (simp -dsimp -implicitDefEqProofs (disch := first | omega | (simp <;> omega) | fail) [AJump.exitOf, c0, c1]; done))))
    refine ret_okD (by simp (disch := first | omega | (simp <;> omega) | fail) [hd]) (by simp) (by simp (disch := first | omega | (simp <;> omega) | fail) [killAll, c0, c1]; rfl) ⟨fun x hx => by simp (disch := first | omega | (simp <;> omega) | fail) [killAll, old x hx], by simp [killAll]; omega, .inr ⟨e, by simp [retVal]⟩⟩
theorem ct_many_Many_Check {b mb : Nat} {A M : List (Int × Grp)} {l : List Prt} {s : AState} {B : Nat} (h : ManyAt s b mb A M) (hM : ManyOk B M) (hB : B + 6 * l.length ≤ 1000000) (hl : l.length ≤ 1000) (hes : ∀ p ∈ l, p.es.length ≤ 1000000) :
    Gives prog F_many_Many_Check [.p b 0, .sl (l.map Prt.av) .no] s (.v (.int .i64 (triedE M l))) s := by
  refine Runs.gives (runs_e h_many_Many_Check (Nat.le_of_ble_eq_true rfl) ?_) (.v _)
  refine st0 ?_
  refine rn0 (rn_many_Many_tried h hM hB hl hes) ?_
  rintro _ s1 ⟨old, n, ⟨he, c, mc, A', rfl, k1, k2, k3⟩ | ⟨he, rfl⟩⟩
  · refine st1 he ?_
    exact ret_ok rfl ⟨⟨n, fun x hx => .inl (old x hx).symm⟩, by rw [he]; exact .refl _⟩
  · refine st0 ?_
    exact ret_ok rfl ⟨⟨n, fun x hx => .inl (old x hx).symm⟩, .refl _⟩
theorem rn_many_Many_Do {b mb : Nat} {A M : List (Int × Grp)} {l : List Prt} {s : AState} {B : Nat} (h : ManyAt s b mb A M) (hM : ManyOk B M) (hB : B + 6 * l.length ≤ 1000000) (hl : l.length ≤ 1000) (hes : ∀ p ∈ l, p.es.length ≤ 1000000) :
    Runs (compCode prog) prog F_many_Many_Do [.p b 0, .sl (l.map Prt.av) .no] s (fun x s' => x = .v (.int .i64 (triedE M l)) ∧ (∀ x, x < s.n → x ≠ b → s'.get x = s.get x) ∧ s.n ≤ s'.n ∧ ∃ mb' A', (mb' = mb ∨ s.n ≤ mb') ∧ ManyAt s' b mb' A' (doM M l)) := by
  refine runs_e h_many_Many_Do (Nat.le_of_ble_eq_true rfl) ?_
  obtain ⟨lb, lm, lne⟩ := h.lt
  refine st0 ?_
  refine rn0 (rn_many_Many_tried h hM hB hl hes) ?_
  unfold doM
  rintro _ s1 ⟨old, n, ⟨he, c, mc, A', rfl, k1, k2, k3⟩ | ⟨he, rfl⟩⟩
  · have a1 := k3.b
    have a2 := k3.m
    have ln := AState.lt_of_get a2 (by simp)
    have lc := AState.lt_of_get a1 (by simp)
    have hb1 := (old b lb).trans h.b
    rw [if_pos he]
    refine st2 a1 hb1 ?_
    exact ret_ok rfl ⟨by rw [he]; rfl, fun x hx hn => dz2 hn (old x hx), by simp; omega, mc, A', .inr k2, ⟨dz0, dz1 a2, k3.r⟩⟩
  · rw [if_neg he]
    refine st1 he ?_
    exact ret_ok rfl ⟨rfl, fun x hx hn => old x hx, n, mb, A, .inl rfl, h.keep fun x hx => by rcases hx with rfl | rfl <;> exact old _ (by assumption)⟩
end Go.Proofs.YtmfhchaoijiodaaGreat
end
section
namespace Go.Ab
set_option linter.unusedVariables false
theorem one_some {M : List (Int × Grp)} {q : Prt} {g : Grp} (hk : lk M q.gr = some g) (h5 : ¬ q.kd = 5) (hc : chkG g q = 0) : errM M q = 0 ∧ oneM M q = putL M q.gr (doG g q) := by
  unfold errM oneM
  rw [hk]
  exact ⟨(if_neg h5).trans hc, (if_neg h5).trans (if_pos hc)⟩
theorem settled_same {B : Nat} {M : List (Int × Grp)} (hM : ManyOk B M) {p : Prt} (hp : mayP p = true) (he : errM M p = 0) :
    errM M (outP M p) = 0 ∧ oneM M (outP M p) = oneM M p ∧ mayP (outP M p) = true := by
  have hsame : ∀ q, q = p → errM M q = 0 ∧ oneM M q = oneM M p ∧ mayP q = true := fun q e => by subst e; exact ⟨he, rfl, hp⟩
  unfold outP
  rw [if_pos ⟨hp, he⟩]
  cases hk : lk M p.gr with
  | none => exact hsame _ rfl
  | some g =>
    show errM M (settledS g p) = 0 ∧ oneM M (settledS g p) = oneM M p ∧ mayP (settledS g p) = true
    obtain ⟨hg, hid⟩ := hM.ok _ (lk_mem hk)
    simp only [] at hg hid
    have hq := settled_part (g := g) (p := p) (by simp only [mayP, Bool.and_eq_true] at hp; exact hp.1) hg.s.ok
    have h6 : ¬ p.kd = 6 := by simp only [mayP, Bool.and_eq_true, Bool.not_eq_true', decide_eq_false_iff_not] at hp; exact hp.2
    have hq6 := hq.2.2 h6
    have hqm : mayP (settledS g p) = true := by unfold mayP; rw [hq.1, decide_eq_false hq6]; rfl
    cases ha : atS g.es p.ix with
    | none => exact hsame _ (by unfold settledS; rw [ha])
    | some e =>
      by_cases k3 : p.kd = 3
      · have e1 : settledS g p = { p with tm := e.tm } := by unfold settledS; rw [ha]; exact if_pos k3
        have hc : chkG g p = 0 := by unfold errM at he; rw [hk] at he; simp only [] at he; rwa [if_neg (by omega)] at he
        obtain ⟨a, b, c, d⟩ := chk0 hc
        obtain ⟨c1, c2, c3⟩ := chk3 hc k3
        rw [e1] at hq hqm ⊢
        have hc' : chkG g { p with tm := e.tm } = 0 := by
          unfold chkG
          rw [if_neg (fun x => x.elim (fun x => Bool.noConfusion (hq.1.symm.trans x)) fun x => x.elim b fun x => x.elim c fun x => x d), if_neg (show ¬ p.kd = 1 by omega), if_pos (show p.kd = 3 from k3), if_neg (show ¬ p.ix < g.fi by omega), if_neg (show ¬ lastG g < p.ix by omega)]
          apply if_neg
          rintro ⟨_, hf⟩
          unfold fitsG at hf
          simp only [ha, decide_true] at hf
          cases hf
        obtain ⟨o1, o2⟩ := one_some (q := { p with tm := e.tm }) hk (show ¬ p.kd = 5 by omega) hc'
        obtain ⟨_, o4⟩ := one_some hk (show ¬ p.kd = 5 by omega) hc
        refine ⟨o1, ?_, hqm⟩
        rw [o2, o4]
        show putL M p.gr _ = putL M p.gr _
        congr 1
        unfold doG
        rw [if_neg (show ¬ p.kd = 1 by omega), if_neg (show ¬ p.kd = 2 by omega), if_pos k3, if_neg (show ¬ p.kd = 1 by omega), if_neg (show ¬ p.kd = 2 by omega), if_pos k3]
      by_cases k4 : p.kd = 4 ∧ p.tm = e.tm
      · have e1 : settledS g p = { p with kd := 3 } := by unfold settledS; rw [ha]; simp only []; rw [if_neg k3, if_pos k4]
        obtain ⟨k4, kt⟩ := k4
        have hc : chkG g p = 0 := by unfold errM at he; rw [hk] at he; simp only [] at he; rwa [if_neg (by omega)] at he
        obtain ⟨a, b, c, d⟩ := chk0 hc
        have c1 := chk4 hc k4
        rw [e1] at hq hqm ⊢
        have hfit : fitsG g p.ix p.tm = true := by unfold fitsG; simp only [ha]; exact decide_eq_true kt.symm
        have hlast : p.ix ≤ lastG g := by
          obtain ⟨hm, hx⟩ := atS_mem ha
          obtain ⟨j, hj, rfl⟩ := List.getElem_of_mem hm
          have := dl_get.1 hg.d j hj
          rw [last_dense hg]; omega
        have hc' : chkG g { p with kd := 3 } = 0 := by
          unfold chkG
          rw [if_neg (fun x => x.elim (fun x => Bool.noConfusion (hq.1.symm.trans x)) fun x => x.elim (show ¬ (3 : Int) = 6 by decide) fun x => x.elim (show ¬ (3 : Int) = 5 by decide) fun x => x d), if_neg (show ¬ (3 : Int) = 1 by omega), if_pos (show (3 : Int) = 3 from rfl), if_neg (show ¬ p.ix < g.fi by omega), if_neg (show ¬ lastG g < p.ix by omega)]
          apply if_neg
          rintro ⟨_, hf⟩
          simp only [hfit] at hf
          cases hf
        obtain ⟨o1, o2⟩ := one_some (q := { p with kd := 3 }) hk (show ¬ (3 : Int) = 5 by omega) hc'
        obtain ⟨_, o4⟩ := one_some hk (show ¬ p.kd = 5 by omega) hc
        refine ⟨o1, ?_, hqm⟩
        rw [o2, o4]
        show putL M p.gr _ = putL M p.gr _
        congr 1
        unfold doG
        rw [if_neg (show ¬ (3 : Int) = 1 by omega), if_neg (show ¬ (3 : Int) = 2 by omega), if_pos (show (3 : Int) = 3 from rfl), if_neg (show ¬ p.kd = 1 by omega), if_neg (show ¬ p.kd = 2 by omega), if_neg k3, if_pos k4, if_pos hfit]
        simp only [ha, Option.getD_some, kt]
      · exact hsame _ (by unfold settledS; rw [ha]; simp only []; rw [if_neg k3, if_neg k4])
theorem errM0 {M : List (Int × Grp)} {p : Prt} {l : List Prt} (h : errL M (p :: l) = 0) : errM M p = 0 ∧ errL (oneM M p) l = 0 := by
  by_cases he : errM M p = 0
  · simp only [errL, if_pos he] at h; exact ⟨he, h⟩
  · simp only [errL, if_neg he] at h; exact absurd h he
theorem settled_list {B : Nat} {M : List (Int × Grp)} (hM : ManyOk B M) {l : List Prt} (hm : ∀ p ∈ l, mayP p = true) (he : errL M l = 0) :
    errL M (outL M l) = 0 ∧ stM M (outL M l) = stM M l ∧ ∀ p ∈ outL M l, mayP p = true := by
  induction l generalizing M B with
  | nil => exact ⟨rfl, rfl, fun p hp => by cases hp⟩
  | cons p l ih =>
    obtain ⟨e1, e2⟩ := errM0 he
    have hp := hm p (by simp)
    obtain ⟨a1, a2, a3⟩ := settled_same hM hp e1
    have s1 : stepM M p = oneM M p := if_pos hp
    have s2 : stepM M (outP M p) = oneM M p := (if_pos a3).trans a2
    have hM' := hM.step p
    rw [s1] at hM'
    obtain ⟨b1, b2, b3⟩ := ih hM' (fun x hx => hm x (by simp [hx])) e2
    simp only [outL, s1]
    refine ⟨?_, ?_, ?_⟩
    · simp only [errL, a1, if_true, a2]; exact b1
    · show stM (stepM M (outP M p)) _ = stM (stepM M p) l
      rw [s2, s1]; exact b2
    · intro x hx
      rcases List.mem_cons.1 hx with rfl | hx
      · exact a3
      · exact b3 x hx
theorem wrong_of {l : List Prt} (h1 : 1 ≤ l.length) (h4 : l.length ≤ 4) (h : ∀ p ∈ l, mayP p = true) : wrongM l = 0 := by
  unfold wrongM
  rw [if_neg]
  simp only [not_or, Nat.not_lt, Bool.not_eq_true]
  refine ⟨by omega, h4, ?_⟩
  rw [List.any_eq_false]
  intro p hp
  simp [h p hp]
theorem tried0 {M : List (Int × Grp)} {l : List Prt} (h : triedE M l = 0) : wrongM l = 0 ∧ errL M l = 0 := by
  unfold triedE at h
  split at h
  · exact ⟨by assumption, h⟩
  · cases h
theorem whole_settled {B : Nat} {M : List (Int × Grp)} (hM : ManyOk B M) {l : List Prt} (h : triedE M l = 0) : triedE M (outL M l) = 0 ∧ doM M (outL M l) = doM M l := by
  obtain ⟨hw, he⟩ := tried0 h
  obtain ⟨h1, h4, hm⟩ := wrong0 hw
  obtain ⟨a, b, c⟩ := settled_list hM hm he
  have hl := outL_len M l
  have ht : triedE M (outL M l) = 0 := by unfold triedE; rw [if_pos (wrong_of (by omega) (by omega) c), a]
  exact ⟨ht, by unfold doM; rw [if_pos ht, if_pos h, b]⟩
theorem whole_one {M : List (Int × Grp)} {l : List Prt} (h : triedE M l = 0) {i : Nat} (hi : i < l.length) : triedE (stM M (l.take i)) [l[i]] = 0 ∧ doM (stM M (l.take i)) [l[i]] = stM M (l.take (i + 1)) := by
  obtain ⟨hw, he⟩ := tried0 h
  obtain ⟨h1, h4, hm⟩ := wrong0 hw
  have hml : mayP l[i] = true := hm _ (List.getElem_mem hi)
  have hpre : errL M (l.take i) = 0 := by
    by_cases h0 : errL M (l.take i) = 0
    · exact h0
    · have := errM_app (b := l.drop i) h0
      rw [List.take_append_drop] at this
      rw [← this]; exact he
  have hrest := errL_app (b := l.drop i) hpre (fun p hp => hm p (List.mem_of_mem_take hp))
  rw [List.take_append_drop, he, List.drop_eq_getElem_cons hi] at hrest
  have hone := (errM0 hrest.symm).1
  have ht : triedE (stM M (l.take i)) [l[i]] = 0 := by
    unfold triedE
    rw [if_pos (wrong_of (by simp) (by simp) (by simp [hml]))]
    simp only [errL, hone, if_true]
  refine ⟨ht, ?_⟩
  unfold doM
  rw [if_pos ht, stM_snoc hi]
  rfl
theorem outL_es {M : List (Int × Grp)} {l : List Prt} {p : Prt} (h : p ∈ outL M l) : ∃ q ∈ l, p.es = q.es := by
  induction l generalizing M with
  | nil => cases h
  | cons q l ih =>
    rcases List.mem_cons.1 h with rfl | h
    · refine ⟨q, by simp, ?_⟩
      unfold outP
      split
      · unfold settledS
        split
        · rfl
        · split
          · rfl
          split <;> rfl
      · rfl
    · obtain ⟨x, hx, e⟩ := ih h
      exact ⟨x, by simp [hx], e⟩
def oneV (o : Option Grp) (p : Prt) : Option Grp :=
  match o with
  | none => if p.kd = 3 ∨ p.kd = 5 then none else if chkG (newG p.gr) p = 0 then some (doG (newG p.gr) p) else none
  | some g => if p.kd = 5 then none else if chkG g p = 0 then some (doG g p) else some g
theorem lk_one (M : List (Int × Grp)) (p : Prt) (k : Int) : lk (oneM M p) k = if k = p.gr then oneV (lk M p.gr) p else lk M k := by
  unfold oneM oneV
  cases h : lk M p.gr with
  | none =>
    simp only []
    by_cases e : k = p.gr
    · subst e
      rw [if_pos rfl]
      split
      · exact h
      split
      · rw [lk_put, if_pos rfl]
      · exact h
    · rw [if_neg e]
      split
      · rfl
      split
      · rw [lk_put, if_neg e]
      · rfl
  | some g =>
    simp only []
    by_cases e : k = p.gr
    · subst e
      rw [if_pos rfl]
      split
      · rw [lk_del, if_pos rfl]
      split
      · rw [lk_put, if_pos rfl]
      · exact h
    · rw [if_neg e]
      split
      · rw [lk_del, if_neg e]
      split
      · rw [lk_put, if_neg e]
      · rfl
theorem one_agree {M M' : List (Int × Grp)} (p : Prt) {k : Int} (h : lk M k = lk M' k) : lk (oneM M p) k = lk (oneM M' p) k := by
  rw [lk_one, lk_one]
  by_cases e : k = p.gr
  · rw [if_pos e, if_pos e, ← e, h]
  · rw [if_neg e, if_neg e, h]
theorem err_agree {M M' : List (Int × Grp)} {p : Prt} (h : lk M p.gr = lk M' p.gr) : errM M p = errM M' p := by unfold errM; rw [h]
theorem errL_agree {M M' : List (Int × Grp)} {l : List Prt} (h : ∀ p ∈ l, lk M p.gr = lk M' p.gr) : errL M l = errL M' l := by
  induction l generalizing M M' with
  | nil => rfl
  | cons p l ih =>
    have e := err_agree (h p (by simp))
    have := ih (M := oneM M p) (M' := oneM M' p) (fun q hq => one_agree p (h q (by simp [hq])))
    simp only [errL, e, this]
theorem st_agree {M M' : List (Int × Grp)} {l : List Prt} {k : Int} (h : lk M k = lk M' k) : lk (stM M l) k = lk (stM M' l) k := by
  induction l generalizing M M' with
  | nil => exact h
  | cons p l ih =>
    refine ih (M := stepM M p) (M' := stepM M' p) ?_
    unfold stepM
    split
    · exact one_agree p h
    · exact h
theorem st_far {M : List (Int × Grp)} {l : List Prt} {k : Int} (h : ∀ p ∈ l, ¬ p.gr = k) : lk (stM M l) k = lk M k := by
  induction l generalizing M with
  | nil => rfl
  | cons p l ih =>
    refine (ih (M := stepM M p) fun q hq => h q (by simp [hq])).trans ?_
    have := h p (by simp)
    unfold stepM
    split
    · rw [lk_one, if_neg (fun e => this e.symm)]
    · rfl
theorem do_far {M : List (Int × Grp)} {l : List Prt} {k : Int} (h : ∀ p ∈ l, ¬ p.gr = k) : lk (doM M l) k = lk M k := by
  unfold doM
  split
  · exact st_far h
  · rfl
theorem do_agree {M M' : List (Int × Grp)} {l : List Prt} {k : Int} (ht : triedE M l = triedE M' l) (h : lk M k = lk M' k) : lk (doM M l) k = lk (doM M' l) k := by
  unfold doM
  rw [ht]
  split
  · exact st_agree h
  · exact h
theorem apart {B : Nat} {M : List (Int × Grp)} (hM : ManyOk B M) {a b : List Prt} (h : ∀ p ∈ a, ∀ q ∈ b, ¬ p.gr = q.gr) :
    triedE (doM M a) b = triedE M b ∧ triedE (doM M b) a = triedE M a ∧ doM (doM M a) b = doM (doM M b) a := by
  have t1 : triedE (doM M a) b = triedE M b := by
    unfold triedE
    rw [errL_agree (M := doM M a) (M' := M) fun q hq => do_far fun p hp => h p hp q hq]
  have t2 : triedE (doM M b) a = triedE M a := by
    unfold triedE
    rw [errL_agree (M := doM M b) (M' := M) fun q hq => do_far fun p hp e => h q hq p hp e.symm]
  refine ⟨t1, t2, ?_⟩
  refine Srt.ext ((hM.doM a).doM b).srt ((hM.doM b).doM a).srt fun k => ?_
  by_cases hk : ∃ p ∈ a, p.gr = k
  · obtain ⟨p, hp, e⟩ := hk
    have hb : ∀ q ∈ b, ¬ q.gr = k := fun q hq e' => h p hp q hq (e.trans e'.symm)
    rw [do_far hb]
    exact (do_agree t2 (do_far hb)).symm
  · have ha : ∀ p ∈ a, ¬ p.gr = k := fun p hp e => hk ⟨p, hp, e⟩
    rw [do_far (l := a) (M := doM M b) ha]
    exact do_agree t1 (do_far ha)
end Go.Ab
end
section
namespace Go.Ab
def fewPart (p : Prt) : Bool := ((List.range p.es.length).all fun j => !decide ((60 : Int) < ((p.es.getD j default).da.size : Int))) && decide ((p.es.length : Int) ≤ 8)
def fewParts (l : List Prt) : Bool := ((List.range l.length).all fun j => fewPart (l.getD j default)) && decide ((l.length : Int) ≤ 6)
def fewGroup (p : Grp) : Bool := ((List.range p.es.length).all fun j => !decide ((60 : Int) < ((p.es.getD j default).da.size : Int))) && decide ((p.es.length : Int) ≤ 30)
theorem fewParts_len {l : List Prt} (h : fewParts l = true) : l.length ≤ 6 ∧ ∀ p ∈ l, p.es.length ≤ 8 := by
  simp only [fewParts, Bool.and_eq_true, decide_eq_true_eq, List.all_eq_true, List.mem_range] at h
  refine ⟨by omega, fun p hp => ?_⟩
  obtain ⟨j, hj, rfl⟩ := List.getElem_of_mem hp
  have := h.1 j hj
  rw [List.getD_eq_getElem?_getD, List.getElem?_eq_getElem hj] at this
  simp only [fewPart, Option.getD_some, Bool.and_eq_true, decide_eq_true_eq] at this
  omega
theorem fewGroup_len {g : Grp} (h : fewGroup g = true) : g.es.length ≤ 30 := by
  simp only [fewGroup, Bool.and_eq_true, decide_eq_true_eq] at h
  omega
end Go.Ab
namespace Go.Proofs.YtmfhchaoijiodaaGreat
open Go.Ab
set_option linter.unusedVariables false
set_option linter.unusedSimpArgs false
set_option maxRecDepth 100000
set_option maxHeartbeats 4000000
theorem ct_ladelaw7_fewPart {x : Prt} {s : AState} (hl : (x.es.length : Int) < 9223372036854775808)  : Gives prog F_ladelaw7_fewPart [x.av] s (.v (.bool (fewPart x))) s := by
  refine Runs.gives' (runs_e h_ladelaw7_fewPart (Nat.le_of_ble_eq_true rfl) ?_) (.v _)
  unfold fewPart
  refine st0 ?_
  refine loop_ok [0, 1, 3] (fun k a s1 => Grows (s.alloc (.cells x.cells)) s1 ∧ ∃ i : Nat, i + k = x.es.length ∧ ((List.range i).all (fun j => !decide ((60 : Int) < ((x.es.getD j default).da.size : Int)))) = true ∧ a = { t := den 23 [(0, x.av), (1, .p s.n 0), (3, .v (.int .i64 i))], d := [] }) x.es.length ?_ ?_
  · exact ⟨.refl _, 0, by simp, rfl, by simp⟩
  · rintro k a s1 ⟨hg, i, hik, hall, rfl⟩
    by_cases hlt : i < x.es.length
    · have e1 : x.es.getD i default = x.es[i] := by simp [hlt]
      have hG := trivial
      have hw : IntKind.wrap .i64 ((i : Int) + 1) = (i : Int) + 1 := wrap_i64 (by omega) (by omega)
      have hgb := hg.get (b := s.n)
      try simp at hgb
      clear hl
      repeat' (first | refine sa0 ?_ | ((with_reducible first | apply s_split | apply s_gsplit) <;> (intro hb; have hb' := hb; try simp only [decide_eq_true_eq, decide_eq_false_iff_not, beq_iff_eq, beq_eq_false_iff_ne, bne_iff_ne, bne_eq_false_iff_eq, ne_eq, Bool.not_true, Bool.not_false, Bool.not_eq_true', Bool.not_eq_false', Bool.and_eq_true, Bool.or_eq_true, Bool.or_eq_false_iff] at hb; try simp at hb')))
      all_goals first
        | exact ⟨k - 1, by omega, (by first | exact hg | exact hg.alloc _), i + 1, by omega, all_step hall (by simp only [e1]; simp [*]), by simp [hw]⟩
        | (refine ret_ok rfl ⟨((Grows.refl _).alloc _).trans hg, ?_⟩; rw [all_stop hlt (by simp only [e1]; simp [*])]; exact AV.le.refl _)
    · have hgb := hg.get (b := s.n)
      try simp at hgb
      refine st2 hlt hgb ?_
      have : i = x.es.length := by omega
      subst this
      refine ret_ok rfl ⟨((Grows.refl _).alloc _).trans hg, ?_⟩
      rw [hall]; simp [AV.le.refl]
theorem ct_ladelaw7_fewParts {x : List Prt} {s : AState} (hl : (x.length : Int) < 9223372036854775808) (hes : ∀ p ∈ x, (p.es.length : Int) < 9223372036854775808) : Gives prog F_ladelaw7_fewParts [.sl (x.map Prt.av) .no] s (.v (.bool (fewParts x))) s := by
  refine Runs.gives' (runs_e h_ladelaw7_fewParts (Nat.le_of_ble_eq_true rfl) ?_) (.v _)
  unfold fewParts
  refine st0 ?_
  refine loop_ok [0, 3] (fun k a s1 => Grows (s) s1 ∧ ∃ i : Nat, i + k = x.length ∧ ((List.range i).all (fun j => fewPart (x.getD j default))) = true ∧ a = { t := den 19 [(0, .sl (x.map Prt.av) .no), (3, .v (.int .i64 i))], d := [] }) x.length ?_ ?_
  · exact ⟨.refl _, 0, by simp, rfl, by simp⟩
  · rintro k a s1 ⟨hg, i, hik, hall, rfl⟩
    by_cases hlt : i < x.length
    · have e1 : x.getD i default = x[i] := by simp [hlt]
      have hG := hes _ (List.getElem_mem hlt)
      have hw : IntKind.wrap .i64 ((i : Int) + 1) = (i : Int) + 1 := wrap_i64 (by omega) (by omega)
      have hgb := hg.get (b := s.n)
      try simp at hgb
      clear hl hes
      repeat' (first | simp -dsimp -implicitDefEqProofs (disch := first | omega | (simp <;> omega) | fail) [*] | ((with_reducible first | apply m_1 | apply m_0); (focus ((conv => lhs; simp -dsimp -implicitDefEqProofs (disch := first | omega | (simp <;> omega) | fail) [*]); done))) | ((with_reducible apply giv); (case hAR => ((conv => lhs; simp -dsimp -implicitDefEqProofs (disch := first | omega | (simp <;> omega) | fail) [*]); done)); (case hCT => (first | (apply ct_ladelaw7_fewPart <;> first | assumption | omega | decide)))) | ((with_reducible first | apply i_T | apply g_T); (focus (simp -dsimp -implicitDefEqProofs (disch := first | omega | (simp <;> omega) | fail) [*]; done))) | ((with_reducible first | apply i_F | apply g_F); (focus (simp -dsimp -implicitDefEqProofs (disch := first | omega | (simp <;> omega) | fail) [*]; done))) | ((with_reducible first | apply s_split | apply s_gsplit) <;> (intro hb; have hb' := hb; try simp only [decide_eq_true_eq, decide_eq_false_iff_not, beq_iff_eq, beq_eq_false_iff_ne, bne_iff_ne, bne_eq_false_iff_eq, ne_eq, Bool.not_true, Bool.not_false, Bool.not_eq_true', Bool.not_eq_false', Bool.and_eq_true, Bool.or_eq_true, Bool.or_eq_false_iff] at hb; try simp at hb')))
      all_goals first
        | exact ⟨k - 1, by omega, (by first | exact hg | exact hg.alloc _), i + 1, by omega, all_step hall (by simp only [e1]; simp [*]), by simp [hw]⟩
        | (refine ret_ok rfl ⟨hg, ?_⟩; rw [all_stop hlt (by simp only [e1]; simp [*])]; exact AV.le.refl _)
    · have hgb := hg.get (b := s.n)
      try simp at hgb
      refine st2 hlt hgb ?_
      have : i = x.length := by omega
      subst this
      refine ret_ok rfl ⟨hg, ?_⟩
      rw [hall]; simp [AV.le.refl]
theorem ct_ladelaw7_fewGroup {x : Grp} {s : AState} (hl : (x.es.length : Int) < 9223372036854775808)  : Gives prog F_ladelaw7_fewGroup [x.av] s (.v (.bool (fewGroup x))) s := by
  refine Runs.gives' (runs_e h_ladelaw7_fewGroup (Nat.le_of_ble_eq_true rfl) ?_) (.v _)
  unfold fewGroup
  refine st0 ?_
  refine loop_ok [0, 1, 3] (fun k a s1 => Grows (s.alloc (.cells x.cells)) s1 ∧ ∃ i : Nat, i + k = x.es.length ∧ ((List.range i).all (fun j => !decide ((60 : Int) < ((x.es.getD j default).da.size : Int)))) = true ∧ a = { t := den 23 [(0, x.av), (1, .p s.n 0), (3, .v (.int .i64 i))], d := [] }) x.es.length ?_ ?_
  · exact ⟨.refl _, 0, by simp, rfl, by simp⟩
  · rintro k a s1 ⟨hg, i, hik, hall, rfl⟩
    by_cases hlt : i < x.es.length
    · have e1 : x.es.getD i default = x.es[i] := by simp [hlt]
      have hG := trivial
      have hw : IntKind.wrap .i64 ((i : Int) + 1) = (i : Int) + 1 := wrap_i64 (by omega) (by omega)
      have hgb := hg.get (b := s.n)
      try simp at hgb
      clear hl
      repeat' (first | refine sa0 ?_ | ((with_reducible first | apply s_split | apply s_gsplit) <;> (intro hb; have hb' := hb; try simp only [decide_eq_true_eq, decide_eq_false_iff_not, beq_iff_eq, beq_eq_false_iff_ne, bne_iff_ne, bne_eq_false_iff_eq, ne_eq, Bool.not_true, Bool.not_false, Bool.not_eq_true', Bool.not_eq_false', Bool.and_eq_true, Bool.or_eq_true, Bool.or_eq_false_iff] at hb; try simp at hb')))
      all_goals first
        | exact ⟨k - 1, by omega, (by first | exact hg | exact hg.alloc _), i + 1, by omega, all_step hall (by simp only [e1]; simp [*]), by simp [hw]⟩
        | (refine ret_ok rfl ⟨((Grows.refl _).alloc _).trans hg, ?_⟩; rw [all_stop hlt (by simp only [e1]; simp [*])]; exact AV.le.refl _)
    · have hgb := hg.get (b := s.n)
      try simp at hgb
      refine st2 hlt hgb ?_
      have : i = x.es.length := by omega
      subst this
      refine ret_ok rfl ⟨((Grows.refl _).alloc _).trans hg, ?_⟩
      rw [hall]; simp [AV.le.refl]
end Go.Proofs.YtmfhchaoijiodaaGreat
end
section
namespace Go.Ab
set_option linter.unusedVariables false
theorem sub_perm {α : Type} [DecidableEq α] : ∀ {a b : List α}, a.Nodup → (∀ x ∈ a, x ∈ b) → b.length ≤ a.length → a.Perm b
  | [], b, _, _, h => by have : b = [] := List.eq_nil_of_length_eq_zero (by simpa using h)
                         subst this; exact .refl _
  | x :: a, b, hn, hs, h => by
    obtain ⟨h1, h2⟩ := List.nodup_cons.1 hn
    have hx := hs x (by simp)
    have hp := List.perm_cons_erase hx
    have hl := hp.length_eq
    simp only [List.length_cons] at hl h
    exact ((sub_perm h2 (fun y hy => (List.mem_erase_of_ne (fun e => h1 (by rw [← e]; exact hy))).2 (hs y (by simp [hy]))) (by omega)).cons x).trans hp.symm
theorem rep_eq {A1 M1 A2 M2 : List (Int × Grp)} (h1 : Rep A1 M1) (h2 : Rep A2 M2) : M1 = M2 ↔ A1.length = A2.length ∧ ∀ x ∈ A1, lk A2 x.1 = some x.2 := by
  constructor
  · rintro rfl
    refine ⟨h1.perm.length_eq.trans h2.perm.length_eq.symm, fun x hx => ?_⟩
    rw [h2.lk, ← h1.lk]
    exact lk_of_mem h1.nodup hx
  · rintro ⟨hl, ha⟩
    have hp : A1.Perm A2 := sub_perm (show A1.Nodup from (List.pairwise_map.1 h1.nodup).imp fun h e => h (by rw [e])) (fun x hx => lk_mem (ha x hx)) (by omega)
    exact Srt.ext h1.srt h2.srt fun k => by rw [← h1.lk, ← h2.lk, lk_perm h1.nodup hp k]
structure EqI (s : AState) (b1 b2 it : Nat) (A1 A2 : List (Int × Grp)) (bs : List Nat) (clk : Nat) (dn : List Nat) (s' : AState) : Prop where
  h : s'.get b1 = .held (encM Grp.av A1) bs clk
  i : s'.get it = .iter b1 bs clk dn
  b : s'.get b2 = .map (encM Grp.av A2)
  old : ∀ x, x < s.n → x ≠ b1 → s'.get x = s.get x
  n : s.n + 1 ≤ s'.n
  nd : dn.Nodup
  lt : ∀ i ∈ dn, i < A1.length
  ok : ∀ i (h : i < A1.length), i ∈ dn → lk A2 A1[i].1 = some A1[i].2
end Go.Ab
namespace Go.Proofs.YtmfhchaoijiodaaGreat
open Go.Ab
set_option linter.unusedVariables false
set_option linter.unusedSimpArgs false
set_option maxRecDepth 100000
set_option maxHeartbeats 1000000
theorem ct_maps_EqualFunc_Group {b1 b2 : Nat} {A1 M1 A2 M2 : List (Int × Grp)} {s : AState} (h1 : s.get b1 = .map (encM Grp.av A1)) (h2 : s.get b2 = .map (encM Grp.av A2)) (r1 : Rep A1 M1) (r2 : Rep A2 M2) (hne : b1 ≠ b2) (hes : ∀ x ∈ A1, x.2.es.length ≤ 1000000) :
    Gives prog F_maps_EqualFunc_Group [.m b1, .m b2, .f (.func F_group_Same) [] []] s (.v (.bool (decide (M1 = M2)))) s := by
  refine Runs.gives (runs_e h_maps_EqualFunc_Group (Nat.le_of_ble_eq_true rfl) ?_) (.v _)
  have l1 := AState.lt_of_get h1 (by simp)
  have l2 := AState.lt_of_get h2 (by simp)
  have hq := rep_eq r1 r2
  have e1 : (encM Grp.av A1).length = A1.length := by simp [encM]
  have e2 : (encM Grp.av A2).length = A2.length := by simp [encM]
  by_cases hl : A1.length = A2.length
  case neg =>
    have hl' : ¬ (A1.length : Int) = A2.length := by omega
    have hd : decide (M1 = M2) = false := decide_eq_false fun e => hl (hq.1 e).1
    rw [hd]
    repeat (first | simp -dsimp -implicitDefEqProofs (disch := first | omega | (simp <;> omega) | fail) [h1, h2, e1, e2, hl'] | ((with_reducible first | apply m_1 | apply m_0); (focus ((conv => lhs; simp -dsimp -implicitDefEqProofs (disch := first | omega | (simp <;> omega) | fail) [h1, h2, e1, e2, hl']); done))) | ((with_reducible first | apply i_T | apply g_T); (focus (simp -dsimp -implicitDefEqProofs (disch := first | omega | (simp <;> omega) | fail) [h1, h2, e1, e2, hl']; done))) | ((with_reducible first | apply i_F | apply g_F); (focus (simp -dsimp -implicitDefEqProofs (disch := first | omega | (simp <;> omega) | fail) [h1, h2, e1, e2, hl']; done))))
    exact ret_ok rfl ⟨AState.sub.refl _, .refl _⟩
  have hl' : (A1.length : Int) = A2.length := by omega
  repeat (first | simp -dsimp -implicitDefEqProofs (disch := first | omega | (simp <;> omega) | fail) [h1, h2, e1, e2, hl'] | ((with_reducible first | apply m_1 | apply m_0); (focus ((conv => lhs; simp -dsimp -implicitDefEqProofs (disch := first | omega | (simp <;> omega) | fail) [h1, h2, e1, e2, hl']); done))) | ((with_reducible first | apply i_T | apply g_T); (focus (simp -dsimp -implicitDefEqProofs (disch := first | omega | (simp <;> omega) | fail) [h1, h2, e1, e2, hl']; done))) | ((with_reducible first | apply i_F | apply g_F); (focus (simp -dsimp -implicitDefEqProofs (disch := first | omega | (simp <;> omega) | fail) [h1, h2, e1, e2, hl']; done))))
  refine m_rng (b := b1) (es := encM Grp.av A1) (by simp) h1 ?_
  intro bs clk k1 k2 k3
  repeat (first | simp -dsimp -implicitDefEqProofs (disch := first | omega | (simp <;> omega) | fail) | ((with_reducible first | apply m_1 | apply m_0); (focus ((conv => lhs; simp -dsimp -implicitDefEqProofs (disch := first | omega | (simp <;> omega) | fail)); done))) | ((with_reducible first | apply i_T | apply g_T); (focus (simp -dsimp -implicitDefEqProofs (disch := first | omega | (simp <;> omega) | fail); done))) | ((with_reducible first | apply i_F | apply g_F); (focus (simp -dsimp -implicitDefEqProofs (disch := first | omega | (simp <;> omega) | fail); done))))
  refine loop_ok [0, 1, 2, 17] (fun m a s2 => ∃ dn : List Nat, dn.length + m = A1.length ∧ EqI s b1 b2 s.n A1 A2 bs clk dn s2 ∧
    a = { t := den 38 [(0, .m b1), (1, .m b2), (2, .f (.func F_group_Same) [] []), (17, .p s.n 0)], d := [] }) A1.length ?_ ?_
  · exact ⟨[], by simp, ⟨by simp (disch := first | omega | (simp <;> omega) | fail), by simp (disch := first | omega | (simp <;> omega) | fail), by simp (disch := first | omega | (simp <;> omega) | fail) [h2], fun x hx hn => by simp (disch := first | omega | (simp <;> omega) | fail) [hn], by simp, List.nodup_nil, by simp, by simp⟩, by simp⟩
  rintro m a s2 ⟨dn, him, hI, rfl⟩
  obtain ⟨ih, ii, ib, old, n2, nd, lt, ok⟩ := hI
  have lb1 := AState.lt_of_get ih (by simp)
  have lb2 := AState.lt_of_get ib (by simp)
  have lit := AState.lt_of_get ii (by simp)
  repeat (first | simp -dsimp -implicitDefEqProofs (disch := first | omega | (simp <;> omega) | fail) | ((with_reducible first | apply m_1 | apply m_0); (focus ((conv => lhs; simp -dsimp -implicitDefEqProofs (disch := first | omega | (simp <;> omega) | fail)); done))) | ((with_reducible first | apply i_T | apply g_T); (focus (simp -dsimp -implicitDefEqProofs (disch := first | omega | (simp <;> omega) | fail); done))) | ((with_reducible first | apply i_F | apply g_F); (focus (simp -dsimp -implicitDefEqProofs (disch := first | omega | (simp <;> omega) | fail); done))))
  refine m_nxt (b := b1) (it := s.n) (es := encM Grp.av A1) (by simp) ii ih (fun i hi hn => ?_) (fun hall => ?_)
  · rw [e1] at hi
    have hx : (encM Grp.av A1)[i]'(by rw [e1]; exact hi) = (.v (.int .i64 A1[i].1), A1[i].2.av) := by simp only [encM, List.getElem_map]; rfl
    have hgd : (encM Grp.av A1).getD i (AV.any, AV.any) = (.v (.int .i64 A1[i].1), A1[i].2.av) := by rw [List.getD_eq_getElem?_getD, List.getElem?_eq_getElem (by rw [e1]; exact hi), hx]; rfl
    have hgd2 : (encM Grp.av A1)[i]? = some (.v (.int .i64 A1[i].1), A1[i].2.av) := by rw [List.getElem?_eq_getElem (by rw [e1]; exact hi), hx]
    have hie : i < (encM Grp.av A1).length := by rw [e1]; exact hi
    have hle := hes _ (List.getElem_mem hi)
    have hdn : dn.length < A1.length := by
      by_cases h : dn.length < A1.length
      · exact h
      · have hp := sub_perm (b := List.range A1.length) nd (fun x hx => List.mem_range.2 (lt x hx)) (by simp; omega)
        exact absurd (hp.mem_iff.2 (List.mem_range.2 hi)) hn
    have hokx : ∀ j (h : j < A1.length), j ∈ dn ++ [i] → j ∈ dn ∨ j = i := fun j h hj => by simpa using hj
    generalize hxe : A1[i] = x at hx hgd hgd2 hle
    repeat (first | simp -dsimp -implicitDefEqProofs (disch := first | omega | (simp <;> omega) | fail) [hx, hgd, hgd2, hi, ih, ii] | ((with_reducible first | apply m_1 | apply m_0); (focus ((conv => lhs; simp -dsimp -implicitDefEqProofs (disch := first | omega | (simp <;> omega) | fail) [hx, hgd, hgd2, hi, ih, ii]); done))) | ((with_reducible first | apply i_T | apply g_T); (focus (simp -dsimp -implicitDefEqProofs (disch := first | omega | (simp <;> omega) | fail) [hx, hgd, hgd2, hi, ih, ii]; done))) | ((with_reducible first | apply i_F | apply g_F); (focus (simp -dsimp -implicitDefEqProofs (disch := first | omega | (simp <;> omega) | fail) [hx, hgd, hgd2, hi, ih, ii]; done))))
    refine m_look (κ := Int) (A := A2) (enc := Grp.av) (k := x.1) (b := b2) (by simp) (by simp (disch := first | omega | (simp <;> omega) | fail) [ib]) (by simp; rfl) ?_
    unfold lkV
    have bad : ¬ lk A2 x.1 = some x.2 → decide (M1 = M2) = false := fun h => decide_eq_false fun e => h (by
      have := (hq.1 e).2 _ (List.getElem_mem hi)
      rwa [hxe] at this)
    have ext : ∀ s', (∀ y, y < s.n → s'.get y = s2.get y) → s.n ≤ s'.n → s.sub s' := fun s' k n => ⟨n, fun y hy => by
      by_cases e : y = b1
      · subst e; exact .inr (.inr ⟨_, _, _, h1, (k _ hy).trans ih⟩)
      · exact .inl (by rw [k y hy, old y hy e])⟩
    cases hk : lk A2 x.1 with
    | none =>
      have hd := bad (by rw [hk]; simp)
      rw [hd]
      repeat (first | simp -dsimp -implicitDefEqProofs (disch := first | omega | (simp <;> omega) | fail) | ((with_reducible first | apply m_1 | apply m_0); (focus ((conv => lhs; simp -dsimp -implicitDefEqProofs (disch := first | omega | (simp <;> omega) | fail)); done))) | ((with_reducible first | apply i_T | apply g_T); (focus (simp -dsimp -implicitDefEqProofs (disch := first | omega | (simp <;> omega) | fail); done))) | ((with_reducible first | apply i_F | apply g_F); (focus (simp -dsimp -implicitDefEqProofs (disch := first | omega | (simp <;> omega) | fail); done))))
      exact ret_ok rfl ⟨ext _ (fun y hy => by simp (disch := first | omega | (simp <;> omega) | fail)) (by simp; omega), .refl _⟩
    | some y =>
      repeat (first | simp -dsimp -implicitDefEqProofs (disch := first | omega | (simp <;> omega) | fail) | ((with_reducible first | apply m_1 | apply m_0); (focus ((conv => lhs; simp -dsimp -implicitDefEqProofs (disch := first | omega | (simp <;> omega) | fail)); done))) | ((with_reducible first | apply i_T | apply g_T); (focus (simp -dsimp -implicitDefEqProofs (disch := first | omega | (simp <;> omega) | fail); done))) | ((with_reducible first | apply i_F | apply g_F); (focus (simp -dsimp -implicitDefEqProofs (disch := first | omega | (simp <;> omega) | fail); done))))
      refine gv (ct_group_Same (a := x.2) (b := y) (by omega)) ?_
      by_cases he : x.2 = y
      · repeat (first | simp -dsimp -implicitDefEqProofs (disch := first | omega | (simp <;> omega) | fail) [he] | ((with_reducible first | apply m_1 | apply m_0); (focus ((conv => lhs; simp -dsimp -implicitDefEqProofs (disch := first | omega | (simp <;> omega) | fail) [he]); done))) | ((with_reducible first | apply i_T | apply g_T); (focus (simp -dsimp -implicitDefEqProofs (disch := first | omega | (simp <;> omega) | fail) [he]; done))) | ((with_reducible first | apply i_F | apply g_F); (focus (simp -dsimp -implicitDefEqProofs (disch := first | omega | (simp <;> omega) | fail) [he]; done))))
        refine ⟨m - 1, by omega, dn ++ [i], by simp; omega, ⟨by simp (disch := first | omega | (simp <;> omega) | fail) [ih], by simp (disch := first | omega | (simp <;> omega) | fail), dz1 ib, fun z hz hn => by simp (disch := first | omega | (simp <;> omega) | fail) [old z hz hn], by simp; omega, ?_, ?_, ?_⟩, by simp⟩
        · rw [List.nodup_append]
          exact ⟨nd, by simp, fun a ha b hb => by rw [List.mem_singleton] at hb; rintro rfl; exact hn (hb ▸ ha)⟩
        · intro j hj
          rcases List.mem_append.1 hj with hj | hj
          · exact lt j hj
          · rw [List.mem_singleton] at hj; omega
        · intro j hj hm
          rcases hokx j hj hm with hm | rfl
          · exact ok j hj hm
          · rw [hxe, hk, he]
      · have hd := bad (by rw [hk]; simpa using fun e => he e.symm)
        rw [hd]
        refine st1 he ?_
        exact ret_ok rfl ⟨ext _ (fun z hz => dz0) (by simp; omega), .refl _⟩
  · have hd : decide (M1 = M2) = true := decide_eq_true (hq.2 ⟨hl, fun x hx => by
      obtain ⟨i, hi, rfl⟩ := List.getElem_of_mem hx
      exact ok i hi (hall i (by rw [e1]; exact hi))⟩)
    rw [hd]
    refine st0 ?_
    refine ret_ok rfl ⟨⟨by simp; omega, fun x hx => ?_⟩, .refl _⟩
    by_cases e : x = b1
    · subst e; left; simp (disch := first | omega | (simp <;> omega) | fail) [h1]
    · left; simp (disch := first | omega | (simp <;> omega) | fail) [e, old x hx e]
theorem ct_many_Same {b1 m1 b2 m2 : Nat} {A1 M1 A2 M2 : List (Int × Grp)} {s : AState} {B : Nat} (h1 : ManyAt s b1 m1 A1 M1) (h2 : ManyAt s b2 m2 A2 M2) (hne : m1 ≠ m2) (hM : ManyOk B M1) (hB : B ≤ 1000000) :
    Gives prog F_many_Same [.p b1 0, .p b2 0] s (.v (.bool (decide (M1 = M2)))) s := by
  refine Runs.gives (runs_e h_many_Same (Nat.le_of_ble_eq_true rfl) ?_) (.v _)
  have a1 := h1.b
  have a2 := h2.b
  repeat (first | simp -dsimp -implicitDefEqProofs (disch := first | omega | (simp <;> omega) | fail) [a1, a2] | ((with_reducible first | apply m_1 | apply m_0); (focus ((conv => lhs; simp -dsimp -implicitDefEqProofs (disch := first | omega | (simp <;> omega) | fail) [a1, a2]); done))) | ((with_reducible first | apply i_T | apply g_T); (focus (simp -dsimp -implicitDefEqProofs (disch := first | omega | (simp <;> omega) | fail) [a1, a2]; done))) | ((with_reducible first | apply i_F | apply g_F); (focus (simp -dsimp -implicitDefEqProofs (disch := first | omega | (simp <;> omega) | fail) [a1, a2]; done))))
  refine gv (ct_maps_EqualFunc_Group h1.m h2.m h1.r h2.r hne (fun x hx => by have := hM.len x (h1.r.perm.mem_iff.1 hx); omega)) ?_
  repeat (first | simp -dsimp -implicitDefEqProofs (disch := first | omega | (simp <;> omega) | fail) | ((with_reducible first | apply m_1 | apply m_0); (focus ((conv => lhs; simp -dsimp -implicitDefEqProofs (disch := first | omega | (simp <;> omega) | fail)); done))) | ((with_reducible first | apply i_T | apply g_T); (focus (simp -dsimp -implicitDefEqProofs (disch := first | omega | (simp <;> omega) | fail); done))) | ((with_reducible first | apply i_F | apply g_F); (focus (simp -dsimp -implicitDefEqProofs (disch := first | omega | (simp <;> omega) | fail); done))))
  exact ret_ok rfl ⟨AState.sub.refl _, .refl _⟩
end Go.Proofs.YtmfhchaoijiodaaGreat
end
section
namespace Go.Proofs.YtmfhchaoijiodaaGreat
open Go.Ab
set_option linter.unusedVariables false
set_option linter.unusedSimpArgs false
set_option maxRecDepth 100000
set_option maxHeartbeats 4000000
def Ones (xs : List AV) : Prop := ∀ x ∈ xs, x.cells = [x] ∧ x.one = true ∧ x.strip = x
theorem Ones.ints {k : IntKind} (l : List Int) : Ones (l.map fun n => .v (.int k n)) := by intro x hx; obtain ⟨n, _, rfl⟩ := List.mem_map.1 hx; exact ⟨rfl, rfl, rfl⟩
theorem ct_slices_Values_int {xs : List AV} {s : AState} : Gives prog F_slices_Values_int [.sl xs .no] s (.f (.func F_slices_Values_int_1) [] [.p s.n 0]) (s.alloc (.cells [.sl xs .no])) := by
  refine runs_e h_slices_Values_int (Nat.le_of_ble_eq_true rfl) ?_
  refine st0 ?_
  exact ret_ok rfl ⟨rfl, rfl⟩
theorem it_slices_Values_int (xs : List AV) (hx : Ones xs) (b : Nat) (hlen : xs.length < 9223372036854775808) : Iter prog F_slices_Values_int_1 [] [.p b 0] (xs.map fun e => [e]) (fun s => s.get b = .cells [.sl xs .no]) := by
  intro l s I J hp ha hj hy h0
  refine runs_e h_slices_Values_int_1 (Nat.le_of_ble_eq_true rfl) ?_
  refine st1 (hp 0 s h0) ?_
  refine loop_ok [0, 5, 6, 7] (fun m a s1 => ∃ j : Nat, j + m = xs.length ∧ I j s1 ∧ a = { t := den 16 [(0, .y l), (5, .sl xs .no), (6, .v (.int .i64 xs.length)), (7, .v (.int .i64 j))], d := [] }) xs.length ?_ ?_
  · exact ⟨0, by simp, h0, by simp⟩
  · rintro m a s1 ⟨j, hjm, hI, rfl⟩
    by_cases hlt : j < xs.length
    · have hw : IntKind.wrap .i64 ((j : Int) + 1) = ((j + 1 : Nat) : Int) := by rw [wrap_i64 (by omega) (by omega)]; omega
      obtain ⟨hc, ho, _⟩ := hx _ (List.getElem_mem hlt)
      refine st3 hlt hc ho ?_
      have hy' := hy j (by simpa using hlt) _ hI
      simp only [List.getElem_map] at hy'
      refine yr0 (hy') ?_
      rintro _ s2 (⟨rfl, hI2⟩ | ⟨rfl, hJ⟩)
      · refine st1 hw ?_
        exact ⟨m - 1, by omega, j + 1, by omega, hI2, by simp⟩
      · refine st0 ?_
        exact ret_ok rfl (.inr hJ)
    · refine st1 hlt ?_
      have : j = xs.length := by omega
      subst this
      exact end_ok rfl (.inl (by simpa using hI))
end Go.Proofs.YtmfhchaoijiodaaGreat
end
section
namespace Go.Ab
set_option linter.unusedVariables false
def grpsM (M : List (Int × Grp)) : List Grp := M.map (·.2)
structure AllI (s : AState) (b : Nat) (ks l : List AV) (s' : AState) : Prop where
  b0 : ∃ tk, s'.get (s.n + 1) = .cells [.sl l tk] ∧ May (s.n + 6) s' l tk
  b1 : s'.get s.n = .cells [.p b 0]
  b2 : s'.get (s.n + 3) = .cells [.sl ks .no]
  n : s.n + 6 ≤ s'.n
  old : ∀ x, x < s.n → s'.get x = s.get x
theorem AllI.alloc {s : AState} {b : Nat} {ks l : List AV} {s' : AState} (h : AllI s b ks l s') (o : AObj) : AllI s b ks l (s'.alloc o) := by
  obtain ⟨⟨tk, g1, g2⟩, b1, b2, n, old⟩ := h
  exact ⟨⟨tk, dz1 g1, g2.alloc o⟩, dz1 b1, dz1 b2, by simp; omega, fun x hx => dz1 (old x hx)⟩
end Go.Ab
namespace Go.Proofs.YtmfhchaoijiodaaGreat
open Go.Ab
set_option linter.unusedVariables false
set_option linter.unusedSimpArgs false
set_option maxRecDepth 100000
set_option maxHeartbeats 8000000
theorem ct_many_Many_All {b mb : Nat} {A M : List (Int × Grp)} {s : AState} {B : Nat} (h : ManyAt s b mb A M) (hM : ManyOk B M) (hB : B ≤ 1000000) : Gives prog F_many_Many_All [.p b 0] s (.sl ((grpsM M).map Grp.av) .no) s := by
  obtain ⟨lb, lm, lne⟩ := h.lt
  obtain ⟨h1, h2, h3⟩ := h
  have hrng := hM.rng
  have hsz := hM.size
  refine Runs.gives (runs_e h_many_Many_All (Nat.le_of_ble_eq_true rfl) ?_) (flat_sl Grp.row _)
  repeat (first | simp -dsimp -implicitDefEqProofs (disch := first | omega | (simp <;> omega) | fail) [h1] | ((with_reducible first | apply m_1 | apply m_0); (focus ((conv => lhs; simp -dsimp -implicitDefEqProofs (disch := first | omega | (simp <;> omega) | fail) [h1]); done))) | ((with_reducible first | apply i_T | apply g_T); (focus (simp -dsimp -implicitDefEqProofs (disch := first | omega | (simp <;> omega) | fail) [h1]; done))) | ((with_reducible first | apply i_F | apply g_F); (focus (simp -dsimp -implicitDefEqProofs (disch := first | omega | (simp <;> omega) | fail) [h1]; done))))
  refine giv (ct_maps_Keys_Group (b := mb)) (by first | (simp; done) | rfl | (simp; rfl)) ?_
  repeat (first | simp -dsimp -implicitDefEqProofs (disch := first | omega | (simp <;> omega) | fail) | ((with_reducible first | apply m_1 | apply m_0); (focus ((conv => lhs; simp -dsimp -implicitDefEqProofs (disch := first | omega | (simp <;> omega) | fail)); done))) | ((with_reducible first | apply i_T | apply g_T); (focus (simp -dsimp -implicitDefEqProofs (disch := first | omega | (simp <;> omega) | fail); done))) | ((with_reducible first | apply i_F | apply g_F); (focus (simp -dsimp -implicitDefEqProofs (disch := first | omega | (simp <;> omega) | fail); done))))
  obtain ⟨ks, hks⟩ : ∃ ks : List AV, ks = (M.map (·.1)).map fun n => .v (.int .i64 n) := ⟨_, rfl⟩
  have hon : Ones ks := by rw [hks]; exact Ones.ints _
  have hkl : ks.length = M.length := by rw [hks]; simp
  have hkg : ∀ k (h : k < M.length) (h' : k < ks.length), ks[k] = .v (.int .i64 M[k].1) := fun k h h' => by simp only [hks, List.getElem_map]
  have hso : ∀ {s' : AState}, s'.get (s.n + 2) = .cells [.m mb] → s'.get mb = .map (encM Grp.av A) → Gives prog F_slices_Sorted_int [.f (.func F_maps_Keys_Group_1) [] [.p (s.n + 2) 0]] s' (.sl ks .no) s' := fun {s'} q1 q2 => by
    rw [hks]; exact ct_sorted_Group (B := M) (A := A) (enc := Grp.av) (cb := s.n + 2) (b := mb) q1 q2 h3 (fun x hx => by have := hrng x hx; omega) (by omega)
  refine giv (hso (by simp (disch := first | omega | (simp <;> omega) | fail)) (by simp (disch := first | omega | (simp <;> omega) | fail) [h2])) (by first | (simp; done) | rfl | (simp; rfl)) ?_
  repeat (first | simp -dsimp -implicitDefEqProofs (disch := first | omega | (simp <;> omega) | fail) | ((with_reducible first | apply m_1 | apply m_0); (focus ((conv => lhs; simp -dsimp -implicitDefEqProofs (disch := first | omega | (simp <;> omega) | fail)); done))) | ((with_reducible first | apply i_T | apply g_T); (focus (simp -dsimp -implicitDefEqProofs (disch := first | omega | (simp <;> omega) | fail); done))) | ((with_reducible first | apply i_F | apply g_F); (focus (simp -dsimp -implicitDefEqProofs (disch := first | omega | (simp <;> omega) | fail); done))))
  refine giv (ct_slices_Values_int (xs := ks)) (by first | (simp; done) | rfl | (simp; rfl)) ?_
  repeat (first | simp -dsimp -implicitDefEqProofs (disch := first | omega | (simp <;> omega) | fail) | ((with_reducible first | apply m_1 | apply m_0); (focus ((conv => lhs; simp -dsimp -implicitDefEqProofs (disch := first | omega | (simp <;> omega) | fail)); done))) | ((with_reducible first | apply i_T | apply g_T); (focus (simp -dsimp -implicitDefEqProofs (disch := first | omega | (simp <;> omega) | fail); done))) | ((with_reducible first | apply i_F | apply g_F); (focus (simp -dsimp -implicitDefEqProofs (disch := first | omega | (simp <;> omega) | fail); done))))
  have hsn : ((((s.alloc (.cells [.p b 0])).alloc (.cells [.sl [] .zero])).alloc (.cells [.m mb])).alloc (.cells [.sl ks .no])).n = s.n + 4 := by simp
  have hgl : ∀ k, (grpsM (M.take k)).length ≤ 1000 := fun k => by simp only [grpsM, List.length_map, List.length_take]; omega
  refine w_rangeS (m := M.length) (by simp) (it_slices_Values_int ks hon (s.n + 3) (by omega)) (by intro x hx; obtain ⟨p, _, rfl⟩ := List.mem_map.1 hx; rfl) (by simp [hkl])
    (fun k s' => AllI s b ks ((grpsM (M.take k)).map Grp.av) s') (fun j s' => False) ?_ ?_ ?_ ?_ ?_ ?_ ?_
  · intro LR
    exact ⟨⟨.zero, by simp (disch := first | omega | (simp <;> omega) | fail) [grpsM], trivial⟩, by simp (disch := first | omega | (simp <;> omega) | fail), by simp (disch := first | omega | (simp <;> omega) | fail), by simp, fun x hx => by simp (disch := first | omega | (simp <;> omega) | fail)⟩
  · intro k s' h; exact h.b2
  · intro k s' o hn h; exact h.alloc o
  · intro j s' o hn h; exact h.elim
  · intro LR LB LJ hLB hLR k hk s' hd hLL hln hI
    have hk' : k < M.length := by simpa [hkl] using hk
    have hkk := hkg k hk' (by omega)
    obtain ⟨⟨tk, g1, g2⟩, b1, b2, n, old⟩ := hI
    have hlk : lk A M[k].1 = some M[k].2 := by rw [h3.lk]; exact hM.srt.lk_mem (List.getElem_mem hk')
    have hgs : grpsM (M.take (k + 1)) = grpsM (M.take k) ++ [M[k].2] := by
      have e : M.take (k + 1) = M.take k ++ [M[k]] := (List.take_append_getElem hk').symm
      unfold grpsM; rw [e, List.map_append]; rfl
    have hgk := hgl k
    have hbl := hM.len _ (List.getElem_mem hk')
    simp only [hsn, List.getElem_map, List.zip_cons_cons, List.zip_nil_right, List.reverse_cons, List.reverse_nil, List.nil_append, List.cons_append] at hd hLL hln ⊢
    rw [hkk]
    generalize M[k] = x at hlk hgs hbl ⊢
    have o1 := (old b lb).trans h1
    have o2 := (old mb lm).trans h2
    repeat (first | simp -dsimp -implicitDefEqProofs (disch := first | omega | (simp <;> omega) | fail) [hLL, g1, b1, o1] | (with_reducible apply m_draw) | ((with_reducible refine ⟨m_op ?_, ?_⟩); (focus (simp -dsimp -implicitDefEqProofs (disch := first | omega | (simp <;> omega) | fail) [hLL, g1, b1, o1]; done))) | ((with_reducible first | apply m_d1 rfl | apply m_dE | apply m_dE0); (focus ((conv => lhs; simp -dsimp -implicitDefEqProofs (disch := first | omega | (simp <;> omega) | fail) [hLL, g1, b1, o1]); done))) | ((with_reducible first | apply m_1 | apply m_0); (focus ((conv => lhs; simp -dsimp -implicitDefEqProofs (disch := first | omega | (simp <;> omega) | fail) [hLL, g1, b1, o1]); done))) | ((with_reducible first | apply i_T | apply g_T | apply h_T); (focus (simp -dsimp -implicitDefEqProofs (disch := first | omega | (simp <;> omega) | fail) [hLL, g1, b1, o1]; done))) | ((with_reducible first | apply i_F | apply g_F | apply h_F); (focus (simp -dsimp -implicitDefEqProofs (disch := first | omega | (simp <;> omega) | fail) [hLL, g1, b1, o1]; done))))
    refine q_look (κ := Int) (A := A) (enc := Grp.av) (k := x.1) (b := mb) (by simp) (by simp (disch := first | omega | (simp <;> omega) | fail) [o2]) (by simp; rfl) ?_
    unfold lkV
    rw [hlk]
    refine sd4 hLL g1 b1 o1 ?_
    refine gv (ct_many_copied (g := x.2) (by omega)) ?_
    repeat (first | simp -dsimp -implicitDefEqProofs (disch := first | omega | (simp <;> omega) | fail) [g1] | (with_reducible apply m_draw) | ((with_reducible refine ⟨m_op ?_, ?_⟩); (focus (simp -dsimp -implicitDefEqProofs (disch := first | omega | (simp <;> omega) | fail) [g1]; done))) | ((with_reducible first | apply m_d1 rfl | apply m_dE | apply m_dE0); (focus ((conv => lhs; simp -dsimp -implicitDefEqProofs (disch := first | omega | (simp <;> omega) | fail) [g1]); done))) | ((with_reducible first | apply m_1 | apply m_0); (focus ((conv => lhs; simp -dsimp -implicitDefEqProofs (disch := first | omega | (simp <;> omega) | fail) [g1]); done))) | ((with_reducible first | apply i_T | apply g_T | apply h_T); (focus (simp -dsimp -implicitDefEqProofs (disch := first | omega | (simp <;> omega) | fail) [g1]; done))) | ((with_reducible first | apply i_F | apply g_F | apply h_F); (focus (simp -dsimp -implicitDefEqProofs (disch := first | omega | (simp <;> omega) | fail) [g1]; done))))
    refine q_appS (xs := (grpsM (M.take k)).map Grp.av) (tk := tk) (ys := [x.2.av]) (t2 := .zero) (N := s.n + 6) (by simp) (by simp) (by simp; omega) (g2.set _ (by omega)) (head_map Grp.row _) (by simp) (by simp; omega) (by simp; omega) ?_
    intro s2 tk2 hm2 hlow hext
    have k0 : s2.get (s.n + 1) = .cells [.sl ((grpsM (M.take k)).map Grp.av) tk] := by rw [hlow _ (by omega)]; simp (disch := first | omega | (simp <;> omega) | fail) [g1]
    have k1 : s2.get s.n = .cells [.p b 0] := by rw [hlow _ (by omega)]; simp (disch := first | omega | (simp <;> omega) | fail) [b1]
    have k2 : s2.get (s.n + 4) = .defd := by rw [hlow _ (by omega)]; simp (disch := first | omega | (simp <;> omega) | fail) [hd]
    have k3 : s2.get (s.n + 4 + 1) = LB := by rw [hlow _ (by omega)]; simp (disch := first | omega | (simp <;> omega) | fail)
    have k5 : s2.get (s.n + 3) = .cells [.sl ks .no] := by rw [hlow _ (by omega)]; simp (disch := first | omega | (simp <;> omega) | fail) [b2]
    have k4 : ∀ x, x < s.n → s2.get x = s.get x := fun x hx => by rw [hlow _ (by omega)]; simp (disch := first | omega | (simp <;> omega) | fail) [old x hx]
    have hn2 : s.n + 6 ≤ s2.n := by have := hext.1; simp at this; omega
    clear hext hlow
    repeat (first | simp -dsimp -implicitDefEqProofs (disch := first | omega | (simp <;> omega) | fail) [k0] | (with_reducible apply m_draw) | ((with_reducible refine ⟨m_op ?_, ?_⟩); (focus (simp -dsimp -implicitDefEqProofs (disch := first | omega | (simp <;> omega) | fail) [k0]; done))) | ((with_reducible first | apply m_d1 rfl | apply m_dE | apply m_dE0); (focus ((conv => lhs; simp -dsimp -implicitDefEqProofs (disch := first | omega | (simp <;> omega) | fail) [k0]); done))) | ((with_reducible first | apply m_1 | apply m_0); (focus ((conv => lhs; simp -dsimp -implicitDefEqProofs (disch := first | omega | (simp <;> omega) | fail) [k0]); done))) | ((with_reducible first | apply i_T | apply g_T | apply h_T); (focus (simp -dsimp -implicitDefEqProofs (disch := first | omega | (simp <;> omega) | fail) [k0]; done))) | ((with_reducible first | apply i_F | apply g_F | apply h_F); (focus (simp -dsimp -implicitDefEqProofs (disch := first | omega | (simp <;> omega) | fail) [k0]; done))))
    repeat (first | simp -dsimp -implicitDefEqProofs (disch := first | omega | (simp <;> omega) | fail) [k0, k3] | ((with_reducible first | apply m_1 | apply m_0); (focus ((conv => lhs; simp -dsimp -implicitDefEqProofs (disch := first | omega | (simp <;> omega) | fail) [k0, k3]); done))) | ((with_reducible first | apply i_T | apply g_T); (focus (simp -dsimp -implicitDefEqProofs (disch := first | omega | (simp <;> omega) | fail) [k0, k3]; done))) | ((with_reducible first | apply i_F | apply g_F); (focus (simp -dsimp -implicitDefEqProofs (disch := first | omega | (simp <;> omega) | fail) [k0, k3]; done))))
    refine fins_n (fun d hd => by cases hd; simp (disch := first | omega | (simp <;> omega) | fail) [k2]) (by simp (disch := first | omega | (simp <;> omega) | fail)) ⟨⟨tk2, by simp (disch := first | omega | (simp <;> omega) | fail) [hgs], ?_⟩, by simp (disch := first | omega | (simp <;> omega) | fail) [k1], by simp (disch := first | omega | (simp <;> omega) | fail) [k5], by simpa using hn2, fun x hx => by simp (disch := first | omega | (simp <;> omega) | fail) [k4 x hx]⟩
    rw [hgs]
    simpa using (hm2.set _ (by omega)).set _ (by omega)
  · rintro s' hd hln ⟨⟨tk, g1, g2⟩, b1, b2, n, old⟩
    rw [List.take_length] at g1 g2
    simp only [hsn] at hd hln ⊢
    refine st1 g1 ?_
    refine ret_okD ?_ ?_ rfl ⟨⟨?_, fun x hx => .inl ?_⟩, AV.le_no _ _⟩
    · simp (disch := first | omega | (simp <;> omega) | fail) [hd]
    · simp
    · simp [killAll]; omega
    · simp (disch := first | omega | (simp <;> omega) | fail) [killAll, old x hx]
  · intro j s' _ _ h; exact h.elim
end Go.Proofs.YtmfhchaoijiodaaGreat
end
section
namespace Go.Ab
set_option linter.unusedVariables false
def ptr (b : Nat) : AV := .p b 0
end Go.Ab
end
section
namespace Go.Ab
set_option linter.unusedVariables false
def dlB : Int → List Ent → Bool
  | _, [] => true
  | f, e :: l => okEnt e && decide (e.ix = f) && dlB (f + 1) l
def isG (g : Grp) : Bool := dlB g.fi g.es && okHead g
theorem dlB_get {f : Int} {l : List Ent} : dlB f l = true ↔ ∀ (j : Nat) (h : j < l.length), okEnt l[j] = true ∧ l[j].ix = f + j := by
  induction l generalizing f with
  | nil => simp [dlB]
  | cons e l ih =>
    simp only [dlB, Bool.and_eq_true, decide_eq_true_eq, ih]
    constructor
    · rintro ⟨⟨h0, h1⟩, h2⟩ j hj
      cases j with
      | zero => simpa using ⟨h0, h1⟩
      | succ j =>
        have := h2 j (by simpa using hj)
        simp only [List.getElem_cons_succ]
        exact ⟨this.1, by omega⟩
    · intro h
      have h0 := h 0 (by simp)
      simp only [List.getElem_cons_zero] at h0
      refine ⟨⟨h0.1, by omega⟩, fun j hj => ?_⟩
      have := h (j + 1) (by simpa using hj)
      simp only [List.getElem_cons_succ] at this
      exact ⟨this.1, by omega⟩
theorem isG_ok {g : Grp} : isG g = true ↔ g.Ok := by
  unfold isG
  rw [Bool.and_eq_true, dlB_get]
  constructor
  · rintro ⟨h1, h2⟩
    refine ⟨⟨h2, fun e he => ?_, fun e he => ?_, ?_⟩, dl_get.2 fun j hj => (h1 j hj).2⟩
    · obtain ⟨j, hj, rfl⟩ := List.getElem_of_mem he; exact (h1 j hj).1
    · obtain ⟨j, hj, rfl⟩ := List.getElem_of_mem he; have := (h1 j hj).2; omega
    · rw [List.pairwise_iff_getElem]
      intro i j hi hj hij
      have a := (h1 i hi).2
      have b := (h1 j hj).2
      omega
  · rintro ⟨h1, h2⟩
    exact ⟨fun j hj => ⟨h1.ok _ (List.getElem_mem hj), dl_get.1 h2 j hj⟩, h1.hd⟩
structure IsJ (s : AState) (g : Grp) (k : Nat) (s' : AState) : Prop where
  b0 : s'.get s.n = .cells g.cells
  b1 : s'.get (s.n + 1) = .cells [.v (.bool false)]
  b2 : s'.get (s.n + 2) = .cells [.v (.int .i64 (g.fi + k))]
  b3 : s'.get (s.n + 3) = .cells [.sl (g.es.map Ent.av) .no]
  n : s.n + 6 ≤ s'.n
  gr : Grows s s'
  dn : ∀ j (h : j < g.es.length), j < k → okEnt g.es[j] = true ∧ g.es[j].ix = g.fi + (j : Int)
def ofS (M : List (Int × Grp)) (g : Grp) : List (Int × Grp) := if (lk M g.id).isSome = true ∨ isG g = false then M else putL M g.id g
def ofM (l : List Grp) : List (Int × Grp) := l.foldl ofS []
theorem ofS_ok {B : Nat} {M : List (Int × Grp)} (h : ManyOk B M) {g : Grp} (hl : g.es.length ≤ B) : ManyOk B (ofS M g) := by
  unfold ofS
  split
  · exact h
  · next hc =>
    simp only [not_or, Bool.not_eq_false] at hc
    exact h.put (isG_ok.1 hc.2) rfl hl
theorem of_ok {B : Nat} {l : List Grp} (hl : ∀ g ∈ l, g.es.length ≤ B) {M : List (Int × Grp)} (h : ManyOk B M) : ManyOk B (l.foldl ofS M) := by
  induction l generalizing M with
  | nil => exact h
  | cons g l ih => exact ih (fun x hx => hl x (by simp [hx])) (ofS_ok h (hl g (by simp)))
structure OfI (s : AState) (l : List Grp) (k : Nat) (s' : AState) : Prop where
  old : ∀ x, x < s.n → s'.get x = s.get x
  n : s.n + 6 ≤ s'.n
  c : s'.get (s.n + 2) = .cells [.p (s.n + 1) 0]
  m : ∃ A, ManyAt s' (s.n + 1) s.n A (ofM (l.take k))
  b : s'.get (s.n + 3) = .cells [.sl (l.map Grp.av) .no]
end Go.Ab
namespace Go.Proofs.YtmfhchaoijiodaaGreat
open Go.Ab
set_option linter.unusedVariables false
set_option linter.unusedSimpArgs false
set_option maxRecDepth 100000
set_option maxHeartbeats 8000000
theorem ct_group_IsG {g : Grp} {s : AState} (hlen : g.es.length ≤ 1000000000) : Gives prog F_group_Is [g.av] s (.v (.bool (isG g))) s := by
  have hMI := MI_eq
  refine Runs.gives' (runs_e h_group_Is (Nat.le_of_ble_eq_true rfl) ?_) (.v _)
  repeat (first | simp -dsimp -implicitDefEqProofs (disch := first | omega | (simp <;> omega) | fail) | ((with_reducible first | apply m_1 | apply m_0); (focus ((conv => lhs; simp -dsimp -implicitDefEqProofs (disch := first | omega | (simp <;> omega) | fail)); done))) | ((with_reducible first | apply i_T | apply g_T); (focus (simp -dsimp -implicitDefEqProofs (disch := first | omega | (simp <;> omega) | fail); done))) | ((with_reducible first | apply i_F | apply g_F); (focus (simp -dsimp -implicitDefEqProofs (disch := first | omega | (simp <;> omega) | fail); done))))
  refine gv (ct_slices_Values_Entry (xs := g.es.map Ent.av)) ?_
  repeat (first | simp -dsimp -implicitDefEqProofs (disch := first | omega | (simp <;> omega) | fail) | ((with_reducible first | apply m_1 | apply m_0); (focus ((conv => lhs; simp -dsimp -implicitDefEqProofs (disch := first | omega | (simp <;> omega) | fail)); done))) | ((with_reducible first | apply i_T | apply g_T); (focus (simp -dsimp -implicitDefEqProofs (disch := first | omega | (simp <;> omega) | fail); done))) | ((with_reducible first | apply i_F | apply g_F); (focus (simp -dsimp -implicitDefEqProofs (disch := first | omega | (simp <;> omega) | fail); done))))
  have hit := it_slices_Values_Entry g.es (s.n + 3) (by omega)
  have hsn : ((((s.alloc (.cells g.cells)).alloc (.cells [.v (.bool false)])).alloc (.cells [.v (.int .i64 g.fi)])).alloc (.cells [.sl (g.es.map Ent.av) .no])).n = s.n + 4 := by simp
  refine w_rangeS (m := g.es.length) (by simp) hit (by intro x hx; obtain ⟨p, _, rfl⟩ := List.mem_map.1 hx; rfl) (by simp) (fun k s' => IsJ s g k s')
    (fun j s' => j = .ret ∧ s'.get (s.n + 1) = .cells [.v (.bool false)] ∧ s.n + 6 ≤ s'.n ∧ Grows s s' ∧ isG g = false) ?_ ?_ ?_ ?_ ?_ ?_ ?_
  · intro LR
    exact ⟨dz0, dz0, dz0, dz0, by simp, ((((((Grows.refl _).alloc _).alloc _).alloc _).alloc _).alloc _).alloc _, fun x hx h => by omega⟩
  · intro k s' hI; exact hI.b3
  · rintro k s' o hn ⟨b0, b1, b2, b3, n, gr, dn⟩
    exact ⟨dz1 b0, dz1 b1, dz1 b2, by simp (disch := first | omega | (simp <;> omega) | fail) [b3], by simp; omega, gr.alloc _, dn⟩
  · rintro j s' o hn ⟨rfl, b1, n, gr, dn⟩
    exact ⟨rfl, dz1 b1, by simp; omega, gr.alloc _, dn⟩
  · intro LR LB LJ hLB hLR k hk s' hd hLL hln hI
    have hk' : k < g.es.length := by simpa using hk
    obtain ⟨b0, b1, b2, b3, n, gr, dn⟩ := hI
    simp only [hsn, List.getElem_map, List.zip_cons_cons, List.zip_nil_right, List.reverse_cons, List.reverse_nil, List.nil_append, List.cons_append] at hd hLL hln ⊢
    have bad : ¬ (okEnt g.es[k] = true ∧ g.es[k].ix = g.fi + (k : Int)) → isG g = false := fun h => by
      rw [Bool.eq_false_iff]; intro h'
      unfold isG at h'
      rw [Bool.and_eq_true, dlB_get] at h'
      exact h (h'.1 k hk')
    have hdn : okEnt g.es[k] = true ∧ g.es[k].ix = g.fi + (k : Int) → ∀ j (h : j < g.es.length), j < k + 1 → okEnt g.es[j] = true ∧ g.es[j].ix = g.fi + (j : Int) := fun h j hj hjk => by
      by_cases e : j = k
      · subst e; exact h
      · exact dn j hj (by omega)
    generalize hxe : g.es[k] = x at bad hdn ⊢
    have gJ := gr.n
    cases hok : okEnt x with
    | false =>
      have hb := bad (by rw [hok]; simp)
      refine st4c1 @ct_part_IsEntry b1 b2 hLL hok ?_
      refine fins_j (fun d hd' => by cases hd'; simp (disch := first | omega | (simp <;> omega) | fail) [hd]) (dz0) ⟨rfl, dz0, by simp; omega, ?_, hb⟩
      exact (((gr.set _ (by omega) (by omega)).set _ (by omega) (by simp; omega)).set _ (by omega) (by simp; omega)).alloc _
    | true =>
      have hxo := (okEnt_iff.1 hok).1
      by_cases he : x.ix = g.fi + (k : Int)
      · have hw : IntKind.wrap .i64 (g.fi + (k : Int) + 1) = g.fi + ((k + 1 : Nat) : Int) := by rw [wrap_i64 (by omega) (by omega)]; omega
        refine st6c1 @ct_part_IsEntry b1 b2 hLL hok he hw ?_
        refine fins_n (fun d hd' => by cases hd'; simp (disch := first | omega | (simp <;> omega) | fail) [hd]) (dz0) ⟨dz1 b0, dz1 b1, dz0, dz1 b3, by simp; omega, ?_, hdn ⟨hok, he⟩⟩
        exact (((gr.set _ (by omega) (by omega)).set _ (by omega) (by simp; omega)).set _ (by omega) (by simp; omega)).alloc _
      · have hb := bad (fun h => he h.2)
        refine st5c1 @ct_part_IsEntry b1 b2 hLL hok he ?_
        refine fins_j (fun d hd' => by cases hd'; simp (disch := first | omega | (simp <;> omega) | fail) [hd]) (dz0) ⟨rfl, dz0, by simp; omega, ?_, hb⟩
        exact (((gr.set _ (by omega) (by omega)).set _ (by omega) (by simp; omega)).set _ (by omega) (by simp; omega)).alloc _
  · rintro s' hd hln ⟨b0, b1, b2, b3, n, gr, dn⟩
    simp only [hsn] at hd hln ⊢
    have gJ := gr.n
    have hG : isG g = okHead g := by
      unfold isG
      rw [dlB_get.2 (fun j hj => dn j hj hj), Bool.true_and]
    refine st2c1 @ct_group_Head b0 b1 ?_
    have hD : Dfs s.n ((s'.set (s.n + 4 + 1) .dead).set (s.n + 1) (.cells [.v (.bool (okHead g))])) [s.n + 4] := Dfs.cons (.nil _ _) (by omega) (by simp (disch := first | omega | (simp <;> omega) | fail) [hd]) (by simp)
    refine ret_okD (fun x hx => (hD.1 x hx).2) hD.2 (by simp (disch := first | omega | (simp <;> omega) | fail) [killAll]; rfl) ⟨killAll_grows ((gr.set _ (by omega) (by omega)).set _ (by omega) (by simp; omega)) (Nat.le_refl _) hD, ?_⟩
    rw [hG]; simp [retVal]; exact .refl _
  · rintro j s' hd hln ⟨rfl, b1, n, gr, dn⟩
    simp only [hsn] at hd hln ⊢
    have gJ := gr.n
    repeat (first | simp -dsimp -implicitDefEqProofs (disch := first | omega | (simp <;> omega) | fail) [AJump.exitOf] | ((with_reducible first | apply m_1 | apply m_0); (focus ((conv => lhs; simp -dsimp -implicitDefEqProofs (disch := first | omega | (simp <;> omega) | fail) [AJump.exitOf]); done))) | ((with_reducible first | apply i_T | apply g_T); (focus (simp -dsimp -implicitDefEqProofs (disch := first | omega | (simp <;> omega) | fail) [AJump.exitOf]; done))) | ((with_reducible first | apply i_F | apply g_F); (focus (simp -dsimp -implicitDefEqProofs (disch := first | omega | (simp <;> omega) | fail) [AJump.exitOf]; done))))
    have hD : Dfs s.n (s'.set (s.n + 4 + 1) .dead) [s.n + 4] := Dfs.cons (.nil _ _) (by omega) (by simp (disch := first | omega | (simp <;> omega) | fail) [hd]) (by simp)
    refine ret_okD (fun x hx => (hD.1 x hx).2) hD.2 (by simp (disch := first | omega | (simp <;> omega) | fail) [killAll, b1]; rfl) ⟨killAll_grows (gr.set _ (by omega) (by omega)) (Nat.le_refl _) hD, ?_⟩
    rw [dn]; simp [retVal]; exact .refl _
theorem ofM_snoc {l : List Grp} {k : Nat} (h : k < l.length) : ofM (l.take (k + 1)) = ofS (ofM (l.take k)) l[k] := by
  have e : l.take (k + 1) = l.take k ++ [l[k]] := (List.take_append_getElem h).symm
  unfold ofM; rw [e, List.foldl_append]; rfl
theorem rn_many_Of {l : List Grp} {s : AState} {B : Nat} (hl : l.length ≤ 1000000) (hes : ∀ g ∈ l, g.es.length ≤ B) (hB : B ≤ 1000000) :
    Runs (compCode prog) prog F_many_Of [.sl (l.map Grp.av) .no] s (fun x s' => x = .p (s.n + 1) 0 ∧ (∀ x, x < s.n → s'.get x = s.get x) ∧ s.n + 2 ≤ s'.n ∧ ∃ A, ManyAt s' (s.n + 1) s.n A (ofM l)) := by
  refine runs_e h_many_Of (Nat.le_of_ble_eq_true rfl) ?_
  refine st0 ?_
  refine rn0 (rn_many_New) ?_
  rintro _ s1 ⟨rfl, rfl⟩
  refine st0 ?_
  refine gv (ct_slices_Values_Group (xs := l.map Grp.av)) ?_
  refine st0 ?_
  have hsn : ((((s.alloc (.map [])).alloc (.cells [.m s.n])).alloc (.cells [.p (s.n + 1) 0])).alloc (.cells [.sl (l.map Grp.av) .no])).n = s.n + 4 := by simp
  refine w_rangeS (m := l.length) (by simp) (it_slices_Values_Group l (s.n + 3) (by omega)) (by intro x hx; obtain ⟨p, _, rfl⟩ := List.mem_map.1 hx; rfl) (by simp) (fun k s' => OfI s l k s') (fun j s' => False) ?_ ?_ ?_ ?_ ?_ ?_ ?_
  · intro LR
    exact ⟨fun x hx => dz0, by simp, dz0, ⟨[], dz0, by simp (disch := first | omega | (simp <;> omega) | fail) [encM], Rep.nil⟩, dz0⟩
  · intro k s' h; exact h.b
  · rintro k s' o hn ⟨old, n, c, ⟨A, m⟩, b⟩
    exact ⟨fun x hx => dz1 (old x hx), by simp; omega, dz1 c, ⟨A, m.keep fun x hx => by rcases hx with rfl | rfl <;> simp (disch := first | omega | (simp <;> omega) | fail)⟩, dz1 b⟩
  · intro j s' o hn h; exact h.elim
  · intro LR LB LJ hLB hLR k hk s' hd hLL hln hI
    have hk' : k < l.length := by simpa using hk
    obtain ⟨old, n, c, ⟨A, m⟩, b⟩ := hI
    simp only [hsn, List.getElem_map, List.zip_cons_cons, List.zip_nil_right, List.reverse_cons, List.reverse_nil, List.nil_append, List.cons_append] at hd hLL hln ⊢
    have hbl := hes _ (List.getElem_mem hk')
    have hsnoc := ofM_snoc hk'
    generalize ofM (l.take k) = M at m hsnoc
    generalize l[k] = g at hbl hsnoc ⊢
    obtain ⟨m1, m2, m3⟩ := m
    have fin : ∀ s' A', (∀ x, x < s.n → s'.get x = s.get x) → s.n + 6 ≤ s'.n → s'.get (s.n + 2) = .cells [.p (s.n + 1) 0] → s'.get (s.n + 3) = .cells [.sl (l.map Grp.av) .no] → s'.get (s.n + 1) = .cells [.m s.n] → s'.get s.n = .map (encM Grp.av A') → Rep A' (ofS M g) → OfI s l (k + 1) s' :=
      fun s' A' k1 k2 k3 k4 k5 k6 k7 => ⟨k1, k2, k3, ⟨A', by rw [hsnoc]; exact ⟨k5, k6, k7⟩⟩, k4⟩
    refine sd3 hLL c m1 ?_
    refine q_look (κ := Int) (A := A) (enc := Grp.av) (k := g.id) (b := s.n) (by simp) (dz1 m2) (by simp; rfl) ?_
    unfold lkV
    rw [m3.lk]
    have hlk := m3.lk g.id
    cases hk : lk M g.id with
    | some y =>
      have ho : ofS M g = M := by unfold ofS; rw [if_pos (.inl (by rw [hk]; rfl))]
      rw [ho] at fin
      refine sd3 hLL c m1 ?_
      refine ⟨.of_ext (AState.ext_alloc _ _), ?_⟩
      refine sd3 hLL c m1 ?_
      refine fins_n (fun d hd' => by cases hd'; simp (disch := first | omega | (simp <;> omega) | fail) [hd]) (dz0) (fin _ A (fun x hx => dz1 (old x hx)) (by simp; omega) (dz1 c) (dz1 b) (dz1 m1) (dz1 m2) m3)
    | none =>
      refine sd3 hLL c m1 ?_
      refine ⟨.of_ext (AState.ext_alloc _ _), ?_⟩
      refine sd3 hLL c m1 ?_
      refine gv (ct_group_IsG (g := g) (by omega)) ?_
      cases hg : isG g with
      | false =>
        have ho : ofS M g = M := by unfold ofS; rw [if_pos (.inr hg)]
        rw [ho] at fin
        refine sd4 hg hLL c m1 ?_
        refine fins_n (fun d hd' => by cases hd'; simp (disch := first | omega | (simp <;> omega) | fail) [hd]) (dz0) (fin _ A (fun x hx => dz1 (old x hx)) (by simp; omega) (dz1 c) (dz1 b) (dz1 m1) (dz1 m2) m3)
      | true =>
        have ho : ofS M g = putL M g.id g := by unfold ofS; rw [if_neg (by rw [hk, hg]; simp)]
        rw [ho] at fin
        refine sd4 hg hLL c m1 ?_
        refine gv (ct_many_copied (g := g) (by omega)) ?_
        refine sd4 hg hLL c m1 ?_
        refine q_mset (κ := Int) (A := A) (k := g.id) (v := g) (b := s.n) (enc := Grp.av) (by simp) (dz1 m2) (by simp; rfl) (by simp) ?_
        refine sd1 hLL ?_
        refine fins_n (fun d hd' => by cases hd'; simp (disch := first | omega | (simp <;> omega) | fail) [hd]) (dz0) (fin _ (setM A g.id g) (fun x hx => dz1 (old x hx)) (by simp; omega) (dz1 c) (dz1 b) (dz1 m1) (dz0) (m3.set _ _))
  · rintro s' hd hln ⟨old, n, c, ⟨A, m⟩, b⟩
    simp only [hsn] at hd hln ⊢
    rw [List.take_length] at m
    refine st1 c ?_
    refine ret_okD (by simp (disch := first | omega | (simp <;> omega) | fail) [hd]) (by simp) rfl ⟨by simp [retVal], fun x hx => by simp (disch := first | omega | (simp <;> omega) | fail) [killAll, old x hx], by simp [killAll]; omega, A, m.keep fun x hx => by rcases hx with rfl | rfl <;> simp (disch := first | omega | (simp <;> omega) | fail) [killAll]⟩
  · intro j s' _ _ h; exact h.elim
end Go.Proofs.YtmfhchaoijiodaaGreat
end
section
namespace Go.Ab
set_option linter.unusedVariables false
def appP (g i : Int) (d : ByteArray) : Prt := ⟨g, 1, [⟨i, 3, d⟩], 0, 0, 0, 0, 0, false, false⟩
def desP (g : Int) : Prt := ⟨g, 5, [], 0, 0, 0, 0, 0, false, false⟩
def kL1 : List Prt := [appP 5 1 ⟨#[97]⟩, appP 2 1 ⟨#[98]⟩]
def kL3 : List Prt := [appP 5 2 ⟨#[99]⟩, appP 5 9 ⟨#[100]⟩]
def kL5 : List Prt := [⟨5, 4, [], 0, 0, 0, 1, 3, false, false⟩]
def kM : List (Int × Grp) := [(2, ⟨2, 1, 0, 0, 0, 0, [⟨1, 3, ⟨#[98]⟩⟩]⟩), (5, ⟨5, 1, 0, 0, 0, 0, [⟨1, 3, ⟨#[97]⟩⟩]⟩)]
theorem k1 : triedE [] kL1 = 0 ∧ doM [] kL1 = kM := by decide +kernel
theorem k2 : triedE kM [desP 9] = 13 ∧ doM kM [desP 9] = kM := by decide +kernel
theorem k3 : triedE kM kL3 = 14 ∧ doM kM kL3 = kM := by decide +kernel
theorem k4 : triedE kM [] = 11 ∧ doM kM [] = kM := by decide +kernel
theorem k5 : lk kM 5 = some ⟨5, 1, 0, 0, 0, 0, [⟨1, 3, ⟨#[97]⟩⟩]⟩ ∧ lk kM 9 = none := by decide +kernel
theorem k6 : outL kM kL5 = [⟨5, 3, [], 0, 0, 0, 1, 3, false, false⟩] := by decide +kernel
theorem k7 : triedE kM [desP 2] = 0 ∧ decide (doM kM [desP 2] = kM) = false := by decide +kernel
theorem k8 : triedE kM [appP 2 2 ⟨#[120]⟩] = 0 := by decide +kernel
theorem k9 : ofM (grpsM kM) = kM := by decide +kernel
def kG2 : Grp := ⟨2, 1, 0, 0, 0, 0, [⟨1, 3, ⟨#[98]⟩⟩]⟩
def kG5 : Grp := ⟨5, 1, 0, 0, 0, 0, [⟨1, 3, ⟨#[97]⟩⟩]⟩
theorem kg : grpsM kM = [kG2, kG5] := rfl
theorem kOk : ManyOk 24 kM := by have := (ManyOk.nil 0).doM kL1; rwa [k1.2] at this
end Go.Ab
namespace Go.Proofs.YtmfhchaoijiodaaGreat
open Go.Ab
set_option linter.unusedVariables false
set_option linter.unusedSimpArgs false
set_option maxRecDepth 100000
set_option maxHeartbeats 1000000
section
variable {P : Program} {g : FuncId} {args : List AV} {s : AState} {R K : AV → AState → Prop}
theorem runT (h : Runs (compCode P) P g (args.map AV.strip) s R) (k : ∀ x s', R x s' → K x s') : Lruns (compCode P) P g args s K .a := run (Runs.strip h) rfl k
theorem runU {args' : List AV} (h : Runs (compCode P) P g args' s R) (ha : args.map AV.strip = args') (k : ∀ x s', R x s' → K x s') : Lruns (compCode P) P g args s K .a := runT (ha ▸ h) k
end
theorem ct_ladelaw7_app {g i : Int} {d : ByteArray} {s : AState} : Gives prog F_ladelaw7_app [.v (.int .i64 g), .v (.int .i64 i), .v (.string d)] s (appP g i d).av s := by
  refine Runs.gives' (runs_e h_ladelaw7_app (Nat.le_of_ble_eq_true rfl) ?_) (Prt.row _).flat
  refine st0 ?_
  refine ret_ok (by simp; rfl) ⟨(Grows.refl _).alloc _, ?_⟩
  simp [retVal]
  exact AV.le_strip _
structure MkI (s : AState) (n : Nat) (b mb : Nat) (M : List (Int × Grp)) (s' : AState) : Prop where
  old : ∀ x, x < s.n → s'.get x = s.get x
  n : s.n + n ≤ s'.n
  hb : s.n ≤ b
  hm : s.n ≤ mb
  m : ∃ A, ManyAt s' b mb A M
theorem MkI.alloc {s : AState} {n b mb : Nat} {M : List (Int × Grp)} {s' : AState} (h : MkI s n b mb M s') (o : AObj) : MkI s n b mb M (s'.alloc o) := by
  obtain ⟨old, n, hb, hm, A, m⟩ := h
  obtain ⟨l1, l2, l3⟩ := m.lt
  exact ⟨fun x hx => dz1 (old x hx), by simp; omega, hb, hm, A, m.keep fun x hx => by rcases hx with rfl | rfl <;> simp (disch := first | omega | (simp <;> omega) | fail)⟩
theorem MkI.doR {s : AState} {n b mb : Nat} {M : List (Int × Grp)} {s' : AState} (h : MkI s n b mb M s') {B : Nat} (hM : ManyOk B M) {l : List Prt} (hB : B + 6 * l.length ≤ 1000000) (hl : l.length ≤ 1000) (hes : ∀ p ∈ l, p.es.length ≤ 1000000) :
    Runs (compCode prog) prog F_many_Many_Do [.p b 0, .sl (l.map Prt.av) .no] s' (fun x s'' => x = .v (.int .i64 (triedE M l)) ∧ ∃ mb', MkI s n b mb' (doM M l) s'' ∧ (∀ x, x < s'.n → x ≠ b → s''.get x = s'.get x) ∧ s'.n ≤ s''.n ∧ (mb' = mb ∨ s'.n ≤ mb')) := by
  obtain ⟨old, n1, hb, hm, A, m⟩ := h
  refine (rn_many_Many_Do m hM hB hl hes).mono ?_
  rintro x s'' ⟨rfl, k1, k2, mb', A', k3, k4⟩
  exact ⟨rfl, mb', ⟨fun x hx => (k1 x (by omega) (by omega)).trans (old x hx), by omega, hb, by omega, A', k4⟩, k1, k2, k3⟩
theorem MkI.newR {s : AState} : Runs (compCode prog) prog F_many_New [] s (fun x s' => x = .p (s.n + 1) 0 ∧ MkI s 2 (s.n + 1) s.n [] s') :=
  rn_many_New.mono fun x s' ⟨h1, h2⟩ => ⟨h1, by subst h2; exact ⟨fun x hx => dz0, by simp, by omega, Nat.le_refl _, [], dz0, by simp (disch := first | omega | (simp <;> omega) | fail) [encM], Rep.nil⟩⟩
section
variable {s s' s'' : AState} {n b mb c B : Nat} {M : List (Int × Grp)}
theorem MkI.lt (h : MkI s n b mb M s') : b < s'.n ∧ mb < s'.n ∧ b ≠ mb := by obtain ⟨A, m⟩ := h.m; exact m.lt
theorem MkI.keep (h : MkI s n b mb M s') (k : ∀ x, x < s'.n → x ≠ c → s''.get x = s'.get x) (hn : s'.n ≤ s''.n) (h1 : b ≠ c) (h2 : mb ≠ c) (hc : s.n ≤ c) : MkI s n b mb M s'' := by
  obtain ⟨l1, l2, l3⟩ := h.lt
  obtain ⟨old, n, hb, hm, A, m⟩ := h
  exact ⟨fun x hx => (k x (by omega) (by omega)).trans (old x hx), by omega, hb, hm, A, m.keep fun x hx => by rcases hx with rfl | rfl <;> exact k _ (by omega) (by omega)⟩
theorem MkI.getR {i : Int} (h : MkI s n b mb M s') (hM : ManyOk B M) (hB : B ≤ 1000000) : Gives prog F_many_Many_Get [.p b 0, .v (.int .i64 i)] s' (.tup [((lk M i).getD zeroG').av, .v (.bool (lk M i).isSome)]) s' := by
  obtain ⟨A, m⟩ := h.m; exact ct_many_Many_Get m hM hB
theorem MkI.allR (h : MkI s n b mb M s') (hM : ManyOk B M) (hB : B ≤ 1000000) : Gives prog F_many_Many_All [.p b 0] s' (.sl ((grpsM M).map Grp.av) .no) s' := by
  obtain ⟨A, m⟩ := h.m; exact ct_many_Many_All m hM hB
theorem MkI.settleR {l : List Prt} (h : MkI s n b mb M s') (hM : ManyOk B M) (hB : B + 6 * l.length ≤ 1000000) (hl : l.length ≤ 1000) (hes : ∀ p ∈ l, p.es.length ≤ 1000000) :
    Gives prog F_many_Many_Settle [.p b 0, .sl (l.map Prt.av) .no] s' (.sl ((outL M l).map Prt.av) .no) s' := by
  obtain ⟨A, m⟩ := h.m; exact ct_many_Many_Settle m hM hB hl hes
theorem MkI.checkR {l : List Prt} (h : MkI s n b mb M s') (hM : ManyOk B M) (hB : B + 6 * l.length ≤ 1000000) (hl : l.length ≤ 1000) (hes : ∀ p ∈ l, p.es.length ≤ 1000000) :
    Gives prog F_many_Many_Check [.p b 0, .sl (l.map Prt.av) .no] s' (.v (.int .i64 (triedE M l))) s' := by
  obtain ⟨A, m⟩ := h.m; exact ct_many_Many_Check m hM hB hl hes
theorem MkI.copyR (h : MkI s n b mb M s') : Runs (compCode prog) prog F_many_Many_Copy [.p b 0] s' (fun x s'' => x = .p (s'.n + 1) 0 ∧ MkI s n b mb M s'' ∧ MkI s n (s'.n + 1) s'.n M s'' ∧ (∀ x, x < s'.n → s''.get x = s'.get x) ∧ s''.n = s'.n + 2) := by
  have h0 := h
  obtain ⟨old, n1, hb, hm, A, m⟩ := h
  refine (rn_many_Many_Copy m).mono ?_
  rintro _ s2 ⟨rfl, rfl⟩
  exact ⟨rfl, (h0.alloc _).alloc _, ⟨fun x hx => dz1 (old x hx), by simp; omega, by omega, by omega, A, dz0, dz0, m.r⟩, fun x hx => dz0, by simp⟩
theorem MkI.sameR {b2 mb2 : Nat} {M2 : List (Int × Grp)} (h : MkI s n b mb M s') (h2 : MkI s n b2 mb2 M2 s') (hne : mb ≠ mb2) (hM : ManyOk B M) (hB : B ≤ 1000000) : Gives prog F_many_Same [.p b 0, .p b2 0] s' (.v (.bool (decide (M = M2)))) s' := by
  obtain ⟨A, m⟩ := h.m; obtain ⟨A2, m2⟩ := h2.m; exact ct_many_Same m m2 hne hM hB
end
theorem ct_ladelaw7_known {s : AState} : Gives prog F_ladelaw7_known [] s (.v (.bool true)) s := by
  refine Runs.gives (runs_e h_ladelaw7_known (Nat.le_of_ble_eq_true rfl) ?_) (.v _)
  refine st0 ?_
  refine rn0 (MkI.newR) ?_
  rintro _ s1 ⟨rfl, i1⟩
  refine st0 ?_
  refine gv (ct_ladelaw7_app (g := 5) (i := 1) (d := ⟨#[97]⟩)) ?_
  refine st0 ?_
  refine gv (ct_ladelaw7_app (g := 2) (i := 1) (d := ⟨#[98]⟩)) ?_
  refine st0 ?_
  refine runT (i1.doR (ManyOk.nil 0) (l := kL1) (by decide) (by decide) (by decide)) ?_
  rw [k1.1, k1.2]
  rintro _ s2 ⟨rfl, mb2, i2, -, -, -⟩
  refine st0 ?_
  refine runT (i2.doR kOk (l := [desP 9]) (by decide) (by decide) (by decide)) ?_
  rw [k2.1, k2.2]
  rintro _ s3 ⟨rfl, mb3, i3, -, -, -⟩
  refine st0 ?_
  refine gv (ct_ladelaw7_app (g := 5) (i := 2) (d := ⟨#[99]⟩)) ?_
  refine st0 ?_
  refine gv (ct_ladelaw7_app (g := 5) (i := 9) (d := ⟨#[100]⟩)) ?_
  refine st0 ?_
  refine runT (i3.doR kOk (l := kL3) (by decide) (by decide) (by decide)) ?_
  rw [k3.1, k3.2]
  rintro _ s4 ⟨rfl, mb4, i4, -, -, -⟩
  refine st0 ?_
  refine runT (i4.doR kOk (l := []) (by decide) (by decide) (by decide)) ?_
  rw [k4.1, k4.2]
  rintro _ s5 ⟨rfl, mb5, i5, -, -, -⟩
  refine st0 ?_
  refine gv (MkI.getR (i := 5) i5 kOk (by omega)) ?_
  rw [k5.1]
  repeat (first | simp -dsimp -implicitDefEqProofs (disch := first | omega | (simp <;> omega) | fail) | ((with_reducible first | apply m_1 | apply m_0); (focus ((conv => lhs; simp -dsimp -implicitDefEqProofs (disch := first | omega | (simp <;> omega) | fail)); done))) | ((with_reducible first | apply i_T | apply g_T); (focus (simp -dsimp -implicitDefEqProofs (disch := first | omega | (simp <;> omega) | fail); done))) | ((with_reducible first | apply i_F | apply g_F); (focus (simp -dsimp -implicitDefEqProofs (disch := first | omega | (simp <;> omega) | fail); done))))
  refine gv (MkI.getR (i := 9) (i5.alloc _) kOk (by omega)) ?_
  rw [k5.2]
  repeat (first | simp -dsimp -implicitDefEqProofs (disch := first | omega | (simp <;> omega) | fail) | ((with_reducible first | apply m_1 | apply m_0); (focus ((conv => lhs; simp -dsimp -implicitDefEqProofs (disch := first | omega | (simp <;> omega) | fail)); done))) | ((with_reducible first | apply i_T | apply g_T); (focus (simp -dsimp -implicitDefEqProofs (disch := first | omega | (simp <;> omega) | fail); done))) | ((with_reducible first | apply i_F | apply g_F); (focus (simp -dsimp -implicitDefEqProofs (disch := first | omega | (simp <;> omega) | fail); done))))
  refine gv (MkI.allR ((i5.alloc _).alloc _) kOk (by omega)) ?_
  rw [kg]
  have kid : kG2.id = 2 := rfl
  repeat (first | simp -dsimp -implicitDefEqProofs (disch := first | omega | (simp <;> omega) | fail) | ((with_reducible first | apply m_1 | apply m_0); (focus ((conv => lhs; simp -dsimp -implicitDefEqProofs (disch := first | omega | (simp <;> omega) | fail)); done))) | ((with_reducible first | apply i_T | apply g_T); (focus (simp -dsimp -implicitDefEqProofs (disch := first | omega | (simp <;> omega) | fail); done))) | ((with_reducible first | apply i_F | apply g_F); (focus (simp -dsimp -implicitDefEqProofs (disch := first | omega | (simp <;> omega) | fail); done))))
  refine giv (MkI.settleR (l := kL5) ((i5.alloc _).alloc _) kOk (by decide) (by decide) (by decide)) (by simp [kL5]; rfl) ?_
  rw [k6]
  repeat (first | simp -dsimp -implicitDefEqProofs (disch := first | omega | (simp <;> omega) | fail) | ((with_reducible first | apply m_1 | apply m_0); (focus ((conv => lhs; simp -dsimp -implicitDefEqProofs (disch := first | omega | (simp <;> omega) | fail)); done))) | ((with_reducible first | apply i_T | apply g_T); (focus (simp -dsimp -implicitDefEqProofs (disch := first | omega | (simp <;> omega) | fail); done))) | ((with_reducible first | apply i_F | apply g_F); (focus (simp -dsimp -implicitDefEqProofs (disch := first | omega | (simp <;> omega) | fail); done))))
  refine run (MkI.copyR ((i5.alloc _).alloc _)) (by simp) ?_
  rintro _ s6 ⟨rfl, i6, j6, q6, n6⟩
  have c1 : s6.get s5.n = .cells (Grp.cells ⟨5, 1, 0, 0, 0, 0, [⟨1, 3, ⟨#[97]⟩⟩]⟩) := (q6 _ (by simp <;> omega)).trans (by simp (disch := first | omega | (simp <;> omega) | fail) [Grp.cells, Ent.av, Ent.cells])
  simp at n6
  have b6 := i6.lt
  refine st0 ?_
  have ln5 := i5.n
  have lt5 := i5.lt
  refine runT (j6.doR kOk (l := [desP 2]) (by decide) (by decide) (by decide)) ?_
  rw [k7.1]
  rintro _ s7 ⟨rfl, mb7, j7, q7, n7, o7⟩
  simp at q7 n7 o7
  have i7 : MkI s 2 (s.n + 1) mb5 kM s7 := i6.keep (c := s5.n + 1 + 1 + 1) q7 n7 (by omega) (by omega) (by omega)
  have c2 : s7.get s5.n = .cells (Grp.cells ⟨5, 1, 0, 0, 0, 0, [⟨1, 3, ⟨#[97]⟩⟩]⟩) := (q7 _ (by omega) (by omega)).trans c1
  unfold Grp.cells at c2
  refine st2 c2 kid ?_
  have k72 : (doM kM [desP 2] = kM) ↔ False := by have := k7.2; simpa using this
  refine giv (MkI.sameR j7 i7 (by omega) (kOk.doM _) (by omega)) (by simp) ?_
  rw [k7.2]
  refine st0 ?_
  refine run (MkI.copyR i7) (by simp) ?_
  rintro _ s8 ⟨rfl, i8, j8, q8, n8⟩
  refine st0 ?_
  have lt7 := i7.lt
  refine giv (MkI.sameR i8 j8 (by omega) kOk (by omega)) (by simp) ?_
  rw [decide_eq_true rfl]
  refine st0 ?_
  refine gv (ct_ladelaw7_app (g := 2) (i := 2) (d := ⟨#[120]⟩)) ?_
  refine st0 ?_
  refine giv (MkI.checkR (l := [appP 2 2 ⟨#[120]⟩]) i8 kOk (by decide) (by decide) (by decide)) (by simp) ?_
  rw [k8]
  refine st0 ?_
  refine runT ((rn_many_Of (l := [kG2, kG5]) (B := 24) (s := s8) (by decide) (by decide) (by omega)).mono (fun x s' h => h)) ?_
  rintro _ s9 ⟨rfl, q9, n9, A9, m9⟩
  rw [show ofM [kG2, kG5] = kM from k9] at m9
  refine st0 ?_
  refine gv (ct_many_Many_All m9 kOk (by omega)) ?_
  rw [kg]
  refine st0 ?_
  refine ret_ok rfl ⟨⟨by have := i8.n; omega, fun x hx => .inl ?_⟩, .refl _⟩
  rw [q9 x (by have := i8.n; omega), i8.old x hx]
end Go.Proofs.YtmfhchaoijiodaaGreat
end
section
namespace Go.Proofs.YtmfhchaoijiodaaGreat
open Go.Ab
set_option linter.unusedVariables false
set_option linter.unusedSimpArgs false
set_option maxRecDepth 100000
set_option maxHeartbeats 1000000
theorem ct_ladelaw7_ManyWhole {gs : List Grp} {l : List Prt} {s : AState} (hg : (gs.length : Int) < 9223372036854775808) (hge : ∀ g ∈ gs, (g.es.length : Int) < 9223372036854775808) (hl : (l.length : Int) < 9223372036854775808) (hle : ∀ p ∈ l, (p.es.length : Int) < 9223372036854775808) : Gives prog F_ladelaw7_ManyWhole [.sl (gs.map Grp.av) .no, .sl (l.map Prt.av) .no] s (.v (.bool true)) s := by
  refine Runs.gives (runs_e h_ladelaw7_ManyWhole (Nat.le_of_ble_eq_true rfl) ?_) (.v _)
  repeat (first | simp -dsimp -implicitDefEqProofs (disch := first | omega | (simp <;> omega) | fail) | ((with_reducible first | apply m_1 | apply m_0); (focus ((conv => lhs; simp -dsimp -implicitDefEqProofs (disch := first | omega | (simp <;> omega) | fail)); done))) | ((with_reducible first | apply i_T | apply g_T); (focus (simp -dsimp -implicitDefEqProofs (disch := first | omega | (simp <;> omega) | fail); done))) | ((with_reducible first | apply i_F | apply g_F); (focus (simp -dsimp -implicitDefEqProofs (disch := first | omega | (simp <;> omega) | fail); done))))
  refine giv (ct_ladelaw7_known) (by first | (simp; done) | rfl | (simp; rfl)) ?_
  by_cases c1 : 6 < (gs.length : Int)
  · repeat (first | simp -dsimp -implicitDefEqProofs (disch := first | omega | (simp <;> omega) | fail) [c1] | ((with_reducible first | apply m_1 | apply m_0); (focus ((conv => lhs; simp -dsimp -implicitDefEqProofs (disch := first | omega | (simp <;> omega) | fail) [c1]); done))) | ((with_reducible first | apply i_T | apply g_T); (focus (simp -dsimp -implicitDefEqProofs (disch := first | omega | (simp <;> omega) | fail) [c1]; done))) | ((with_reducible first | apply i_F | apply g_F); (focus (simp -dsimp -implicitDefEqProofs (disch := first | omega | (simp <;> omega) | fail) [c1]; done))))
    exact ret_ok rfl ⟨.refl _, .refl _⟩
  cases fw : fewParts l with
  | false =>
    repeat (first | simp -dsimp -implicitDefEqProofs (disch := first | omega | (simp <;> omega) | fail) [c1, fw] | ((with_reducible first | apply m_1 | apply m_0); (focus ((conv => lhs; simp -dsimp -implicitDefEqProofs (disch := first | omega | (simp <;> omega) | fail) [c1, fw]); done))) | ((with_reducible apply giv); (case hAR => ((conv => lhs; simp -dsimp -implicitDefEqProofs (disch := first | omega | (simp <;> omega) | fail) [c1, fw]); done)); (case hCT => (first | (apply ct_ladelaw7_fewParts <;> first | assumption | omega | decide)))) | ((with_reducible first | apply i_T | apply g_T); (focus (simp -dsimp -implicitDefEqProofs (disch := first | omega | (simp <;> omega) | fail) [c1, fw]; done))) | ((with_reducible first | apply i_F | apply g_F); (focus (simp -dsimp -implicitDefEqProofs (disch := first | omega | (simp <;> omega) | fail) [c1, fw]; done))))
    exact ret_ok rfl ⟨.refl _, .refl _⟩
  | true =>
  repeat (first | simp -dsimp -implicitDefEqProofs (disch := first | omega | (simp <;> omega) | fail) [c1, fw] | ((with_reducible first | apply m_1 | apply m_0); (focus ((conv => lhs; simp -dsimp -implicitDefEqProofs (disch := first | omega | (simp <;> omega) | fail) [c1, fw]); done))) | ((with_reducible apply giv); (case hAR => ((conv => lhs; simp -dsimp -implicitDefEqProofs (disch := first | omega | (simp <;> omega) | fail) [c1, fw]); done)); (case hCT => (first | (apply ct_ladelaw7_fewParts <;> first | assumption | omega | decide)))) | ((with_reducible first | apply i_T | apply g_T); (focus (simp -dsimp -implicitDefEqProofs (disch := first | omega | (simp <;> omega) | fail) [c1, fw]; done))) | ((with_reducible first | apply i_F | apply g_F); (focus (simp -dsimp -implicitDefEqProofs (disch := first | omega | (simp <;> omega) | fail) [c1, fw]; done))))
  obtain ⟨hl6, hl8⟩ := fewParts_len fw
  refine loop_ok [0, 1, 5] (fun r a s1 => ∃ i : Nat, i + r = gs.length ∧ s = s1 ∧ (∀ j (h : j < gs.length), j < i → fewGroup gs[j] = true) ∧
    a = { t := den 82 [(0, .sl (gs.map Grp.av) .no), (1, .sl (l.map Prt.av) .no), (5, .v (.int .i64 i))], d := [] }) gs.length ?_ ?_
  · exact ⟨0, by simp, rfl, fun j h hi => by omega, by simp⟩
  rintro r a s1 ⟨i, hir, hs1, hall, rfl⟩
  subst hs1
  by_cases hlt : i < gs.length
  · have w1 : IntKind.wrap .i64 ((i : Int) + 1) = ((i + 1 : Nat) : Int) := by rw [wrap_i64 (by omega) (by omega)]; omega
    have hgi := hge _ (List.getElem_mem hlt)
    cases fg : fewGroup gs[i] with
    | false =>
      repeat (first | simp -dsimp -implicitDefEqProofs (disch := first | omega | (simp <;> omega) | fail) [hlt, fg] | ((with_reducible first | apply m_1 | apply m_0); (focus ((conv => lhs; simp -dsimp -implicitDefEqProofs (disch := first | omega | (simp <;> omega) | fail) [hlt, fg]); done))) | ((with_reducible apply giv); (case hAR => ((conv => lhs; simp -dsimp -implicitDefEqProofs (disch := first | omega | (simp <;> omega) | fail) [hlt, fg]); done)); (case hCT => (first | (apply ct_ladelaw7_fewGroup <;> first | assumption | omega | decide)))) | ((with_reducible first | apply i_T | apply g_T); (focus (simp -dsimp -implicitDefEqProofs (disch := first | omega | (simp <;> omega) | fail) [hlt, fg]; done))) | ((with_reducible first | apply i_F | apply g_F); (focus (simp -dsimp -implicitDefEqProofs (disch := first | omega | (simp <;> omega) | fail) [hlt, fg]; done))))
      exact ret_ok rfl ⟨.refl _, .refl _⟩
    | true =>
      repeat (first | simp -dsimp -implicitDefEqProofs (disch := first | omega | (simp <;> omega) | fail) [hlt, fg] | ((with_reducible first | apply m_1 | apply m_0); (focus ((conv => lhs; simp -dsimp -implicitDefEqProofs (disch := first | omega | (simp <;> omega) | fail) [hlt, fg]); done))) | ((with_reducible apply giv); (case hAR => ((conv => lhs; simp -dsimp -implicitDefEqProofs (disch := first | omega | (simp <;> omega) | fail) [hlt, fg]); done)); (case hCT => (first | (apply ct_ladelaw7_fewGroup <;> first | assumption | omega | decide)))) | ((with_reducible first | apply i_T | apply g_T); (focus (simp -dsimp -implicitDefEqProofs (disch := first | omega | (simp <;> omega) | fail) [hlt, fg]; done))) | ((with_reducible first | apply i_F | apply g_F); (focus (simp -dsimp -implicitDefEqProofs (disch := first | omega | (simp <;> omega) | fail) [hlt, fg]; done))))
      exact ⟨r - 1, by omega, i + 1, by omega, rfl, fun j h hj => by
        by_cases e : j = i
        · subst e; exact fg
        · exact hall j h (by omega), by simp [w1]⟩
  have hfew : ∀ g ∈ gs, g.es.length ≤ 30 := fun g hg => by
    obtain ⟨j, hj, rfl⟩ := List.getElem_of_mem hg
    exact fewGroup_len (hall j hj (by omega))
  have hOk : ManyOk 30 (ofM gs) := of_ok hfew (ManyOk.nil _)
  repeat (first | simp -dsimp -implicitDefEqProofs (disch := first | omega | (simp <;> omega) | fail) [hlt] | ((with_reducible first | apply m_1 | apply m_0); (focus ((conv => lhs; simp -dsimp -implicitDefEqProofs (disch := first | omega | (simp <;> omega) | fail) [hlt]); done))) | ((with_reducible first | apply i_T | apply g_T); (focus (simp -dsimp -implicitDefEqProofs (disch := first | omega | (simp <;> omega) | fail) [hlt]; done))) | ((with_reducible first | apply i_F | apply g_F); (focus (simp -dsimp -implicitDefEqProofs (disch := first | omega | (simp <;> omega) | fail) [hlt]; done))))
  refine run (rn_many_Of (l := gs) (B := 30) (by omega) hfew (by omega)) (by first | (simp; done) | rfl | (simp; rfl)) ?_
  rintro _ s1 ⟨rfl, o1, n1, A1, m1⟩
  have i1 : MkI s 2 (s.n + 1) s.n (ofM gs) s1 := ⟨o1, n1, by omega, Nat.le_refl _, A1, m1⟩
  clear m1
  generalize ofM gs = M at i1 hOk
  repeat (first | simp -dsimp -implicitDefEqProofs (disch := first | omega | (simp <;> omega) | fail) | ((with_reducible first | apply m_1 | apply m_0); (focus ((conv => lhs; simp -dsimp -implicitDefEqProofs (disch := first | omega | (simp <;> omega) | fail)); done))) | ((with_reducible first | apply i_T | apply g_T); (focus (simp -dsimp -implicitDefEqProofs (disch := first | omega | (simp <;> omega) | fail); done))) | ((with_reducible first | apply i_F | apply g_F); (focus (simp -dsimp -implicitDefEqProofs (disch := first | omega | (simp <;> omega) | fail); done))))
  refine run (i1.copyR) (by first | (simp; done) | rfl | (simp; rfl)) ?_
  rintro _ s2 ⟨rfl, i2, w2, k2, n2⟩
  repeat (first | simp -dsimp -implicitDefEqProofs (disch := first | omega | (simp <;> omega) | fail) | ((with_reducible first | apply m_1 | apply m_0); (focus ((conv => lhs; simp -dsimp -implicitDefEqProofs (disch := first | omega | (simp <;> omega) | fail)); done))) | ((with_reducible first | apply i_T | apply g_T); (focus (simp -dsimp -implicitDefEqProofs (disch := first | omega | (simp <;> omega) | fail); done))) | ((with_reducible first | apply i_F | apply g_F); (focus (simp -dsimp -implicitDefEqProofs (disch := first | omega | (simp <;> omega) | fail); done))))
  refine giv (MkI.settleR (l := l) i2 hOk (by omega) (by omega) (fun p hp => by have := hl8 p hp; omega)) (by first | rfl | (simp; rfl)) ?_
  repeat (first | simp -dsimp -implicitDefEqProofs (disch := first | omega | (simp <;> omega) | fail) | ((with_reducible first | apply m_1 | apply m_0); (focus ((conv => lhs; simp -dsimp -implicitDefEqProofs (disch := first | omega | (simp <;> omega) | fail)); done))) | ((with_reducible first | apply i_T | apply g_T); (focus (simp -dsimp -implicitDefEqProofs (disch := first | omega | (simp <;> omega) | fail); done))) | ((with_reducible first | apply i_F | apply g_F); (focus (simp -dsimp -implicitDefEqProofs (disch := first | omega | (simp <;> omega) | fail); done))))
  refine runU (i2.doR hOk (l := l) (by omega) (by omega) (fun p hp => by have := hl8 p hp; omega)) (by first | rfl | (simp; rfl)) ?_
  rintro _ s3 ⟨rfl, mb3, i3, k3, n3, e3⟩
  have w3 : MkI s 2 (s1.n + 1) s1.n M s3 := w2.keep k3 n3 (by omega) (by omega) (by omega)
  have ok3 := hOk.doM l
  by_cases ht : triedE M l = 0
  · have f4 : ∀ {b mb : Nat} {N : List (Int × Grp)} {sa sb : AState}, MkI s 2 b mb N sa → (∀ x, x < sa.n → sb.get x = sa.get x) → sa.n ≤ sb.n → MkI s 2 b mb N sb := fun {b mb N sa sb} h k hn => by
      obtain ⟨x1, x2, x3⟩ := h.lt
      exact h.keep (c := sa.n) (fun x hx _ => k x hx) hn (by omega) (by omega) (by have := h.n; omega)
    repeat (first | simp -dsimp -implicitDefEqProofs (disch := first | omega | (simp <;> omega) | fail) [ht] | ((with_reducible first | apply m_1 | apply m_0); (focus ((conv => lhs; simp -dsimp -implicitDefEqProofs (disch := first | omega | (simp <;> omega) | fail) [ht]); done))) | ((with_reducible first | apply i_T | apply g_T); (focus (simp -dsimp -implicitDefEqProofs (disch := first | omega | (simp <;> omega) | fail) [ht]; done))) | ((with_reducible first | apply i_F | apply g_F); (focus (simp -dsimp -implicitDefEqProofs (disch := first | omega | (simp <;> omega) | fail) [ht]; done))))
    refine run (w3.copyR) (by first | (simp; done) | rfl | (simp; rfl)) ?_
    rintro _ s4 ⟨rfl, w4, a4, k4, n4⟩
    have i4 := f4 i3 k4 (by omega)
    repeat (first | simp -dsimp -implicitDefEqProofs (disch := first | omega | (simp <;> omega) | fail) | ((with_reducible first | apply m_1 | apply m_0); (focus ((conv => lhs; simp -dsimp -implicitDefEqProofs (disch := first | omega | (simp <;> omega) | fail)); done))) | ((with_reducible first | apply i_T | apply g_T); (focus (simp -dsimp -implicitDefEqProofs (disch := first | omega | (simp <;> omega) | fail); done))) | ((with_reducible first | apply i_F | apply g_F); (focus (simp -dsimp -implicitDefEqProofs (disch := first | omega | (simp <;> omega) | fail); done))))
    refine run (w4.copyR) (by first | (simp; done) | rfl | (simp; rfl)) ?_
    rintro _ s5 ⟨rfl, w5, b5, k5, n5⟩
    have i5 := f4 i4 k5 (by omega)
    have a5 := f4 a4 k5 (by omega)
    repeat (first | simp -dsimp -implicitDefEqProofs (disch := first | omega | (simp <;> omega) | fail) | ((with_reducible first | apply m_1 | apply m_0); (focus ((conv => lhs; simp -dsimp -implicitDefEqProofs (disch := first | omega | (simp <;> omega) | fail)); done))) | ((with_reducible first | apply i_T | apply g_T); (focus (simp -dsimp -implicitDefEqProofs (disch := first | omega | (simp <;> omega) | fail); done))) | ((with_reducible first | apply i_F | apply g_F); (focus (simp -dsimp -implicitDefEqProofs (disch := first | omega | (simp <;> omega) | fail); done))))
    obtain ⟨q1, q2⟩ := whole_settled hOk ht
    have hdo : doM M l = stM M l := if_pos ht
    refine loop_ok [1, 6, 8, 10, 11, 12] (fun r a s6 => ∃ (i mbo : Nat), i + r = l.length ∧ MkI s 2 (s3.n + 1) mbo (stM M (l.take i)) s6 ∧ (mbo = s3.n ∨ s5.n ≤ mbo) ∧ MkI s 2 (s.n + 1) mb3 (doM M l) s6 ∧ MkI s 2 (s4.n + 1) s4.n M s6 ∧ s5.n ≤ s6.n ∧
      a = { t := den 82 [(1, .sl (l.map Prt.av) .no), (6, .p (s.n + 1) 0), (8, .sl ((outL M l).map Prt.av) .no), (10, .p (s3.n + 1) 0), (11, .p (s4.n + 1) 0), (12, .v (.int .i64 i))], d := [] }) l.length ?_ ?_
    · exact ⟨0, s3.n, by simp, a5, .inl rfl, i5, b5, Nat.le_refl _, by simp⟩
    have lt3 := i3.lt
    clear i1 i2 w2 w3 i4 a4 w4 i5 a5 w5 b5
    rintro r a s6 ⟨i, mbo, hir, a6, hmo, i6, b6, n6, rfl⟩
    have oki : ManyOk 66 (stM M (l.take i)) := (hOk.st _).more (by have := List.length_take_le i l; omega)
    by_cases hlt : i < l.length
    · have w1 : IntKind.wrap .i64 ((i : Int) + 1) = (i : Int) + 1 := wrap_i64 (by omega) (by omega)
      obtain ⟨p1, p2⟩ := whole_one ht hlt
      have z1 : (i : Int) ≤ (i : Int) + 1 := by omega
      have z2 : (i : Int) + 1 ≤ (l.length : Int) := by omega
      have z3 : List.drop i (List.take (i + 1) (l.map Prt.av)) = [l[i].av] := by
        rw [List.drop_take, show i + 1 - i = 1 by omega, List.drop_eq_getElem_cons (by simpa using hlt)]; simp
      repeat (first | simp -dsimp -implicitDefEqProofs (disch := first | omega | (simp <;> omega) | fail) [hlt, w1, z1, z2, z3] | ((with_reducible first | apply m_1 | apply m_0); (focus ((conv => lhs; simp -dsimp -implicitDefEqProofs (disch := first | omega | (simp <;> omega) | fail) [hlt, w1, z1, z2, z3]); done))) | ((with_reducible first | apply i_T | apply g_T); (focus (simp -dsimp -implicitDefEqProofs (disch := first | omega | (simp <;> omega) | fail) [hlt, w1, z1, z2, z3]; done))) | ((with_reducible first | apply i_F | apply g_F); (focus (simp -dsimp -implicitDefEqProofs (disch := first | omega | (simp <;> omega) | fail) [hlt, w1, z1, z2, z3]; done))))
      refine runU (a6.doR oki (l := [l[i]]) (by simp) (by simp) (by simp; have := hl8 _ (List.getElem_mem hlt); omega)) (by simp) ?_
      rw [p1, p2]
      rintro _ s7 ⟨rfl, mb7, a7, k7, n7, e7⟩
      have i7 := i6.keep k7 n7 (by omega) (by omega) (by omega)
      have b7 := b6.keep k7 n7 (by omega) (by omega) (by omega)
      repeat (first | simp -dsimp -implicitDefEqProofs (disch := first | omega | (simp <;> omega) | fail) | ((with_reducible first | apply m_1 | apply m_0); (focus ((conv => lhs; simp -dsimp -implicitDefEqProofs (disch := first | omega | (simp <;> omega) | fail)); done))) | ((with_reducible first | apply i_T | apply g_T); (focus (simp -dsimp -implicitDefEqProofs (disch := first | omega | (simp <;> omega) | fail); done))) | ((with_reducible first | apply i_F | apply g_F); (focus (simp -dsimp -implicitDefEqProofs (disch := first | omega | (simp <;> omega) | fail); done))))
      exact ⟨r - 1, by omega, i + 1, mb7, by omega, a7, by omega, i7, b7, by omega, by simp⟩
    · have hil : l.take i = l := List.take_of_length_le (by omega)
      rw [hil, ← hdo] at a6
      have hol := outL_len M l
      repeat (first | simp -dsimp -implicitDefEqProofs (disch := first | omega | (simp <;> omega) | fail) [hlt] | ((with_reducible first | apply m_1 | apply m_0); (focus ((conv => lhs; simp -dsimp -implicitDefEqProofs (disch := first | omega | (simp <;> omega) | fail) [hlt]); done))) | ((with_reducible first | apply i_T | apply g_T); (focus (simp -dsimp -implicitDefEqProofs (disch := first | omega | (simp <;> omega) | fail) [hlt]; done))) | ((with_reducible first | apply i_F | apply g_F); (focus (simp -dsimp -implicitDefEqProofs (disch := first | omega | (simp <;> omega) | fail) [hlt]; done))))
      refine runU (b6.doR hOk (l := outL M l) (by omega) (by omega) (fun p hp => by obtain ⟨q, hq, e⟩ := outL_es hp; rw [e]; have := hl8 q hq; omega)) (by first | rfl | (simp; rfl)) ?_
      rw [q1, q2]
      rintro _ s7 ⟨rfl, mb7, b7, k7, n7, e7⟩
      have i7 := i6.keep k7 n7 (by omega) (by omega) (by omega)
      have a7 := a6.keep k7 n7 (by omega) (by omega) (by omega)
      repeat (first | simp -dsimp -implicitDefEqProofs (disch := first | omega | (simp <;> omega) | fail) | ((with_reducible first | apply m_1 | apply m_0); (focus ((conv => lhs; simp -dsimp -implicitDefEqProofs (disch := first | omega | (simp <;> omega) | fail)); done))) | ((with_reducible first | apply i_T | apply g_T); (focus (simp -dsimp -implicitDefEqProofs (disch := first | omega | (simp <;> omega) | fail); done))) | ((with_reducible first | apply i_F | apply g_F); (focus (simp -dsimp -implicitDefEqProofs (disch := first | omega | (simp <;> omega) | fail); done))))
      refine giv (MkI.sameR a7 i7 (by omega) ok3 (by omega)) (by simp) ?_
      repeat (first | simp -dsimp -implicitDefEqProofs (disch := first | omega | (simp <;> omega) | fail) | ((with_reducible first | apply m_1 | apply m_0); (focus ((conv => lhs; simp -dsimp -implicitDefEqProofs (disch := first | omega | (simp <;> omega) | fail)); done))) | ((with_reducible first | apply i_T | apply g_T); (focus (simp -dsimp -implicitDefEqProofs (disch := first | omega | (simp <;> omega) | fail); done))) | ((with_reducible first | apply i_F | apply g_F); (focus (simp -dsimp -implicitDefEqProofs (disch := first | omega | (simp <;> omega) | fail); done))))
      refine giv (MkI.sameR b7 i7 (by omega) ok3 (by omega)) (by simp) ?_
      repeat (first | simp -dsimp -implicitDefEqProofs (disch := first | omega | (simp <;> omega) | fail) | ((with_reducible first | apply m_1 | apply m_0); (focus ((conv => lhs; simp -dsimp -implicitDefEqProofs (disch := first | omega | (simp <;> omega) | fail)); done))) | ((with_reducible first | apply i_T | apply g_T); (focus (simp -dsimp -implicitDefEqProofs (disch := first | omega | (simp <;> omega) | fail); done))) | ((with_reducible first | apply i_F | apply g_F); (focus (simp -dsimp -implicitDefEqProofs (disch := first | omega | (simp <;> omega) | fail); done))))
      have := i7.n
      exact ret_ok rfl ⟨⟨by omega, fun x hx => .inl (i7.old x hx).symm⟩, .refl _⟩
  · have hd : doM M l = M := if_neg ht
    rw [hd] at i3
    repeat (first | simp -dsimp -implicitDefEqProofs (disch := first | omega | (simp <;> omega) | fail) [ht] | ((with_reducible first | apply m_1 | apply m_0); (focus ((conv => lhs; simp -dsimp -implicitDefEqProofs (disch := first | omega | (simp <;> omega) | fail) [ht]); done))) | ((with_reducible first | apply i_T | apply g_T); (focus (simp -dsimp -implicitDefEqProofs (disch := first | omega | (simp <;> omega) | fail) [ht]; done))) | ((with_reducible first | apply i_F | apply g_F); (focus (simp -dsimp -implicitDefEqProofs (disch := first | omega | (simp <;> omega) | fail) [ht]; done))))
    refine giv (MkI.sameR i3 w3 (by omega) hOk (by omega)) (by simp) ?_
    refine st0 ?_
    have := i3.n
    exact ret_ok rfl ⟨⟨by omega, fun x hx => .inl (i3.old x hx).symm⟩, .refl _⟩
end Go.Proofs.YtmfhchaoijiodaaGreat
end
section
namespace Go.Proofs.YtmfhchaoijiodaaGreat
open Go.Ab
set_option linter.unusedVariables false
set_option linter.unusedSimpArgs false
set_option maxRecDepth 100000
set_option maxHeartbeats 1000000
theorem ct_ladelaw7_ManyApart {gs : List Grp} {a b : List Prt} {s : AState} (hg : (gs.length : Int) < 9223372036854775808) (hge : ∀ g ∈ gs, (g.es.length : Int) < 9223372036854775808) (ha : (a.length : Int) < 9223372036854775808) (hae : ∀ p ∈ a, (p.es.length : Int) < 9223372036854775808) (hb : (b.length : Int) < 9223372036854775808) (hbe : ∀ p ∈ b, (p.es.length : Int) < 9223372036854775808) : Gives prog F_ladelaw7_ManyApart [.sl (gs.map Grp.av) .no, .sl (a.map Prt.av) .no, .sl (b.map Prt.av) .no] s (.v (.bool true)) s := by
  refine Runs.gives (runs_e h_ladelaw7_ManyApart (Nat.le_of_ble_eq_true rfl) ?_) (.v _)
  repeat (first | simp -dsimp -implicitDefEqProofs (disch := first | omega | (simp <;> omega) | fail) | ((with_reducible first | apply m_1 | apply m_0); (focus ((conv => lhs; simp -dsimp -implicitDefEqProofs (disch := first | omega | (simp <;> omega) | fail)); done))) | ((with_reducible first | apply i_T | apply g_T); (focus (simp -dsimp -implicitDefEqProofs (disch := first | omega | (simp <;> omega) | fail); done))) | ((with_reducible first | apply i_F | apply g_F); (focus (simp -dsimp -implicitDefEqProofs (disch := first | omega | (simp <;> omega) | fail); done))))
  refine gv (ct_ladelaw7_known) ?_
  by_cases c1 : 6 < (gs.length : Int)
  · repeat (first | simp -dsimp -implicitDefEqProofs (disch := first | omega | (simp <;> omega) | fail) [c1] | ((with_reducible first | apply m_1 | apply m_0); (focus ((conv => lhs; simp -dsimp -implicitDefEqProofs (disch := first | omega | (simp <;> omega) | fail) [c1]); done))) | ((with_reducible first | apply i_T | apply g_T); (focus (simp -dsimp -implicitDefEqProofs (disch := first | omega | (simp <;> omega) | fail) [c1]; done))) | ((with_reducible first | apply i_F | apply g_F); (focus (simp -dsimp -implicitDefEqProofs (disch := first | omega | (simp <;> omega) | fail) [c1]; done))))
    exact ret_ok rfl ⟨.refl _, .refl _⟩
  repeat (first | simp -dsimp -implicitDefEqProofs (disch := first | omega | (simp <;> omega) | fail) [c1] | ((with_reducible first | apply m_1 | apply m_0); (focus ((conv => lhs; simp -dsimp -implicitDefEqProofs (disch := first | omega | (simp <;> omega) | fail) [c1]); done))) | ((with_reducible first | apply i_T | apply g_T); (focus (simp -dsimp -implicitDefEqProofs (disch := first | omega | (simp <;> omega) | fail) [c1]; done))) | ((with_reducible first | apply i_F | apply g_F); (focus (simp -dsimp -implicitDefEqProofs (disch := first | omega | (simp <;> omega) | fail) [c1]; done))))
  refine gv (ct_ladelaw7_fewParts (x := a) ha hae) ?_
  cases fa : fewParts a with
  | false =>
    repeat (first | simp -dsimp -implicitDefEqProofs (disch := first | omega | (simp <;> omega) | fail) | ((with_reducible first | apply m_1 | apply m_0); (focus ((conv => lhs; simp -dsimp -implicitDefEqProofs (disch := first | omega | (simp <;> omega) | fail)); done))) | ((with_reducible first | apply i_T | apply g_T); (focus (simp -dsimp -implicitDefEqProofs (disch := first | omega | (simp <;> omega) | fail); done))) | ((with_reducible first | apply i_F | apply g_F); (focus (simp -dsimp -implicitDefEqProofs (disch := first | omega | (simp <;> omega) | fail); done))))
    exact ret_ok rfl ⟨.refl _, .refl _⟩
  | true =>
  repeat (first | simp -dsimp -implicitDefEqProofs (disch := first | omega | (simp <;> omega) | fail) | ((with_reducible first | apply m_1 | apply m_0); (focus ((conv => lhs; simp -dsimp -implicitDefEqProofs (disch := first | omega | (simp <;> omega) | fail)); done))) | ((with_reducible first | apply i_T | apply g_T); (focus (simp -dsimp -implicitDefEqProofs (disch := first | omega | (simp <;> omega) | fail); done))) | ((with_reducible first | apply i_F | apply g_F); (focus (simp -dsimp -implicitDefEqProofs (disch := first | omega | (simp <;> omega) | fail); done))))
  refine gv (ct_ladelaw7_fewParts (x := b) hb hbe) ?_
  cases fb : fewParts b with
  | false =>
    repeat (first | simp -dsimp -implicitDefEqProofs (disch := first | omega | (simp <;> omega) | fail) | ((with_reducible first | apply m_1 | apply m_0); (focus ((conv => lhs; simp -dsimp -implicitDefEqProofs (disch := first | omega | (simp <;> omega) | fail)); done))) | ((with_reducible first | apply i_T | apply g_T); (focus (simp -dsimp -implicitDefEqProofs (disch := first | omega | (simp <;> omega) | fail); done))) | ((with_reducible first | apply i_F | apply g_F); (focus (simp -dsimp -implicitDefEqProofs (disch := first | omega | (simp <;> omega) | fail); done))))
    exact ret_ok rfl ⟨.refl _, .refl _⟩
  | true =>
  repeat (first | simp -dsimp -implicitDefEqProofs (disch := first | omega | (simp <;> omega) | fail) | ((with_reducible first | apply m_1 | apply m_0); (focus ((conv => lhs; simp -dsimp -implicitDefEqProofs (disch := first | omega | (simp <;> omega) | fail)); done))) | ((with_reducible first | apply i_T | apply g_T); (focus (simp -dsimp -implicitDefEqProofs (disch := first | omega | (simp <;> omega) | fail); done))) | ((with_reducible first | apply i_F | apply g_F); (focus (simp -dsimp -implicitDefEqProofs (disch := first | omega | (simp <;> omega) | fail); done))))
  obtain ⟨a6, a8⟩ := fewParts_len fa
  obtain ⟨b6, b8⟩ := fewParts_len fb
  refine loop_ok [0, 1, 2, 7] (fun r c s1 => ∃ i : Nat, i + r = gs.length ∧ s = s1 ∧ (∀ j (h : j < gs.length), j < i → fewGroup gs[j] = true) ∧
    c = { t := den 95 [(0, .sl (gs.map Grp.av) .no), (1, .sl (a.map Prt.av) .no), (2, .sl (b.map Prt.av) .no), (7, .v (.int .i64 i))], d := [] }) gs.length ?_ ?_
  · exact ⟨0, by simp, rfl, fun j h hi => by omega, by simp⟩
  rintro r c s1 ⟨i, hir, hs1, hall, rfl⟩
  subst hs1
  by_cases hlt : i < gs.length
  · have w1 : IntKind.wrap .i64 ((i : Int) + 1) = ((i + 1 : Nat) : Int) := by rw [wrap_i64 (by omega) (by omega)]; omega
    have hgi := hge _ (List.getElem_mem hlt)
    cases fg : fewGroup gs[i] with
    | false =>
      repeat (first | simp -dsimp -implicitDefEqProofs (disch := first | omega | (simp <;> omega) | fail) [hlt, fg] | ((with_reducible first | apply m_1 | apply m_0); (focus ((conv => lhs; simp -dsimp -implicitDefEqProofs (disch := first | omega | (simp <;> omega) | fail) [hlt, fg]); done))) | ((with_reducible apply giv); (case hAR => ((conv => lhs; simp -dsimp -implicitDefEqProofs (disch := first | omega | (simp <;> omega) | fail) [hlt, fg]); done)); (case hCT => (first | (apply ct_ladelaw7_fewGroup <;> first | assumption | omega | decide)))) | ((with_reducible first | apply i_T | apply g_T); (focus (simp -dsimp -implicitDefEqProofs (disch := first | omega | (simp <;> omega) | fail) [hlt, fg]; done))) | ((with_reducible first | apply i_F | apply g_F); (focus (simp -dsimp -implicitDefEqProofs (disch := first | omega | (simp <;> omega) | fail) [hlt, fg]; done))))
      exact ret_ok rfl ⟨.refl _, .refl _⟩
    | true =>
      repeat (first | simp -dsimp -implicitDefEqProofs (disch := first | omega | (simp <;> omega) | fail) [hlt, fg] | ((with_reducible first | apply m_1 | apply m_0); (focus ((conv => lhs; simp -dsimp -implicitDefEqProofs (disch := first | omega | (simp <;> omega) | fail) [hlt, fg]); done))) | ((with_reducible apply giv); (case hAR => ((conv => lhs; simp -dsimp -implicitDefEqProofs (disch := first | omega | (simp <;> omega) | fail) [hlt, fg]); done)); (case hCT => (first | (apply ct_ladelaw7_fewGroup <;> first | assumption | omega | decide)))) | ((with_reducible first | apply i_T | apply g_T); (focus (simp -dsimp -implicitDefEqProofs (disch := first | omega | (simp <;> omega) | fail) [hlt, fg]; done))) | ((with_reducible first | apply i_F | apply g_F); (focus (simp -dsimp -implicitDefEqProofs (disch := first | omega | (simp <;> omega) | fail) [hlt, fg]; done))))
      exact ⟨r - 1, by omega, i + 1, by omega, rfl, fun j h hj => by
        by_cases e : j = i
        · subst e; exact fg
        · exact hall j h (by omega), by simp [w1]⟩
  have hfew : ∀ g ∈ gs, g.es.length ≤ 30 := fun g hg => by
    obtain ⟨j, hj, rfl⟩ := List.getElem_of_mem hg
    exact fewGroup_len (hall j hj (by omega))
  have hOk : ManyOk 30 (ofM gs) := of_ok hfew (ManyOk.nil _)
  repeat (first | simp -dsimp -implicitDefEqProofs (disch := first | omega | (simp <;> omega) | fail) [hlt] | ((with_reducible first | apply m_1 | apply m_0); (focus ((conv => lhs; simp -dsimp -implicitDefEqProofs (disch := first | omega | (simp <;> omega) | fail) [hlt]); done))) | ((with_reducible first | apply i_T | apply g_T); (focus (simp -dsimp -implicitDefEqProofs (disch := first | omega | (simp <;> omega) | fail) [hlt]; done))) | ((with_reducible first | apply i_F | apply g_F); (focus (simp -dsimp -implicitDefEqProofs (disch := first | omega | (simp <;> omega) | fail) [hlt]; done))))
  refine loop_ok [0, 1, 2, 8] (fun r c s1 => ∃ i : Nat, i + r = a.length ∧ s = s1 ∧ (∀ j (h : j < a.length), j < i → ∀ q ∈ b, ¬ a[j].gr = q.gr) ∧
    c = { t := den 95 [(0, .sl (gs.map Grp.av) .no), (1, .sl (a.map Prt.av) .no), (2, .sl (b.map Prt.av) .no), (8, .v (.int .i64 i))], d := [] }) a.length ?_ ?_
  · exact ⟨0, by simp, rfl, fun j h hi => by omega, by simp⟩
  rintro r2 c s1 ⟨x, hxr, hs1, hap, rfl⟩
  subst hs1
  by_cases hlt2 : x < a.length
  · have w1 : IntKind.wrap .i64 ((x : Int) + 1) = ((x + 1 : Nat) : Int) := by rw [wrap_i64 (by omega) (by omega)]; omega
    refine st1 hlt2 ?_
    refine loop_ok [0, 1, 2, 8, 9] (fun r c s1 => ∃ k : Nat, k + r = b.length ∧ s = s1 ∧ (∀ j (h : j < b.length), j < k → ¬ a[x].gr = b[j].gr) ∧
      c = { t := den 95 [(0, .sl (gs.map Grp.av) .no), (1, .sl (a.map Prt.av) .no), (2, .sl (b.map Prt.av) .no), (8, .v (.int .i64 x)), (9, .v (.int .i64 k))], d := [] }) b.length ?_ ?_
    · exact ⟨0, by simp, rfl, fun j h hi => by omega, by simp⟩
    rintro r3 c s1 ⟨k, hkr, hs1, hno, rfl⟩
    subst hs1
    by_cases hlt3 : k < b.length
    · have w2 : IntKind.wrap .i64 ((k : Int) + 1) = ((k + 1 : Nat) : Int) := by rw [wrap_i64 (by omega) (by omega)]; omega
      by_cases he : a[x].gr = b[k].gr
      · repeat (first | simp -dsimp -implicitDefEqProofs (disch := first | omega | (simp <;> omega) | fail) [hlt2, hlt3, he] | ((with_reducible first | apply m_1 | apply m_0); (focus ((conv => lhs; simp -dsimp -implicitDefEqProofs (disch := first | omega | (simp <;> omega) | fail) [hlt2, hlt3, he]); done))) | ((with_reducible first | apply i_T | apply g_T); (focus (simp -dsimp -implicitDefEqProofs (disch := first | omega | (simp <;> omega) | fail) [hlt2, hlt3, he]; done))) | ((with_reducible first | apply i_F | apply g_F); (focus (simp -dsimp -implicitDefEqProofs (disch := first | omega | (simp <;> omega) | fail) [hlt2, hlt3, he]; done))))
        exact ret_ok rfl ⟨.refl _, .refl _⟩
      · repeat (first | simp -dsimp -implicitDefEqProofs (disch := first | omega | (simp <;> omega) | fail) [hlt2, hlt3, he] | ((with_reducible first | apply m_1 | apply m_0); (focus ((conv => lhs; simp -dsimp -implicitDefEqProofs (disch := first | omega | (simp <;> omega) | fail) [hlt2, hlt3, he]); done))) | ((with_reducible first | apply i_T | apply g_T); (focus (simp -dsimp -implicitDefEqProofs (disch := first | omega | (simp <;> omega) | fail) [hlt2, hlt3, he]; done))) | ((with_reducible first | apply i_F | apply g_F); (focus (simp -dsimp -implicitDefEqProofs (disch := first | omega | (simp <;> omega) | fail) [hlt2, hlt3, he]; done))))
        exact ⟨r3 - 1, by omega, k + 1, by omega, rfl, fun j h hj => by
          by_cases e : j = k
          · subst e; exact he
          · exact hno j h (by omega), by simp [w2]⟩
    · repeat (first | simp -dsimp -implicitDefEqProofs (disch := first | omega | (simp <;> omega) | fail) [hlt3] | ((with_reducible first | apply m_1 | apply m_0); (focus ((conv => lhs; simp -dsimp -implicitDefEqProofs (disch := first | omega | (simp <;> omega) | fail) [hlt3]); done))) | ((with_reducible first | apply i_T | apply g_T); (focus (simp -dsimp -implicitDefEqProofs (disch := first | omega | (simp <;> omega) | fail) [hlt3]; done))) | ((with_reducible first | apply i_F | apply g_F); (focus (simp -dsimp -implicitDefEqProofs (disch := first | omega | (simp <;> omega) | fail) [hlt3]; done))))
      exact ⟨r2 - 1, by omega, x + 1, by omega, rfl, fun j h hj q hq => by
        by_cases e : j = x
        · subst e
          obtain ⟨y, hy, rfl⟩ := List.getElem_of_mem hq
          exact hno y hy (by omega)
        · exact hap j h (by omega) q hq, by simp [w1]⟩
  have hab : ∀ p ∈ a, ∀ q ∈ b, ¬ p.gr = q.gr := fun p hp => by
    obtain ⟨y, hy, rfl⟩ := List.getElem_of_mem hp
    exact hap y hy (by omega)
  repeat (first | simp -dsimp -implicitDefEqProofs (disch := first | omega | (simp <;> omega) | fail) [hlt2] | ((with_reducible first | apply m_1 | apply m_0); (focus ((conv => lhs; simp -dsimp -implicitDefEqProofs (disch := first | omega | (simp <;> omega) | fail) [hlt2]); done))) | ((with_reducible first | apply i_T | apply g_T); (focus (simp -dsimp -implicitDefEqProofs (disch := first | omega | (simp <;> omega) | fail) [hlt2]; done))) | ((with_reducible first | apply i_F | apply g_F); (focus (simp -dsimp -implicitDefEqProofs (disch := first | omega | (simp <;> omega) | fail) [hlt2]; done))))
  refine rn0 (rn_many_Of (l := gs) (B := 30) (by omega) hfew (by omega)) ?_
  rintro _ s1 ⟨rfl, o1, n1, A1, m1⟩
  have i1 : MkI s 2 (s.n + 1) s.n (ofM gs) s1 := ⟨o1, n1, by omega, Nat.le_refl _, A1, m1⟩
  clear m1
  generalize ofM gs = M at i1 hOk
  obtain ⟨t1, t2, t3⟩ := apart hOk hab
  have la : ∀ p ∈ a, p.es.length ≤ 1000000 := fun p hp => by have := a8 p hp; omega
  have lb : ∀ p ∈ b, p.es.length ≤ 1000000 := fun p hp => by have := b8 p hp; omega
  repeat (first | simp -dsimp -implicitDefEqProofs (disch := first | omega | (simp <;> omega) | fail) | ((with_reducible first | apply m_1 | apply m_0); (focus ((conv => lhs; simp -dsimp -implicitDefEqProofs (disch := first | omega | (simp <;> omega) | fail)); done))) | ((with_reducible first | apply i_T | apply g_T); (focus (simp -dsimp -implicitDefEqProofs (disch := first | omega | (simp <;> omega) | fail); done))) | ((with_reducible first | apply i_F | apply g_F); (focus (simp -dsimp -implicitDefEqProofs (disch := first | omega | (simp <;> omega) | fail); done))))
  refine rn0 (i1.copyR) ?_
  rintro _ s2 ⟨rfl, i2, w2, k2, n2⟩
  repeat (first | simp -dsimp -implicitDefEqProofs (disch := first | omega | (simp <;> omega) | fail) | ((with_reducible first | apply m_1 | apply m_0); (focus ((conv => lhs; simp -dsimp -implicitDefEqProofs (disch := first | omega | (simp <;> omega) | fail)); done))) | ((with_reducible first | apply i_T | apply g_T); (focus (simp -dsimp -implicitDefEqProofs (disch := first | omega | (simp <;> omega) | fail); done))) | ((with_reducible first | apply i_F | apply g_F); (focus (simp -dsimp -implicitDefEqProofs (disch := first | omega | (simp <;> omega) | fail); done))))
  refine runU (i2.doR hOk (l := a) (by omega) (by omega) la) (by first | rfl | (simp; rfl)) ?_
  rintro _ s3 ⟨rfl, mb3, i3, k3, n3, e3⟩
  have w3 : MkI s 2 (s1.n + 1) s1.n M s3 := w2.keep k3 n3 (by omega) (by omega) (by omega)
  refine st0 ?_
  refine runU (i3.doR (hOk.doM a) (l := b) (by omega) (by omega) lb) (by first | rfl | (simp; rfl)) ?_
  rintro _ s4 ⟨rfl, mb4, i4, k4, n4, e4⟩
  have w4 : MkI s 2 (s1.n + 1) s1.n M s4 := w3.keep k4 n4 (by omega) (by omega) (by omega)
  refine st0 ?_
  refine runU (w4.doR hOk (l := b) (by omega) (by omega) lb) (by first | rfl | (simp; rfl)) ?_
  rintro _ s5 ⟨rfl, mb5, w5, k5, n5, e5⟩
  have lt4 := i4.lt
  have lt1 := i1.lt
  have i5 := i4.keep k5 n5 (by omega) (by omega) (by omega)
  refine st0 ?_
  refine runU (w5.doR (hOk.doM b) (l := a) (by omega) (by omega) la) (by first | rfl | (simp; rfl)) ?_
  rintro _ s6 ⟨rfl, mb6, w6, k6, n6, e6⟩
  have i6 := i5.keep k6 n6 (by omega) (by omega) (by omega)
  rw [t3] at i6
  rw [t1, t2]
  refine st0 ?_
  refine giv (MkI.sameR i6 w6 (by omega) ((hOk.doM b).doM a) (by omega)) (by simp) ?_
  refine st0 ?_
  have := i6.n
  exact ret_ok rfl ⟨⟨by omega, fun x hx => .inl (i6.old x hx).symm⟩, .refl _⟩
end Go.Proofs.YtmfhchaoijiodaaGreat
end
