/- Going on. -/
import Derived.Test.YtmpoeamfcienoaaGreatKJT15
section
namespace Go.Proofs.YtmpoeamfcienoaaGreat
open Go.Ab
set_option linter.unusedVariables false
set_option linter.unusedSimpArgs false
set_option maxRecDepth 100000
set_option maxHeartbeats 4000000
theorem ct_part_between {n lo hi : Int} {s : AState} : Gives prog F_part_between [.v (.int .i64 n), .v (.int .i64 lo), .v (.int .i64 hi)] s (.v (.bool (btw n lo hi))) s := by
  refine runs_e h_part_between (Nat.le_of_ble_eq_true rfl) ?_
  repeat' (first | refine sa0 ?_ | ((with_reducible first | apply s_split | apply s_gsplit) <;> (intro hb; have hb' := hb; try simp only [decide_eq_true_eq, decide_eq_false_iff_not, beq_iff_eq, beq_eq_false_iff_ne, bne_iff_ne, bne_eq_false_iff_eq, ne_eq, Bool.not_true, Bool.not_false, Bool.not_eq_true', Bool.not_eq_false', Bool.and_eq_true, Bool.or_eq_true, Bool.or_eq_false_iff] at hb; try simp at hb')))
  all_goals exact ret_ok rfl ⟨by simp [btw, *], rfl⟩
theorem ct_laderef4_within {n lo hi : Int} {s : AState} : Gives prog F_laderef4_within [.v (.int .i64 n), .v (.int .i64 lo), .v (.int .i64 hi)] s (.v (.bool (btw n lo hi))) s := by
  refine runs_e h_laderef4_within (Nat.le_of_ble_eq_true rfl) ?_
  repeat' (first | refine sa0 ?_ | ((with_reducible first | apply s_split | apply s_gsplit) <;> (intro hb; have hb' := hb; try simp only [decide_eq_true_eq, decide_eq_false_iff_not, beq_iff_eq, beq_eq_false_iff_ne, bne_iff_ne, bne_eq_false_iff_eq, ne_eq, Bool.not_true, Bool.not_false, Bool.not_eq_true', Bool.not_eq_false', Bool.and_eq_true, Bool.or_eq_true, Bool.or_eq_false_iff] at hb; try simp at hb')))
  all_goals exact ret_ok rfl ⟨by simp [btw, *], rfl⟩
theorem ct_part_IsEntry {x : Ent} {s : AState} : Gives prog F_part_IsEntry [x.av] s (.v (.bool (okEnt x))) s := by
  refine Runs.gives' (runs_e h_part_IsEntry (Nat.le_of_ble_eq_true rfl) ?_) (.v _)
  repeat' (first | refine sa0c1 @ct_part_between ?_ | ((with_reducible first | apply s_split | apply s_gsplit) <;> (intro hb; have hb' := hb; try simp only [decide_eq_true_eq, decide_eq_false_iff_not, beq_iff_eq, beq_eq_false_iff_ne, bne_iff_ne, bne_eq_false_iff_eq, ne_eq, Bool.not_true, Bool.not_false, Bool.not_eq_true', Bool.not_eq_false', Bool.and_eq_true, Bool.or_eq_true, Bool.or_eq_false_iff] at hb; try simp at hb')))
  all_goals refine ret_ok rfl ⟨(Grows.refl _).alloc _, ?_⟩; simp [okEnt, *, AV.le.refl]
theorem ct_laderef4_IsEntry {x : Ent} {s : AState} : Gives prog F_laderef4_IsEntry [x.av] s (.v (.bool (okEnt x))) s := by
  refine Runs.gives' (runs_e h_laderef4_IsEntry (Nat.le_of_ble_eq_true rfl) ?_) (.v _)
  repeat' (first | refine sa0c1 @ct_laderef4_within ?_ | ((with_reducible first | apply s_split | apply s_gsplit) <;> (intro hb; have hb' := hb; try simp only [decide_eq_true_eq, decide_eq_false_iff_not, beq_iff_eq, beq_eq_false_iff_ne, bne_iff_ne, bne_eq_false_iff_eq, ne_eq, Bool.not_true, Bool.not_false, Bool.not_eq_true', Bool.not_eq_false', Bool.and_eq_true, Bool.or_eq_true, Bool.or_eq_false_iff] at hb; try simp at hb')))
  all_goals refine ret_ok rfl ⟨(Grows.refl _).alloc _, ?_⟩; simp [okEnt, *, AV.le.refl]
theorem ct_part_IsHard {x : Hrd} {s : AState} : Gives prog F_part_IsHard [x.av] s (.v (.bool (okHrd x.ht x.hv x.hc))) s := by
  refine Runs.gives' (runs_e h_part_IsHard (Nat.le_of_ble_eq_true rfl) ?_) (.v _)
  repeat' (first | refine sa0c1 @ct_part_between ?_ | ((with_reducible first | apply s_split | apply s_gsplit) <;> (intro hb; have hb' := hb; try simp only [decide_eq_true_eq, decide_eq_false_iff_not, beq_iff_eq, beq_eq_false_iff_ne, bne_iff_ne, bne_eq_false_iff_eq, ne_eq, Bool.not_true, Bool.not_false, Bool.not_eq_true', Bool.not_eq_false', Bool.and_eq_true, Bool.or_eq_true, Bool.or_eq_false_iff] at hb; try simp at hb')))
  all_goals refine ret_ok rfl ⟨(Grows.refl _).alloc _, ?_⟩; simp [okHrd, *, AV.le.refl]
theorem ct_laderef4_IsHard {x : Hrd} {s : AState} : Gives prog F_laderef4_IsHard [x.av] s (.v (.bool (okHrd x.ht x.hv x.hc))) s := by
  refine Runs.gives' (runs_e h_laderef4_IsHard (Nat.le_of_ble_eq_true rfl) ?_) (.v _)
  repeat' (first | refine sa0c1 @ct_laderef4_within ?_ | ((with_reducible first | apply s_split | apply s_gsplit) <;> (intro hb; have hb' := hb; try simp only [decide_eq_true_eq, decide_eq_false_iff_not, beq_iff_eq, beq_eq_false_iff_ne, bne_iff_ne, bne_eq_false_iff_eq, ne_eq, Bool.not_true, Bool.not_false, Bool.not_eq_true', Bool.not_eq_false', Bool.and_eq_true, Bool.or_eq_true, Bool.or_eq_false_iff] at hb; try simp at hb')))
  all_goals refine ret_ok rfl ⟨(Grows.refl _).alloc _, ?_⟩; simp [okHrd, *, AV.le.refl]
theorem ct_part_IsHardE {a b c : Int} {s : AState} : Gives prog F_part_IsHard [.agg [.v (.int .i64 a), .v (.int .i64 b), .v (.int .i64 c)]] s (.v (.bool (okHrd a b c))) s := ct_part_IsHard (x := ⟨a, b, c⟩)
theorem ct_laderef4_IsHardE {a b c : Int} {s : AState} : Gives prog F_laderef4_IsHard [.agg [.v (.int .i64 a), .v (.int .i64 b), .v (.int .i64 c)]] s (.v (.bool (okHrd a b c))) s := ct_laderef4_IsHard (x := ⟨a, b, c⟩)
theorem ct_part_isMark {ix tm least : Int} {s : AState} : Gives prog F_part_isMark [.v (.int .i64 ix), .v (.int .i64 tm), .v (.int .i64 least)] s (.v (.bool (okMrk ix tm least))) s := by
  refine runs_e h_part_isMark (Nat.le_of_ble_eq_true rfl) ?_
  repeat' (first | refine sa0c1 @ct_part_between ?_ | ((with_reducible first | apply s_split | apply s_gsplit) <;> (intro hb; have hb' := hb; try simp only [decide_eq_true_eq, decide_eq_false_iff_not, beq_iff_eq, beq_eq_false_iff_ne, bne_iff_ne, bne_eq_false_iff_eq, ne_eq, Bool.not_true, Bool.not_false, Bool.not_eq_true', Bool.not_eq_false', Bool.and_eq_true, Bool.or_eq_true, Bool.or_eq_false_iff] at hb; try simp at hb')))
  all_goals exact ret_ok rfl ⟨by simp [okMrk, *], rfl⟩
theorem ct_laderef4_mark {x : Prt} {s : AState} : Gives prog F_laderef4_mark [x.av] s (.v (.bool (okMrk x.ix x.tm 1))) s := by
  refine Runs.gives' (runs_e h_laderef4_mark (Nat.le_of_ble_eq_true rfl) ?_) (.v _)
  repeat' (first | refine sa0c1 @ct_laderef4_within ?_ | ((with_reducible first | apply s_split | apply s_gsplit) <;> (intro hb; have hb' := hb; try simp only [decide_eq_true_eq, decide_eq_false_iff_not, beq_iff_eq, beq_eq_false_iff_ne, bne_iff_ne, bne_eq_false_iff_eq, ne_eq, Bool.not_true, Bool.not_false, Bool.not_eq_true', Bool.not_eq_false', Bool.and_eq_true, Bool.or_eq_true, Bool.or_eq_false_iff] at hb; try simp at hb')))
  all_goals refine ret_ok rfl ⟨(Grows.refl _).alloc _, ?_⟩; simp [okMrk, *, AV.le.refl]
theorem ct_slices_Equal_Entry {l m : List Ent} {s : AState} (hl : (l.length : Int) < 9223372036854775808) : Gives prog F_slices_Equal_Entry [.sl (l.map Ent.av) .no, .sl (m.map Ent.av) .no] s (.v (.bool (decide (l = m)))) s := by
  refine runs_e h_slices_Equal_Entry (Nat.le_of_ble_eq_true rfl) ?_
  by_cases hlen : l.length = m.length
  · rw [← all_eq hlen]
    have hI : (m.length : Int) = l.length := by omega
    refine st1 hI ?_
    refine loop_ok [0, 1, 12, 13] (fun k a s1 => s1 = s ∧ ∃ i : Nat, i + k = l.length ∧ ((List.range i).all fun i => decide (l.getD i default = m.getD i default)) = true ∧ a = { t := den 26 [(0, .sl (l.map Ent.av) .no), (1, .sl (m.map Ent.av) .no), (12, .v (.int .i64 l.length)), (13, .v (.int .i64 i))], d := [] }) l.length ?_ ?_
    · exact ⟨rfl, 0, by simp, rfl, by simp⟩
    · rintro k a _ ⟨rfl, i, hik, hall, rfl⟩
      by_cases hlt : i < l.length
      · have hlt2 : i < m.length := by omega
        have hw : IntKind.wrap .i64 ((i : Int) + 1) = ((i + 1 : Nat) : Int) := by rw [wrap_i64 (by omega) (by omega)]; omega
        have e1 : l.getD i default = l[i] := by simp [hlt]
        have e2 : m.getD i default = m[i] := by simp [hlt2]
        by_cases he : l[i] = m[i]
        · repeat (first | simp -dsimp -implicitDefEqProofs (disch := first | omega | (simp <;> omega) | fail) [hlt, hlt2, he, hw] | ((with_reducible first | apply m_1 | apply m_0); (focus ((conv => lhs; simp -dsimp -implicitDefEqProofs (disch := first | omega | (simp <;> omega) | fail) [hlt, hlt2, he, hw]); done))) | ((with_reducible first | apply i_T | apply g_T); (focus (simp -dsimp -implicitDefEqProofs (disch := first | omega | (simp <;> omega) | fail) [hlt, hlt2, he, hw]; done))) | ((with_reducible first | apply i_F | apply g_F); (focus (simp -dsimp -implicitDefEqProofs (disch := first | omega | (simp <;> omega) | fail) [hlt, hlt2, he, hw]; done))))
          exact ⟨k - 1, by omega, rfl, i + 1, by omega, all_step hall (by simp only [e1, e2]; simp [he]), by simp⟩
        · repeat (first | simp -dsimp -implicitDefEqProofs (disch := first | omega | (simp <;> omega) | fail) [hlt, hlt2, he] | ((with_reducible first | apply m_1 | apply m_0); (focus ((conv => lhs; simp -dsimp -implicitDefEqProofs (disch := first | omega | (simp <;> omega) | fail) [hlt, hlt2, he]); done))) | ((with_reducible first | apply i_T | apply g_T); (focus (simp -dsimp -implicitDefEqProofs (disch := first | omega | (simp <;> omega) | fail) [hlt, hlt2, he]; done))) | ((with_reducible first | apply i_F | apply g_F); (focus (simp -dsimp -implicitDefEqProofs (disch := first | omega | (simp <;> omega) | fail) [hlt, hlt2, he]; done))))
          refine ret_ok rfl ⟨?_, rfl⟩
          rw [all_stop hlt (by simp only [e1, e2]; simp [he])]; rfl
      · refine st1 hlt ?_
        have : i = l.length := by omega
        subst this
        exact ret_ok rfl ⟨by rw [hall]; rfl, rfl⟩
  · have hI : ¬ (l.length : Int) = m.length := by omega
    refine st1 hI ?_
    refine ret_ok rfl ⟨?_, rfl⟩
    have : ¬ l = m := fun e => hlen (by rw [e])
    simp [this]
theorem ct_part_rising {l : List Ent} {dense : Bool} {s : AState} (hl : (l.length : Int) < 9223372036854775808) :
    Gives prog F_part_rising [.sl (l.map Ent.av) .no, .v (.bool dense)] s (.v (.bool (rising l dense))) s := by
  refine Runs.gives' (runs_e h_part_rising (Nat.le_of_ble_eq_true rfl) ?_) (.v _)
  unfold rising
  refine st0 ?_
  refine loop_ok [0, 1, 7, 8, 9] (fun k a s1 => Grows s s1 ∧ ∃ i : Nat, i + k = l.length ∧ ((List.range i).all (riseAt l dense)) = true ∧ a = { t := den 51 [(0, .sl (l.map Ent.av) .no), (1, .v (.bool dense)), (7, .sl (l.map Ent.av) .no), (8, .v (.int .i64 l.length)), (9, .v (.int .i64 i))], d := [] }) l.length ?_ ?_
  · exact ⟨.refl _, 0, by simp, rfl, by simp⟩
  · rintro k a s1 ⟨hg, i, hik, hall, rfl⟩
    by_cases hlt : i < l.length
    · have hw : IntKind.wrap .i64 ((i : Int) + 1) = ((i + 1 : Nat) : Int) := by rw [wrap_i64 (by omega) (by omega)]; omega
      have e1 : l.getD i default = l[i] := by simp [hlt]
      by_cases h0 : i = 0
      · subst h0
        repeat' (first | refine sa0c1 @ct_part_IsEntry ?_ | ((with_reducible first | apply s_split | apply s_gsplit) <;> (intro hb; have hb' := hb; try simp only [decide_eq_true_eq, decide_eq_false_iff_not, beq_iff_eq, beq_eq_false_iff_ne, bne_iff_ne, bne_eq_false_iff_eq, ne_eq, Bool.not_true, Bool.not_false, Bool.not_eq_true', Bool.not_eq_false', Bool.and_eq_true, Bool.or_eq_true, Bool.or_eq_false_iff] at hb; try simp at hb')))
        all_goals first
          | exact ⟨k - 1, by omega, (by first | exact hg | exact hg.alloc _), 1, by omega, all_step hall (by simp only [riseAt, e1]; simp [*]), by simp⟩
          | (refine ret_ok rfl ⟨(by first | exact hg | exact hg.alloc _), ?_⟩; rw [all_stop hlt (by simp only [riseAt, e1]; simp [*])]; exact AV.le.refl _)
      · obtain ⟨j, hij⟩ : ∃ j, i = j + 1 := ⟨i - 1, by omega⟩
        have hw2 : IntKind.wrap .i64 ((i : Int) - 1) = (j : Int) := by rw [wrap_i64 (by omega) (by omega)]; omega
        have hj : j < l.length := by omega
        have hpos : (0 : Int) < i := by omega
        have hpos' : 0 < i := by omega
        have e2 : l.getD (i - 1) default = l[j] := by simp [hj, hij]
        have hwx : IntKind.wrap .i64 (l[j].ix + 1) = l[j].ix + 1 := by
          have := List.all_eq_true.1 hall j (by simp; omega)
          simp only [riseAt, show l.getD j default = l[j] by simp [hj], Bool.and_eq_true, okEnt, btw, MI, decide_eq_true_eq] at this
          exact wrap_i64 (by omega) (by omega)
        clear hij
        repeat' (first | refine sa0c1 @ct_part_IsEntry ?_ | ((with_reducible first | apply s_split | apply s_gsplit) <;> (intro hb; have hb' := hb; try simp only [decide_eq_true_eq, decide_eq_false_iff_not, beq_iff_eq, beq_eq_false_iff_ne, bne_iff_ne, bne_eq_false_iff_eq, ne_eq, Bool.not_true, Bool.not_false, Bool.not_eq_true', Bool.not_eq_false', Bool.and_eq_true, Bool.or_eq_true, Bool.or_eq_false_iff] at hb; try simp at hb')))
        all_goals first
          | exact ⟨k - 1, by omega, (by first | exact hg | exact hg.alloc _), i + 1, by omega, all_step hall (by simp only [riseAt, e1, e2]; simp [*] <;> omega), by simp⟩
          | (refine ret_ok rfl ⟨(by first | exact hg | exact hg.alloc _), ?_⟩; rw [all_stop hlt (by simp only [riseAt, e1, e2]; simp [*])]; exact AV.le.refl _)
    · refine st1 hlt ?_
      have : i = l.length := by omega
      subst this
      refine ret_ok rfl ⟨hg, ?_⟩
      rw [hall]; simp [AV.le.refl]
theorem ct_laderef4_entries {l : List Ent} {dense : Bool} {s : AState} (hl : (l.length : Int) < 9223372036854775808) :
    Gives prog F_laderef4_entries [.sl (l.map Ent.av) .no, .v (.bool dense)] s (.v (.bool (rising l dense))) s := by
  refine Runs.gives' (runs_e h_laderef4_entries (Nat.le_of_ble_eq_true rfl) ?_) (.v _)
  unfold rising
  refine st0 ?_
  refine loop_ok [0, 1, 5] (fun k a s1 => Grows s s1 ∧ ∃ i : Nat, i + k = l.length ∧ ((List.range i).all (riseAt l dense)) = true ∧ a = { t := den 57 [(0, .sl (l.map Ent.av) .no), (1, .v (.bool dense)), (5, .v (.int .i64 i))], d := [] }) l.length ?_ ?_
  · exact ⟨.refl _, 0, by simp, rfl, by simp⟩
  · rintro k a s1 ⟨hg, i, hik, hall, rfl⟩
    by_cases hlt : i < l.length
    · have hw : IntKind.wrap .i64 ((i : Int) + 1) = ((i + 1 : Nat) : Int) := by rw [wrap_i64 (by omega) (by omega)]; omega
      have e1 : l.getD i default = l[i] := by simp [hlt]
      by_cases h0 : i = 0
      · subst h0
        repeat' (first | refine sa0c1 @ct_laderef4_IsEntry ?_ | ((with_reducible first | apply s_split | apply s_gsplit) <;> (intro hb; have hb' := hb; try simp only [decide_eq_true_eq, decide_eq_false_iff_not, beq_iff_eq, beq_eq_false_iff_ne, bne_iff_ne, bne_eq_false_iff_eq, ne_eq, Bool.not_true, Bool.not_false, Bool.not_eq_true', Bool.not_eq_false', Bool.and_eq_true, Bool.or_eq_true, Bool.or_eq_false_iff] at hb; try simp at hb')))
        all_goals first
          | exact ⟨k - 1, by omega, (by first | exact hg | exact hg.alloc _), 1, by omega, all_step hall (by simp only [riseAt, e1]; simp [*]), by simp⟩
          | (refine ret_ok rfl ⟨(by first | exact hg | exact hg.alloc _), ?_⟩; rw [all_stop hlt (by simp only [riseAt, e1]; simp [*])]; exact AV.le.refl _)
      · obtain ⟨j, hij⟩ : ∃ j, i = j + 1 := ⟨i - 1, by omega⟩
        have hw2 : IntKind.wrap .i64 ((i : Int) - 1) = (j : Int) := by rw [wrap_i64 (by omega) (by omega)]; omega
        have hj : j < l.length := by omega
        have hpos : (0 : Int) < i := by omega
        have hpos' : 0 < i := by omega
        have e2 : l.getD (i - 1) default = l[j] := by simp [hj, hij]
        have hwx : IntKind.wrap .i64 (l[j].ix + 1) = l[j].ix + 1 := by
          have := List.all_eq_true.1 hall j (by simp; omega)
          simp only [riseAt, show l.getD j default = l[j] by simp [hj], Bool.and_eq_true, okEnt, btw, MI, decide_eq_true_eq] at this
          exact wrap_i64 (by omega) (by omega)
        clear hij
        repeat' (first | refine sa0c1 @ct_laderef4_IsEntry ?_ | ((with_reducible first | apply s_split | apply s_gsplit) <;> (intro hb; have hb' := hb; try simp only [decide_eq_true_eq, decide_eq_false_iff_not, beq_iff_eq, beq_eq_false_iff_ne, bne_iff_ne, bne_eq_false_iff_eq, ne_eq, Bool.not_true, Bool.not_false, Bool.not_eq_true', Bool.not_eq_false', Bool.and_eq_true, Bool.or_eq_true, Bool.or_eq_false_iff] at hb; try simp at hb')))
        all_goals first
          | exact ⟨k - 1, by omega, (by first | exact hg | exact hg.alloc _), i + 1, by omega, all_step hall (by simp only [riseAt, e1, e2]; simp [*] <;> omega), by simp⟩
          | (refine ret_ok rfl ⟨(by first | exact hg | exact hg.alloc _), ?_⟩; rw [all_stop hlt (by simp only [riseAt, e1, e2]; simp [*])]; exact AV.le.refl _)
    · refine st1 hlt ?_
      have : i = l.length := by omega
      subst this
      refine ret_ok rfl ⟨hg, ?_⟩
      rw [hall]; simp [AV.le.refl]
theorem ct_part_core {p : Prt} {s : AState} : Gives prog F_part_core [p.av] s (core p).av s := by
  refine Runs.gives' (runs_e h_part_core (Nat.le_of_ble_eq_true rfl) ?_) (core p).row.flat
  repeat' (first | refine se0 ?_ | ((with_reducible first | apply s_split | apply s_gsplit | apply s_dsplit) <;> (intro hb; have hb' := hb; try simp only [decide_eq_true_eq, decide_eq_false_iff_not, beq_iff_eq, beq_eq_false_iff_ne, bne_iff_ne, bne_eq_false_iff_eq, ne_eq, Bool.not_true, Bool.not_false, Bool.not_eq_true', Bool.not_eq_false', Bool.and_eq_true, Bool.or_eq_true, Bool.or_eq_false_iff] at hb; try simp at hb')))
  all_goals
    (first | apply ret_ok | apply end_ok); (focus ((conv => lhs; simp (disch := first | omega | (simp <;> omega) | fail)); done)); simp only [retVal]
    refine ⟨(((Grows.refl _).alloc _).alloc _).alloc _, ?_⟩
    exact (AV.le_strip _).trans (Prt.le_of (by simp [Prt.cells, core, *]))
theorem ct_part_Same {a b : Prt} {s : AState} (hl : (a.es.length : Int) < 9223372036854775808) : Gives prog F_part_Same [a.av, b.av] s (.v (.bool (decide (a = b)))) s := by
  refine Runs.gives' (runs_e h_part_Same (Nat.le_of_ble_eq_true rfl) ?_) (.v _)
  repeat' (first | simp -dsimp -implicitDefEqProofs (disch := first | omega | (simp <;> omega) | fail) [*] | ((with_reducible first | apply m_1 | apply m_0); (focus ((conv => lhs; simp -dsimp -implicitDefEqProofs (disch := first | omega | (simp <;> omega) | fail) [*]); done))) | ((with_reducible apply giv); (case hAR => ((conv => lhs; simp -dsimp -implicitDefEqProofs (disch := first | omega | (simp <;> omega) | fail) [*]); done)); (case hCT => (first | (apply ct_slices_Equal_Entry <;> first | assumption | omega | decide)))) | ((with_reducible first | apply i_T | apply g_T); (focus (simp -dsimp -implicitDefEqProofs (disch := first | omega | (simp <;> omega) | fail) [*]; done))) | ((with_reducible first | apply i_F | apply g_F); (focus (simp -dsimp -implicitDefEqProofs (disch := first | omega | (simp <;> omega) | fail) [*]; done))) | ((with_reducible first | apply s_split | apply s_gsplit) <;> (intro hb; have hb' := hb; try simp only [decide_eq_true_eq, decide_eq_false_iff_not, beq_iff_eq, beq_eq_false_iff_ne, bne_iff_ne, bne_eq_false_iff_eq, ne_eq, Bool.not_true, Bool.not_false, Bool.not_eq_true', Bool.not_eq_false', Bool.and_eq_true, Bool.or_eq_true, Bool.or_eq_false_iff] at hb; try simp at hb')))
  all_goals
    refine ret_ok rfl ⟨((Grows.refl _).alloc _).alloc _, le_bool ?_⟩
    first | (simp [Prt.ext_iff, *]; done) | (rw [Bool.eq_iff_iff]; simp [Prt.ext_iff, *] <;> grind)
end Go.Proofs.YtmpoeamfcienoaaGreat
end
section
namespace Go.Proofs.YtmpoeamfcienoaaGreat
open Go.Ab
set_option linter.unusedVariables false
set_option linter.unusedSimpArgs false
set_option maxRecDepth 100000
set_option maxHeartbeats 8000000
def isCore (p : Prt) : Bool := decide (p = core p)
theorem ct_part_SameCore {p : Prt} {s : AState} (hl : (p.es.length : Int) < 9223372036854775808) : Gives prog F_part_Same [p.av, (core p).av] s (.v (.bool (isCore p))) s := ct_part_Same hl
theorem ct_part_Is {p : Prt} {s : AState} (hl : (p.es.length : Int) < 9223372036854775808) : Gives prog F_part_Is [p.av] s (.v (.bool (isPart p))) s := by
  refine Runs.gives' (runs_e h_part_Is (Nat.le_of_ble_eq_true rfl) ?_) (.v _)
  repeat' (first | simp -dsimp -implicitDefEqProofs (disch := first | omega | (simp <;> omega) | fail) [*] | (with_reducible apply m_draw) | ((with_reducible refine ⟨m_op ?_, ?_⟩); (focus (simp -dsimp -implicitDefEqProofs (disch := first | omega | (simp <;> omega) | fail) [*]; done))) | ((with_reducible first | apply m_d1 rfl | apply m_dE | apply m_dE0); (focus ((conv => lhs; simp -dsimp -implicitDefEqProofs (disch := first | omega | (simp <;> omega) | fail) [*]); done))) | ((with_reducible apply givQ); (case hAR => ((conv => lhs; simp -dsimp -implicitDefEqProofs (disch := first | omega | (simp <;> omega) | fail) [*]); done)); (case hCT => intro _ _; (first | (apply ct_part_between <;> first | assumption | omega | decide) | (apply ct_part_core <;> first | assumption | omega | decide) | (apply ct_part_SameCore <;> first | assumption | omega | decide) | (apply ct_part_rising <;> first | assumption | omega | decide) | (apply ct_part_isMark <;> first | assumption | omega | decide) | (apply ct_part_IsHardE <;> first | assumption | omega | decide)))) | ((with_reducible first | apply m_1 | apply m_0); (focus ((conv => lhs; simp -dsimp -implicitDefEqProofs (disch := first | omega | (simp <;> omega) | fail) [*]); done))) | ((with_reducible apply giv); (case hAR => ((conv => lhs; simp -dsimp -implicitDefEqProofs (disch := first | omega | (simp <;> omega) | fail) [*]); done)); (case hCT => (first | (apply ct_part_between <;> first | assumption | omega | decide) | (apply ct_part_core <;> first | assumption | omega | decide) | (apply ct_part_SameCore <;> first | assumption | omega | decide) | (apply ct_part_rising <;> first | assumption | omega | decide) | (apply ct_part_isMark <;> first | assumption | omega | decide) | (apply ct_part_IsHardE <;> first | assumption | omega | decide)))) | ((with_reducible first | apply i_T | apply g_T | apply h_T); (focus (simp -dsimp -implicitDefEqProofs (disch := first | omega | (simp <;> omega) | fail) [*]; done))) | ((with_reducible first | apply i_F | apply g_F | apply h_F); (focus (simp -dsimp -implicitDefEqProofs (disch := first | omega | (simp <;> omega) | fail) [*]; done))) | ((with_reducible first | apply s_split | apply s_gsplit | apply s_dsplit) <;> (intro hb; have hb' := hb; try simp only [decide_eq_true_eq, decide_eq_false_iff_not, beq_iff_eq, beq_eq_false_iff_ne, bne_iff_ne, bne_eq_false_iff_eq, ne_eq, Bool.not_true, Bool.not_false, Bool.not_eq_true', Bool.not_eq_false', Bool.and_eq_true, Bool.or_eq_true, Bool.or_eq_false_iff] at hb; try simp at hb')))
  all_goals
    (first | apply ret_ok | apply end_ok); (focus ((conv => lhs; simp (disch := first | omega | (simp <;> omega) | fail)); done)); simp only [retVal]
    refine ⟨(Grows.refl _).alloc _, le_bool ?_⟩
    rw [isPart]; try rw [← isCore]
    first | (simp [*]; done) | (simp [core, Prt.ext_iff, *]; done) | (simp [core, Prt.ext_iff, *]; grind) | (rw [Bool.eq_iff_iff]; simp [core, Prt.ext_iff, okMrk, *]; done) | (rw [Bool.eq_iff_iff]; simp [core, Prt.ext_iff, okMrk, *]; grind [okHrd, btw]) | (rw [Bool.eq_iff_iff]; simp [core, Prt.ext_iff, *]; intro h1 h2 h3; rw [h1, h2, h3]; decide)
theorem ct_laderef4_Is {p : Prt} {s : AState} (hl : (p.es.length : Int) < 9223372036854775808) : Gives prog F_laderef4_Is [p.av] s (.v (.bool (isPart p))) s := by
  refine Runs.gives' (runs_e h_laderef4_Is (Nat.le_of_ble_eq_true rfl) ?_) (.v _)
  repeat' (first | simp -dsimp -implicitDefEqProofs (disch := first | omega | (simp <;> omega) | fail) [*] | ((with_reducible first | apply m_1 | apply m_0); (focus ((conv => lhs; simp -dsimp -implicitDefEqProofs (disch := first | omega | (simp <;> omega) | fail) [*]); done))) | ((with_reducible apply giv); (case hAR => ((conv => lhs; simp -dsimp -implicitDefEqProofs (disch := first | omega | (simp <;> omega) | fail) [*]); done)); (case hCT => (first | (apply ct_laderef4_within <;> first | assumption | omega | decide) | (apply ct_laderef4_entries <;> first | assumption | omega | decide) | (apply ct_laderef4_mark <;> first | assumption | omega | decide) | (apply ct_laderef4_IsHardE <;> first | assumption | omega | decide)))) | ((with_reducible first | apply i_T | apply g_T); (focus (simp -dsimp -implicitDefEqProofs (disch := first | omega | (simp <;> omega) | fail) [*]; done))) | ((with_reducible first | apply i_F | apply g_F); (focus (simp -dsimp -implicitDefEqProofs (disch := first | omega | (simp <;> omega) | fail) [*]; done))) | ((with_reducible first | apply s_split | apply s_gsplit) <;> (intro hb; have hb' := hb; try simp only [decide_eq_true_eq, decide_eq_false_iff_not, beq_iff_eq, beq_eq_false_iff_ne, bne_iff_ne, bne_eq_false_iff_eq, ne_eq, Bool.not_true, Bool.not_false, Bool.not_eq_true', Bool.not_eq_false', Bool.and_eq_true, Bool.or_eq_true, Bool.or_eq_false_iff] at hb; try simp at hb')))
  all_goals
    (first | apply ret_ok | apply end_ok); (focus ((conv => lhs; simp (disch := first | omega | (simp <;> omega) | fail)); done)); simp only [retVal]
    refine ⟨(Grows.refl _).alloc _, le_bool ?_⟩
    rw [isPart]
    first | (simp [*]; done) | (simp [core, Prt.ext_iff, *]; done) | (simp [core, Prt.ext_iff, *]; grind) | (rw [Bool.eq_iff_iff]; simp [core, Prt.ext_iff, okMrk, *]; done) | (rw [Bool.eq_iff_iff]; simp [core, Prt.ext_iff, okMrk, *]; grind [okHrd, btw]) | (rw [Bool.eq_iff_iff]; simp [core, Prt.ext_iff, *]; intro h1 h2 h3; rw [h1, h2, h3]; decide)
end Go.Proofs.YtmpoeamfcienoaaGreat
end
section
namespace Go.Proofs.YtmpoeamfcienoaaGreat
open Go.Ab
set_option linter.unusedVariables false
set_option linter.unusedSimpArgs false
set_option maxRecDepth 100000
set_option maxHeartbeats 4000000
theorem ct_group_Within {g : Grp} {lo hi : Int} {s : AState} : Gives prog F_group_Within [g.av, .v (.int .i64 lo), .v (.int .i64 hi)] s
    (.f (.func F_group_Within_1) [] [.p s.n 0, .p (s.n + 1) 0, .p (s.n + 2) 0]) (((s.alloc (.cells g.cells)).alloc (.cells [.v (.int .i64 lo)])).alloc (.cells [.v (.int .i64 hi)])) := by
  refine runs_e h_group_Within (Nat.le_of_ble_eq_true rfl) ?_
  refine st0 ?_
  exact ret_ok rfl ⟨rfl, rfl⟩
theorem it_group_Within {g : Grp} {lo hi : Int} {b1 b2 b3 : Nat} (hlen : (g.es.length : Int) < 9223372036854775808) :
    Iter prog F_group_Within_1 [] [.p b1 0, .p b2 0, .p b3 0] ((g.es.filter (inR lo hi)).map fun e => [e.av])
      (fun s => s.get b1 = .cells g.cells ∧ s.get b2 = .cells [.v (.int .i64 lo)] ∧ s.get b3 = .cells [.v (.int .i64 hi)]) := by
  intro l s I J hp ha hj hy h0
  obtain ⟨p1, p2, p3⟩ := hp 0 s h0
  refine runs_e h_group_Within_1 (Nat.le_of_ble_eq_true rfl) ?_
  refine st1 p1 ?_
  refine loop_ok [0, 1, 2, 3, 8, 9, 10] (fun m a s1 => ∃ j : Nat, j + m = g.es.length ∧ I ((g.es.take j).filter (inR lo hi)).length s1 ∧ a = { t := den 31 [(0, .y l), (1, .p b1 0), (2, .p b2 0), (3, .p b3 0), (8, .sl (g.es.map Ent.av) .no), (9, .v (.int .i64 g.es.length)), (10, .v (.int .i64 j))], d := [] }) g.es.length ?_ ?_
  · exact ⟨0, by simp, by simpa using h0, by simp⟩
  · rintro m a s1 ⟨j, hjm, hI, rfl⟩
    by_cases hlt : j < g.es.length
    · obtain ⟨e1, e2, e3⟩ := hp _ s1 hI
      have hw : IntKind.wrap .i64 ((j : Int) + 1) = (j : Int) + 1 := wrap_i64 (by omega) (by omega)
      have n2 := AState.lt_of_get e2 (by simp)
      have n3 := AState.lt_of_get e3 (by simp)
      by_cases h1 : lo ≤ g.es[j].ix
      · by_cases h2 : g.es[j].ix < hi
        · have hm : inR lo hi g.es[j] = true := by simp [inR, h1, h2]
          repeat (first | simp -dsimp -implicitDefEqProofs (disch := first | omega | (simp <;> omega) | fail) [hlt, e2, e3, h1, h2] | ((with_reducible first | apply m_1 | apply m_0); (focus ((conv => lhs; simp -dsimp -implicitDefEqProofs (disch := first | omega | (simp <;> omega) | fail) [hlt, e2, e3, h1, h2]); done))) | ((with_reducible first | apply i_T | apply g_T); (focus (simp -dsimp -implicitDefEqProofs (disch := first | omega | (simp <;> omega) | fail) [hlt, e2, e3, h1, h2]; done))) | ((with_reducible first | apply i_F | apply g_F); (focus (simp -dsimp -implicitDefEqProofs (disch := first | omega | (simp <;> omega) | fail) [hlt, e2, e3, h1, h2]; done))))
          obtain ⟨hk, hg⟩ := fget (p := inR lo hi) hlt hm
          have hy' := hy _ (by simpa using hk) _ (ha _ _ (.cells g.es[j].cells) hI)
          simp only [List.getElem_map, hg] at hy'
          refine yr0 (hy') ?_
          rintro _ s2 (⟨rfl, hI2⟩ | ⟨rfl, hJ⟩)
          · refine st0 ?_
            refine ⟨m - 1, by omega, j + 1, by omega, ?_, by simp [hw]⟩
            rw [ftake hlt, if_pos hm]; simpa using hI2
          · refine st0 ?_
            exact ret_ok rfl (.inr hJ)
        · have hm : inR lo hi g.es[j] = false := by simp [inR, h2]
          repeat (first | simp -dsimp -implicitDefEqProofs (disch := first | omega | (simp <;> omega) | fail) [hlt, e2, e3, h1, h2] | ((with_reducible first | apply m_1 | apply m_0); (focus ((conv => lhs; simp -dsimp -implicitDefEqProofs (disch := first | omega | (simp <;> omega) | fail) [hlt, e2, e3, h1, h2]); done))) | ((with_reducible first | apply i_T | apply g_T); (focus (simp -dsimp -implicitDefEqProofs (disch := first | omega | (simp <;> omega) | fail) [hlt, e2, e3, h1, h2]; done))) | ((with_reducible first | apply i_F | apply g_F); (focus (simp -dsimp -implicitDefEqProofs (disch := first | omega | (simp <;> omega) | fail) [hlt, e2, e3, h1, h2]; done))))
          refine ⟨m - 1, by omega, j + 1, by omega, ?_, by simp [hw]⟩
          rw [ftake hlt, if_neg (by simp [hm])]; simpa using ha _ _ (.cells g.es[j].cells) hI
      · have hm : inR lo hi g.es[j] = false := by simp [inR, h1]
        repeat (first | simp -dsimp -implicitDefEqProofs (disch := first | omega | (simp <;> omega) | fail) [hlt, e2, e3, h1] | ((with_reducible first | apply m_1 | apply m_0); (focus ((conv => lhs; simp -dsimp -implicitDefEqProofs (disch := first | omega | (simp <;> omega) | fail) [hlt, e2, e3, h1]); done))) | ((with_reducible first | apply i_T | apply g_T); (focus (simp -dsimp -implicitDefEqProofs (disch := first | omega | (simp <;> omega) | fail) [hlt, e2, e3, h1]; done))) | ((with_reducible first | apply i_F | apply g_F); (focus (simp -dsimp -implicitDefEqProofs (disch := first | omega | (simp <;> omega) | fail) [hlt, e2, e3, h1]; done))))
        refine ⟨m - 1, by omega, j + 1, by omega, ?_, by simp [hw]⟩
        rw [ftake hlt, if_neg (by simp [hm])]; simpa using ha _ _ (.cells g.es[j].cells) hI
    · refine st1 hlt ?_
      have : j = g.es.length := by omega
      subst this
      exact end_ok rfl (.inl (by simpa using hI))
theorem pre_within {g : Grp} {lo hi : Int} {s s' : AState} (h : Grows (((s.alloc (.cells g.cells)).alloc (.cells [.v (.int .i64 lo)])).alloc (.cells [.v (.int .i64 hi)])) s') :
    s'.get s.n = .cells g.cells ∧ s'.get (s.n + 1) = .cells [.v (.int .i64 lo)] ∧ s'.get (s.n + 2) = .cells [.v (.int .i64 hi)] := by
  refine ⟨(h.get (by simp only [AState.n_alloc]; omega)).trans ?_, (h.get (by simp only [AState.n_alloc]; omega)).trans ?_, (h.get (by simp only [AState.n_alloc]; omega)).trans ?_⟩
  all_goals simp (disch := first | omega | (simp <;> omega) | fail)
theorem rn_sparse_from {l : List Ent} {lo hi : Int} {s : AState} (hlen : (l.length : Int) * 32 ≤ 140737488355328) :
    Runs (compCode prog) prog F_sparse_from [.sl (l.map Ent.av) .no, .v (.int .i64 lo), .v (.int .i64 hi)] s (fun x s' => ∃ tk, x = .sl ((l.filter (inR lo hi)).map Ent.av) tk ∧ May s.n s' ((l.filter (inR lo hi)).map Ent.av) tk ∧ Grows s s') := by
  refine runs_e h_sparse_from (Nat.le_of_ble_eq_true rfl) ?_
  refine st0 ?_
  refine gv (ct_group_Within (g := ⟨0, 0, 0, 0, 0, 0, l⟩) (lo := lo) (hi := hi)) ?_
  have hfl := List.length_filter_le (inR lo hi) l
  refine rn0 (rn_slices_Collect_Entry (it_group_Within (g := ⟨0, 0, 0, 0, 0, 0, l⟩) (lo := lo) (hi := hi) (b1 := s.n) (b2 := s.n + 1) (b3 := s.n + 2) (by show (l.length : Int) < _; omega)) (fun s' h => pre_within h) (by show (l.filter (inR lo hi)).length * 32 ≤ _; omega)) ?_
  rintro _ s' ⟨tk, rfl, h1, h2⟩
  refine st0 ?_
  refine ret_ok rfl ⟨tk, rfl, ?_, ?_⟩
  · exact h1.low (by simp <;> omega)
  · exact ((((Grows.refl s).alloc _).alloc _).alloc _).trans h2
theorem ct_sparse_term {g : Grp} {i : Int} {s : AState} (hlen : (g.es.length : Int) < 9223372036854775808) (hi : -9223372036854775808 ≤ i ∧ i < 9223372036854775807) : Gives prog F_sparse_term [g.av, .v (.int .i64 i)] s (.v (.int .i64 (termOf g.es i))) s := by
  refine Runs.gives' (runs_e h_sparse_term (Nat.le_of_ble_eq_true rfl) ?_) (.v _)
  have hw : IntKind.wrap .i64 (i + 1) = i + 1 := wrap_i64 (by omega) (by omega)
  refine st1 hw ?_
  refine gv (ct_group_Within (g := g) (lo := i) (hi := i + 1)) ?_
  refine st0 ?_
  have hfe : termOf g.es i = match g.es.filter (inR i (i + 1)) with | [] => 0 | e :: _ => e.tm := rfl
  have hit := it_group_Within (g := g) (lo := i) (hi := i + 1) (b1 := s.n + 2) (b2 := s.n + 3) (b3 := s.n + 4) hlen
  generalize hfp : g.es.filter (inR i (i + 1)) = fp at hit hfe
  refine w_rangeG (α := Unit) (β := Unit) (m := fp.length) (xs := fp.map fun p => [p.av]) (by simp) hit (by intro x hx; obtain ⟨p, _, rfl⟩ := List.mem_map.1 hx; rfl) (by simp)
    (fun kk _ => ((((s.alloc (.cells g.cells)).alloc (.cells [.v (.int .i64 0)])).alloc (.cells g.cells)).alloc (.cells [.v (.int .i64 i)])).alloc (.cells [.v (.int .i64 (i + 1))]))
    (fun kk _ s' => kk = 0) (fun j _ => ((((s.alloc (.cells g.cells)).alloc (.cells [.v (.int .i64 (termOf g.es i))])).alloc (.cells g.cells)).alloc (.cells [.v (.int .i64 i)])).alloc (.cells [.v (.int .i64 (i + 1))])) (fun j _ _ => j = .ret) () (by simp) (fun s' h => rfl) ?_ (fun _ _ _ o h => h) (fun _ _ _ _ h => h) ?_ ?_ ?_
  · intro kk a s' _ h1 hg
    refine ⟨(hg.get (by simp)).trans ?_, (hg.get (by simp)).trans ?_, (hg.get (by simp)).trans ?_⟩ <;> simp
  · rintro LR LB LJ _ kk hkk _ g2 h1 rfl
    have hkk' : 0 < fp.length := by simpa using hkk
    refine st1 hkk' ?_
    refine ⟨(), by simp, ?_, rfl⟩
    have ht : termOf g.es i = fp[0].tm := by rw [hfe]; cases fp <;> simp_all
    rw [ht]
    simp only [if_true]
    exact ⟨_, allocs_snoc _ _ _⟩
  · rintro LR _ g2 h1 h0
    have hfn : fp = [] := List.length_eq_zero_iff.1 h0
    rw [hfe, hfn]
    refine st0 ?_
    refine ret_okD (by simp) (by simp) (by simp; rfl) ⟨?_, .refl _⟩
    simp only [killAll, List.foldl]
    simp
    exact ((((((Grows.refl s).alloc _).alloc _).alloc _).alloc _).alloc _).alloc _ |>.alloc _ |>.allocs _
  · rintro LJ _ _ g2 h1 rfl
    simp only [AJump.exitOf]
    refine st0 ?_
    refine ret_okD (by simp) (by simp) (by simp; rfl) ⟨?_, .refl _⟩
    simp only [killAll, List.foldl]
    simp
    exact ((((((Grows.refl s).alloc _).alloc _).alloc _).alloc _).alloc _).alloc _ |>.alloc _ |>.allocs _
end Go.Proofs.YtmpoeamfcienoaaGreat
end
section
namespace Go.Proofs.YtmpoeamfcienoaaGreat
open Go.Ab
set_option linter.unusedVariables false
set_option linter.unusedSimpArgs false
set_option maxRecDepth 100000
set_option maxHeartbeats 4000000
def idxS {α : Type} (p : α → Bool) (l : List α) : Int := match l.findIdx? p with | some i => (i : Int) | none => -1
theorem idxS_none {α : Type} {p : α → Bool} {l : List α} (h : ∀ x ∈ l, p x = false) : idxS p l = -1 := by
  unfold idxS
  rw [List.findIdx?_eq_none_iff.2 h]
theorem idxS_some {α : Type} {p : α → Bool} {l : List α} {i : Nat} (hi : i < l.length) (h : ∀ j (hj : j < i), p l[j] = false) (hp : p l[i] = true) : idxS p l = i := by
  unfold idxS
  rw [List.findIdx?_eq_some_iff_getElem.2 ⟨hi, hp, fun j hj => by simp [h j hj]⟩]
theorem idxS_any {α : Type} (p : α → Bool) (l : List α) : decide (0 ≤ idxS p l) = l.any p := by
  unfold idxS
  cases h : l.findIdx? p with
  | none =>
    have h1 := List.findIdx?_eq_none_iff.1 h
    have : l.any p = false := by rw [List.any_eq_false]; intro x hx; simp [h1 x hx]
    rw [this]; decide
  | some i =>
    obtain ⟨hi, hp, _⟩ := List.findIdx?_eq_some_iff_getElem.1 h
    have : l.any p = true := List.any_eq_true.2 ⟨_, List.getElem_mem hi, hp⟩
    rw [this]; simp
theorem ct_slices_IndexFunc_Entry {g : FuncId} {fs caps : List AV} {l : List Ent} {p : Ent → Bool} {s : AState} (hlen : (l.length : Int) < 9223372036854775808) (hg : ∀ e ∈ l, Gives prog g (fs ++ [e.av] ++ caps) s (.v (.bool (p e))) s)
    (hs1 : fs.map AV.strip = fs := by rfl) (hs2 : caps.map AV.strip = caps := by rfl) :
    Gives prog F_slices_IndexFunc_Entry [.sl (l.map Ent.av) .no, .f (.func g) fs caps] s (.v (.int .i64 (idxS p l))) s := by
  refine runs_e h_slices_IndexFunc_Entry (Nat.le_of_ble_eq_true rfl) ?_
  refine st0 ?_
  refine loop_ok [0, 1, 7, 8] (fun k a s1 => s = s1 ∧ ∃ i : Nat, i + k = l.length ∧ (∀ j (hj : j < i) (hj' : j < l.length), p l[j] = false) ∧ a = { t := den 19 [(0, .sl (l.map Ent.av) .no), (1, .f (.func g) fs caps), (7, .v (.int .i64 l.length)), (8, .v (.int .i64 i))], d := [] }) l.length ?_ ?_
  · exact ⟨rfl, 0, by simp, fun j hj => by omega, by simp⟩
  rintro k a _ ⟨rfl, i, hik, hno, rfl⟩
  by_cases hlt : i < l.length
  · have hw : IntKind.wrap .i64 ((i : Int) + 1) = (i : Int) + 1 := wrap_i64 (by omega) (by omega)
    repeat (first | simp -dsimp -implicitDefEqProofs (disch := first | omega | (simp <;> omega) | fail) [hlt] | ((with_reducible first | apply m_1 | apply m_0); (focus ((conv => lhs; simp -dsimp -implicitDefEqProofs (disch := first | omega | (simp <;> omega) | fail) [hlt]); done))) | ((with_reducible first | apply i_T | apply g_T); (focus (simp -dsimp -implicitDefEqProofs (disch := first | omega | (simp <;> omega) | fail) [hlt]; done))) | ((with_reducible first | apply i_F | apply g_F); (focus (simp -dsimp -implicitDefEqProofs (disch := first | omega | (simp <;> omega) | fail) [hlt]; done))))
    refine giv (hg l[i] (List.getElem_mem hlt)) ?_ ?_
    · simp [hs1, hs2]
    cases hp : p l[i] with
    | true =>
      refine st0 ?_
      exact ret_ok rfl ⟨by rw [idxS_some hlt (fun j hj => hno j hj (by omega)) hp]; rfl, rfl⟩
    | false =>
      refine st0 ?_
      refine ⟨k - 1, by omega, rfl, i + 1, by omega, fun j hj hj' => ?_, by simp [hw]⟩
      by_cases e : j = i
      · subst e; exact hp
      · exact hno j (by omega) hj'
  · refine st1 hlt ?_
    exact ret_ok rfl ⟨by rw [idxS_none (fun x hx => by obtain ⟨j, hj, rfl⟩ := List.getElem_of_mem hx; exact hno j (by omega) hj)]; rfl, rfl⟩
theorem ct_slices_ContainsFunc_Entry {g : FuncId} {fs caps : List AV} {l : List Ent} {p : Ent → Bool} {s : AState} (hlen : (l.length : Int) < 9223372036854775808) (hg : ∀ e ∈ l, Gives prog g (fs ++ [e.av] ++ caps) s (.v (.bool (p e))) s) (hs1 : fs.map AV.strip = fs := by rfl) (hs2 : caps.map AV.strip = caps := by rfl) :
    Gives prog F_slices_ContainsFunc_Entry [.sl (l.map Ent.av) .no, .f (.func g) fs caps] s (.v (.bool (l.any p))) s := by
  refine runs_e h_slices_ContainsFunc_Entry (Nat.le_of_ble_eq_true rfl) ?_
  refine st0 ?_
  refine gv (ct_slices_IndexFunc_Entry (l := l) (g := g) (fs := fs) (caps := caps) (p := p) hlen hg hs1 hs2) ?_
  have h := idxS_any p l
  by_cases h0 : 0 ≤ idxS p l
  · rw [decide_eq_true h0] at h
    refine st1 h0 ?_
    exact ret_ok rfl ⟨by rw [← h]; rfl, rfl⟩
  · rw [decide_eq_false h0] at h
    refine st1 h0 ?_
    exact ret_ok rfl ⟨by rw [← h]; rfl, rfl⟩
theorem ct_sparse_there_1 {e : Ent} {i : Int} {b : Nat} {s : AState} (hb : s.get b = .cells [.v (.int .i64 i)]) : Gives prog F_sparse_there_1 [e.av, .p b 0] s (.v (.bool (decide (e.ix = i)))) s := by
  refine Runs.gives' (runs_e h_sparse_there_1 (Nat.le_of_ble_eq_true rfl) ?_) (.v _)
  have hbn := AState.lt_of_get hb (by simp)
  refine st1 hb ?_
  refine ret_ok rfl ⟨(Grows.refl _).alloc _, ?_⟩
  rw [show decide (e.ix = i) = (e.ix == i) by by_cases h : e.ix = i <;> simp [h]]
  exact .refl _
theorem ct_sparse_there {g : Grp} {i : Int} {s : AState} (hlen : (g.es.length : Int) < 9223372036854775808) : Gives prog F_sparse_there [g.av, .v (.int .i64 i)] s (.v (.bool (hasIx g.es i))) s := by
  refine Runs.gives' (runs_e h_sparse_there (Nat.le_of_ble_eq_true rfl) ?_) (.v _)
  refine st0 ?_
  refine gv (ct_slices_ContainsFunc_Entry (l := g.es) (g := F_sparse_there_1) (fs := []) (caps := [.p (s.n + 1) 0]) (p := fun e => decide (e.ix = i)) hlen (fun e _ => ct_sparse_there_1 (b := s.n + 1) (by simp))) ?_
  refine st0 ?_
  exact ret_ok rfl ⟨((Grows.refl _).alloc _).alloc _, .refl _⟩
theorem ct_slices_Index_Entry {l : List Ent} {x : Ent} {s : AState} (hlen : (l.length : Int) < 9223372036854775808) : Gives prog F_slices_Index_Entry [.sl (l.map Ent.av) .no, x.av] s (.v (.int .i64 (idxS (fun e => decide (x = e)) l))) s := by
  refine Runs.gives' (runs_e h_slices_Index_Entry (Nat.le_of_ble_eq_true rfl) ?_) (.v _)
  refine st0 ?_
  refine loop_ok [0, 3, 7, 8] (fun k a s1 => s.alloc (.cells x.cells) = s1 ∧ ∃ i : Nat, i + k = l.length ∧ (∀ j (hj : j < i) (hj' : j < l.length), ¬ x = l[j]) ∧ a = { t := den 19 [(0, .sl (l.map Ent.av) .no), (3, .p s.n 0), (7, .v (.int .i64 l.length)), (8, .v (.int .i64 i))], d := [] }) l.length ?_ ?_
  · exact ⟨rfl, 0, by simp, fun j hj => by omega, by simp⟩
  rintro k a _ ⟨rfl, i, hik, hno, rfl⟩
  by_cases hlt : i < l.length
  · have hw : IntKind.wrap .i64 ((i : Int) + 1) = (i : Int) + 1 := wrap_i64 (by omega) (by omega)
    by_cases hp : x = l[i]
    · have e1 : (decide (x = l[i])) = true := by simp [hp]
      repeat (first | simp -dsimp -implicitDefEqProofs (disch := first | omega | (simp <;> omega) | fail) [hlt, hp] | ((with_reducible first | apply m_1 | apply m_0); (focus ((conv => lhs; simp -dsimp -implicitDefEqProofs (disch := first | omega | (simp <;> omega) | fail) [hlt, hp]); done))) | ((with_reducible first | apply i_T | apply g_T); (focus (simp -dsimp -implicitDefEqProofs (disch := first | omega | (simp <;> omega) | fail) [hlt, hp]; done))) | ((with_reducible first | apply i_F | apply g_F); (focus (simp -dsimp -implicitDefEqProofs (disch := first | omega | (simp <;> omega) | fail) [hlt, hp]; done))))
      refine ret_ok rfl ⟨(Grows.refl _).alloc _, ?_⟩
      rw [idxS_some (p := fun e => decide (x = e)) hlt (fun j hj => by simpa using hno j hj (by omega)) (by simpa using hp)]
      exact .refl _
    · repeat (first | simp -dsimp -implicitDefEqProofs (disch := first | omega | (simp <;> omega) | fail) [hlt, hp] | ((with_reducible first | apply m_1 | apply m_0); (focus ((conv => lhs; simp -dsimp -implicitDefEqProofs (disch := first | omega | (simp <;> omega) | fail) [hlt, hp]); done))) | ((with_reducible first | apply i_T | apply g_T); (focus (simp -dsimp -implicitDefEqProofs (disch := first | omega | (simp <;> omega) | fail) [hlt, hp]; done))) | ((with_reducible first | apply i_F | apply g_F); (focus (simp -dsimp -implicitDefEqProofs (disch := first | omega | (simp <;> omega) | fail) [hlt, hp]; done))))
      refine ⟨k - 1, by omega, rfl, i + 1, by omega, fun j hj hj' => ?_, by simp [hw]⟩
      by_cases e : j = i
      · subst e; exact hp
      · exact hno j (by omega) hj'
  · refine st1 hlt ?_
    refine ret_ok rfl ⟨(Grows.refl _).alloc _, ?_⟩
    rw [idxS_none (fun e he => by obtain ⟨j, hj, rfl⟩ := List.getElem_of_mem he; simpa using hno j (by omega) hj)]
    exact .refl _
theorem ct_slices_Contains_Entry {l : List Ent} {x : Ent} {s : AState} (hlen : (l.length : Int) < 9223372036854775808) : Gives prog F_slices_Contains_Entry [.sl (l.map Ent.av) .no, x.av] s (.v (.bool (l.any fun e => decide (x = e)))) s := by
  refine Runs.gives' (runs_e h_slices_Contains_Entry (Nat.le_of_ble_eq_true rfl) ?_) (.v _)
  refine st0 ?_
  refine gv (ct_slices_Index_Entry (l := l) (x := x) hlen) ?_
  rw [← idxS_any]
  by_cases h0 : 0 ≤ idxS (fun e => decide (x = e)) l
  · refine st1 h0 ?_
    exact ret_ok rfl ⟨(Grows.refl _).alloc _, by rw [decide_eq_true h0]; exact .refl _⟩
  · refine st1 h0 ?_
    exact ret_ok rfl ⟨(Grows.refl _).alloc _, by rw [decide_eq_false h0]; exact .refl _⟩
end Go.Proofs.YtmpoeamfcienoaaGreat
end
section
namespace Go.Proofs.YtmpoeamfcienoaaGreat
open Go.Ab
set_option linter.unusedVariables false
set_option linter.unusedSimpArgs false
set_option maxRecDepth 100000
set_option maxHeartbeats 4000000
theorem ct_group_Head {g : Grp} {s : AState} : Gives prog F_group_Head [g.av] s (.v (.bool (okHead g))) s := by
  refine Runs.gives' (runs_e h_group_Head (Nat.le_of_ble_eq_true rfl) ?_) (.v _)
  repeat' (first | refine sa0c1 @ct_part_IsHardE ?_ | ((with_reducible first | apply s_split | apply s_gsplit) <;> (intro hb; have hb' := hb; try simp only [decide_eq_true_eq, decide_eq_false_iff_not, beq_iff_eq, beq_eq_false_iff_ne, bne_iff_ne, bne_eq_false_iff_eq, ne_eq, Bool.not_true, Bool.not_false, Bool.not_eq_true', Bool.not_eq_false', Bool.and_eq_true, Bool.or_eq_true, Bool.or_eq_false_iff] at hb; try simp at hb')))
  all_goals refine ret_ok rfl ⟨(Grows.refl _).alloc _, ?_⟩; simp [okHead, btw, MI, *, AV.le.refl]
theorem ct_sparse_Is {g : Grp} {s : AState} (h : Spar g) : Gives prog F_sparse_Is [g.av] s (.v (.bool true)) s := by
  have hlen := h.len
  have hMI := MI_eq
  have h0 := okHead_iff.1 h.hd
  refine Runs.gives' (runs_e h_sparse_Is (Nat.le_of_ble_eq_true rfl) ?_) (.v _)
  have hw : IntKind.wrap .i64 (g.fi - 1) = g.fi - 1 := wrap_i64 (by omega) (by omega)
  refine st1 hw ?_
  refine gv (ct_slices_Values_Entry (xs := g.es.map Ent.av)) ?_
  refine st0 ?_
  have hit := it_slices_Values_Entry g.es (s.n + 3) (by omega)
  refine w_rangeG (α := Unit) (β := Unit) (m := g.es.length) (by simp) hit (by intro x hx; obtain ⟨p, _, rfl⟩ := List.mem_map.1 hx; rfl) (by simp)
    (fun kk _ => (((s.alloc (.cells g.cells)).alloc (.cells [.v (.bool false)])).alloc (.cells [.v (.int .i64 (if kk = 0 then g.fi - 1 else (g.es.getD (kk - 1) default).ix))])).alloc (.cells [.sl (g.es.map Ent.av) .no]))
    (fun kk _ s' => True) (fun j _ => s) (fun j _ _ => False) () (by simp) (fun s' h => trivial) ?_ (fun _ _ _ o h => h) (fun _ _ _ _ h => h) ?_ ?_ (fun _ _ _ _ _ h => h.elim)
  · intro kk a s' _ h1 hg
    refine (hg.get (by simp)).trans ?_
    simp
  · rintro LR LB LJ _ kk hkk _ g2 h1 _
    have hkk' : kk < g.es.length := by simpa using hkk
    have hok := h.ok _ (List.getElem_mem hkk')
    have hlow : ¬ (g.es[kk].ix ≤ (if kk = 0 then g.fi - 1 else (g.es.getD (kk - 1) default).ix)) := by
      split
      · have := h.fi _ (List.getElem_mem hkk'); omega
      · have := List.pairwise_iff_getElem.1 h.srt (kk - 1) kk (by omega) hkk' (by omega)
        simp [show kk - 1 < g.es.length by omega]
        omega
    generalize (if kk = 0 then g.fi - 1 else (g.es.getD (kk - 1) default).ix) = last at hlow
    refine st3c1 @ct_part_IsEntry hkk' hok hlow ?_
    refine ⟨(), by simp, ?_, trivial⟩
    have e : (if kk + 1 = 0 then g.fi - 1 else (g.es.getD (kk + 1 - 1) default).ix) = g.es[kk].ix := by simp [hkk']
    simp only [e, if_true]
    exact ⟨_, allocs_snoc _ _ _⟩
  · rintro LR _ g2 h1 _
    have hhd := h.hd
    refine st1c1 @ct_group_Head hhd ?_
    refine ret_okD (by simp) (by simp) (by simp; rfl) ⟨?_, .refl _⟩
    simp only [killAll, List.foldl]
    simp
    exact (((((Grows.refl s).alloc _).alloc _).alloc _).alloc _).alloc _ |>.alloc _ |>.allocs _
theorem ct_sparse_gone {g : Grp} {i t : Int} {s : AState} (h : Spar g) (hi : 0 ≤ i ∧ i ≤ MI) : Gives prog F_sparse_gone [g.av, .v (.int .i64 i), .v (.int .i64 t)] s (goneS g i t).av s := by
  have hlen := h.len
  have hMI := MI_eq
  have h0 := okHead_iff.1 h.hd
  refine Runs.gives' (runs_e h_sparse_gone (Nat.le_of_ble_eq_true rfl) ?_) (Grp.row _).flat
  have hw : IntKind.wrap .i64 (i + 1) = i + 1 := wrap_i64 (by omega) (by omega)
  by_cases hlt : i < g.fi
  · refine st1 hlt ?_
    refine ret_ok (by simp; rfl) ⟨((Grows.refl _).alloc _).alloc _, ?_⟩
    unfold goneS
    rw [if_pos hlt]
    exact .refl _
  · by_cases ht : t = 0
    · subst ht
      refine st1 hlt ?_
      refine gv (ct_sparse_term (g := g) (i := i) (by omega) (by omega)) ?_
      refine st1 hw ?_
      refine rn0 (rn_sparse_from (l := g.es) (lo := i + 1) (hi := 1099511627777) (by omega)) ?_
      rintro _ _ ⟨tk, rfl, hm, ⟨gg, rfl⟩⟩
      refine st1 hw ?_
      refine ret_ok (by simp; rfl) ⟨?_, ?_⟩
      · exact (((Grows.refl s).alloc _).alloc _).allocs _
      · have := AV.le_strip (retVal [AV.agg [AV.v (.int .i64 g.id), .v (.int .i64 (i + 1)), .v (.int .i64 (termOf g.es i)), .v (.int .i64 g.ht), .v (.int .i64 g.hv), .v (.int .i64 g.hc), .sl ((g.es.filter (inR (i + 1) 1099511627777)).map Ent.av) tk]])
        simpa [goneS, hlt, Grp.av, Grp.cells, MI, retVal] using this
    · refine st3 hlt ht hw ?_
      refine rn0 (rn_sparse_from (l := g.es) (lo := i + 1) (hi := 1099511627777) (by omega)) ?_
      rintro _ _ ⟨tk, rfl, hm, ⟨gg, rfl⟩⟩
      refine st1 hw ?_
      refine ret_ok (by simp; rfl) ⟨?_, ?_⟩
      · exact (((Grows.refl s).alloc _).alloc _).allocs _
      · have := AV.le_strip (retVal [AV.agg [AV.v (.int .i64 g.id), .v (.int .i64 (i + 1)), .v (.int .i64 t), .v (.int .i64 g.ht), .v (.int .i64 g.hv), .v (.int .i64 g.hc), .sl ((g.es.filter (inR (i + 1) 1099511627777)).map Ent.av) tk]])
        simpa [goneS, hlt, ht, Grp.av, Grp.cells, MI, retVal] using this
end Go.Proofs.YtmpoeamfcienoaaGreat
end
section
namespace Go.Proofs.YtmpoeamfcienoaaGreat
open Go.Ab
set_option linter.unusedVariables false
set_option linter.unusedSimpArgs false
set_option maxRecDepth 100000
set_option maxHeartbeats 4000000
theorem rn_sparse_fromT {l : List Ent} {lo hi : Int} {tk0 : Tok} {s : AState} (hlen : (l.length : Int) * 32 ≤ 140737488355328) :
    Runs (compCode prog) prog F_sparse_from [.sl (l.map Ent.av) tk0, .v (.int .i64 lo), .v (.int .i64 hi)] s (fun x s' => ∃ tk, x = .sl ((l.filter (inR lo hi)).map Ent.av) tk ∧ May s.n s' ((l.filter (inR lo hi)).map Ent.av) tk ∧ Grows s s') :=
  Runs.strip (by simpa using rn_sparse_from hlen)
def grpT (g : Grp) (tk : Tok) : List AV := [.v (.int .i64 g.id), .v (.int .i64 g.fi), .v (.int .i64 g.tm), .v (.int .i64 g.ht), .v (.int .i64 g.hv), .v (.int .i64 g.hc), .sl (g.es.map Ent.av) tk]
def fwd0 (g : Grp) (p : Prt) : Grp :=
  let g1 := if p.mr then goneS g p.ix p.tm else g
  if p.he then { g1 with ht := p.ht, hv := p.hv, hc := p.hc } else g1
theorem fwdS_eq (g : Grp) (p : Prt) : fwdS g p = p.es.foldl putS (fwd0 g p) := rfl
theorem puts_snoc {g : Grp} {l : List Ent} {k : Nat} (h : k < l.length) : (l.take (k + 1)).foldl putS g = putS ((l.take k).foldl putS g) l[k] := by
  rw [List.take_succ_eq_append_getElem h, List.foldl_append]; rfl
structure FwdOk (g : Grp) (p : Prt) : Prop where
  sp : Spar (fwd0 g p)
  es : ∀ e ∈ p.es, okEnt e = true
  ln : (p.es.length : Int) ≤ 6
  ix : p.mr = true → 0 ≤ p.ix ∧ p.ix ≤ MI
theorem ct_sparse_forwardTT {g : Grp} {p : Prt} {s : AState} (h : Spar g) (hf : FwdOk g p) (hm : p.mr = true) (hh : p.he = true) : Gives prog F_sparse_forward [g.av, p.av] s (fwdS g p).av s := by
  have hMI := MI_eq
  refine Runs.gives' (runs_e h_sparse_forward (Nat.le_of_ble_eq_true rfl) ?_) (Grp.row _).flat
  have hsp := hf.sp
  have hes := hf.es
  have hln := hf.ln
  refine st2 hm hh ?_
  refine gv (ct_sparse_gone (g := g) (i := p.ix) (t := p.tm) h (hf.ix hm)) ?_
  refine st2 hm hh ?_
  refine gv (ct_slices_Values_Entry (xs := p.es.map Ent.av)) ?_
  refine st0 ?_
  have hit := it_slices_Values_Entry p.es (s.n + 3) (by omega)
  refine w_rangeG (α := Tok) (β := Unit) (m := p.es.length) (by simp) hit (by intro x hx; obtain ⟨p, _, rfl⟩ := List.mem_map.1 hx; rfl) (by simp)
    (fun kk tk => (((s.alloc (.cells (grpT ((p.es.take kk).foldl putS (fwd0 g p)) tk))).alloc (.cells p.cells)).alloc (.cells [.v (.int .i64 0), .v (.int .i64 0), .v (.int .i64 0), .v (.int .i64 0), .v (.int .i64 0), .v (.int .i64 0), .sl [] .zero])).alloc (.cells [.sl (p.es.map Ent.av) .no]))
    (fun kk _ s' => True) (fun j _ => s) (fun j _ _ => False) .no (by simp [grpT, fwd0, hm, hh, Grp.cells]) (fun s' h => trivial) ?_ (fun _ _ _ o h => h) (fun _ _ _ _ h => h) ?_ ?_ (fun _ _ _ _ _ h => h.elim)
  · intro kk a s' _ h1 hg
    refine (hg.get (by simp)).trans ?_
    simp
  · rintro LR LB LJ _ kk hkk tk g2 h1 _
    have hkk' : kk < p.es.length := by simpa using hkk
    have hok := okEnt_iff.1 (hes _ (List.getElem_mem hkk'))
    have hG : Spar ((p.es.take kk).foldl putS (fwd0 g p)) := hsp.puts (fun e he => hes e (List.mem_of_mem_take he))
    have hsn := puts_snoc (g := fwd0 g p) hkk'
    generalize (p.es.take kk).foldl putS (fwd0 g p) = G at hG hsn
    rw [hsn]
    have hGl := hG.len
    unfold grpT
    by_cases h2 : p.es[kk].ix < G.fi
    · refine st2 hkk' h2 ?_
      have e : putS G p.es[kk] = G := by unfold putS; rw [if_pos (.inl h2)]
      rw [e]
      exact ⟨tk, by simp, by simp only [if_true]; exact ⟨_, allocs_snoc _ _ _⟩, trivial⟩
    · refine st2 hkk' h2 ?_
      refine gv (ct_sparse_there (g := G) (i := p.es[kk].ix) (by omega)) ?_
      cases ht : hasIx G.es p.es[kk].ix with
      | true =>
        refine st1 ht ?_
        have e : putS G p.es[kk] = G := by unfold putS; rw [if_pos (.inr ht)]
        rw [e]
        exact ⟨tk, by simp, by simp only [if_true]; exact ⟨_, allocs_snoc _ _ _⟩, trivial⟩
      | false =>
        refine sd1 ht ?_
        refine run (rn_sparse_fromT (l := G.es) (lo := G.fi) (hi := p.es[kk].ix) (tk0 := tk) (by omega)) (by first | (simp; done) | rfl) ?_
        rintro _ s1 ⟨tk1, rfl, hm1, hg1⟩
        refine ⟨.of_ext hg1.ext, ?_⟩
        refine run (rn_sparse_fromT (l := G.es) (lo := p.es[kk].ix) (hi := 1099511627777) (tk0 := tk) (by omega)) (by first | (simp; done) | rfl) ?_
        rintro _ s2 ⟨tk2, rfl, hm2, hg2⟩
        refine ⟨.of_ext hg2.ext, ?_⟩
        have hm1' := hm1.grows hg2
        obtain ⟨g3, rfl⟩ := hg1.trans hg2
        clear hm1 hm2 hg1 hg2
        have hfl := List.length_filter_le (inR G.fi p.es[kk].ix) G.es
        have hfl2 := List.length_filter_le (inR p.es[kk].ix 1099511627777) G.es
        refine sd0 ?_
        refine o_appA (B := _) (N := _) (by first | (simp; done) | (simp; rfl)) (by simp; exact ⟨rfl, rfl⟩) ⟨g3, rfl⟩ (Nat.le_refl _) (by simp) hm1' (by simp) (by simp) (by simp; omega) (by simp; omega) ?_
        rintro s3 tk3 hg3 hm3 _ _
        refine st0 ?_
        refine o_appA (B := _) (N := _) (by first | (simp; done) | (simp; rfl)) (by first | (simp; done) | (simp; exact ⟨rfl, rfl⟩)) hg3 (Nat.le_refl _) hg3.n hm3 (by have := head_map (f := Ent.av) Ent.row (G.es.filter (inR G.fi p.es[kk].ix) ++ [p.es[kk]]); simpa using this) (by simp) (by simp; omega) (by simp; omega) ?_
        rintro s4 tk4 ⟨g4, rfl⟩ hm4 _ _
        refine st0 ?_
        have e : putS G p.es[kk] = { G with es := G.es.filter (inR G.fi p.es[kk].ix) ++ p.es[kk] :: G.es.filter (inR p.es[kk].ix (MI + 1)) } := by
          unfold putS; rw [if_neg]; intro h; rcases h with h | h
          · exact h2 h
          · rw [ht] at h; cases h
        rw [e]
        refine ⟨tk4, by simp, ?_, trivial⟩
        have hM1 : MI + 1 = 1099511627777 := by omega
        simp only [if_true, hM1, List.map_append, List.map_cons]
        have hgr := ((Grows.refl (((((s.alloc (.cells (grpT { G with es := G.es.filter (inR G.fi p.es[kk].ix) ++ p.es[kk] :: G.es.filter (inR p.es[kk].ix 1099511627777) } tk4))).alloc (.cells p.cells)).alloc (.cells [.v (.int .i64 0), .v (.int .i64 0), .v (.int .i64 0), .v (.int .i64 0), .v (.int .i64 0), .v (.int .i64 0), .sl [] .zero])).alloc (.cells [.sl (p.es.map Ent.av) .no])).alloc .defd |>.alloc LR)).allocs g2).alloc (.cells p.es[kk].cells) |>.allocs g4
        simpa [grpT, List.append_assoc] using hgr
  · rintro LR tk g2 h1 _
    unfold grpT
    refine st0 ?_
    refine ret_okD (by simp) (by simp) (by simp; rfl) ⟨?_, ?_⟩
    · simp only [killAll, List.foldl]
      simp
      exact (((((Grows.refl s).alloc _).alloc _).alloc _).alloc _).alloc _ |>.alloc _ |>.allocs _
    · rw [fwdS_eq]
      exact (AV.le_strip _).trans (by simp [Grp.av, Grp.cells, retVal]; exact .refl _)
theorem ct_sparse_forwardTF {g : Grp} {p : Prt} {s : AState} (h : Spar g) (hf : FwdOk g p) (hm : p.mr = true) (hh : p.he = false) : Gives prog F_sparse_forward [g.av, p.av] s (fwdS g p).av s := by
  have hMI := MI_eq
  refine Runs.gives' (runs_e h_sparse_forward (Nat.le_of_ble_eq_true rfl) ?_) (Grp.row _).flat
  have hsp := hf.sp
  have hes := hf.es
  have hln := hf.ln
  refine st2 hm hh ?_
  refine gv (ct_sparse_gone (g := g) (i := p.ix) (t := p.tm) h (hf.ix hm)) ?_
  refine st2 hm hh ?_
  refine gv (ct_slices_Values_Entry (xs := p.es.map Ent.av)) ?_
  refine st0 ?_
  have hit := it_slices_Values_Entry p.es (s.n + 3) (by omega)
  refine w_rangeG (α := Tok) (β := Unit) (m := p.es.length) (by simp) hit (by intro x hx; obtain ⟨p, _, rfl⟩ := List.mem_map.1 hx; rfl) (by simp)
    (fun kk tk => (((s.alloc (.cells (grpT ((p.es.take kk).foldl putS (fwd0 g p)) tk))).alloc (.cells p.cells)).alloc (.cells [.v (.int .i64 0), .v (.int .i64 0), .v (.int .i64 0), .v (.int .i64 0), .v (.int .i64 0), .v (.int .i64 0), .sl [] .zero])).alloc (.cells [.sl (p.es.map Ent.av) .no]))
    (fun kk _ s' => True) (fun j _ => s) (fun j _ _ => False) .no (by simp [grpT, fwd0, hm, hh, Grp.cells]) (fun s' h => trivial) ?_ (fun _ _ _ o h => h) (fun _ _ _ _ h => h) ?_ ?_ (fun _ _ _ _ _ h => h.elim)
  · intro kk a s' _ h1 hg
    refine (hg.get (by simp)).trans ?_
    simp
  · rintro LR LB LJ _ kk hkk tk g2 h1 _
    have hkk' : kk < p.es.length := by simpa using hkk
    have hok := okEnt_iff.1 (hes _ (List.getElem_mem hkk'))
    have hG : Spar ((p.es.take kk).foldl putS (fwd0 g p)) := hsp.puts (fun e he => hes e (List.mem_of_mem_take he))
    have hsn := puts_snoc (g := fwd0 g p) hkk'
    generalize (p.es.take kk).foldl putS (fwd0 g p) = G at hG hsn
    rw [hsn]
    have hGl := hG.len
    unfold grpT
    by_cases h2 : p.es[kk].ix < G.fi
    · refine st2 hkk' h2 ?_
      have e : putS G p.es[kk] = G := by unfold putS; rw [if_pos (.inl h2)]
      rw [e]
      exact ⟨tk, by simp, by simp only [if_true]; exact ⟨_, allocs_snoc _ _ _⟩, trivial⟩
    · refine st2 hkk' h2 ?_
      refine gv (ct_sparse_there (g := G) (i := p.es[kk].ix) (by omega)) ?_
      cases ht : hasIx G.es p.es[kk].ix with
      | true =>
        refine st1 ht ?_
        have e : putS G p.es[kk] = G := by unfold putS; rw [if_pos (.inr ht)]
        rw [e]
        exact ⟨tk, by simp, by simp only [if_true]; exact ⟨_, allocs_snoc _ _ _⟩, trivial⟩
      | false =>
        refine sd1 ht ?_
        refine run (rn_sparse_fromT (l := G.es) (lo := G.fi) (hi := p.es[kk].ix) (tk0 := tk) (by omega)) (by first | (simp; done) | rfl) ?_
        rintro _ s1 ⟨tk1, rfl, hm1, hg1⟩
        refine ⟨.of_ext hg1.ext, ?_⟩
        refine run (rn_sparse_fromT (l := G.es) (lo := p.es[kk].ix) (hi := 1099511627777) (tk0 := tk) (by omega)) (by first | (simp; done) | rfl) ?_
        rintro _ s2 ⟨tk2, rfl, hm2, hg2⟩
        refine ⟨.of_ext hg2.ext, ?_⟩
        have hm1' := hm1.grows hg2
        obtain ⟨g3, rfl⟩ := hg1.trans hg2
        clear hm1 hm2 hg1 hg2
        have hfl := List.length_filter_le (inR G.fi p.es[kk].ix) G.es
        have hfl2 := List.length_filter_le (inR p.es[kk].ix 1099511627777) G.es
        refine sd0 ?_
        refine o_appA (B := _) (N := _) (by first | (simp; done) | (simp; rfl)) (by simp; exact ⟨rfl, rfl⟩) ⟨g3, rfl⟩ (Nat.le_refl _) (by simp) hm1' (by simp) (by simp) (by simp; omega) (by simp; omega) ?_
        rintro s3 tk3 hg3 hm3 _ _
        refine st0 ?_
        refine o_appA (B := _) (N := _) (by first | (simp; done) | (simp; rfl)) (by first | (simp; done) | (simp; exact ⟨rfl, rfl⟩)) hg3 (Nat.le_refl _) hg3.n hm3 (by have := head_map (f := Ent.av) Ent.row (G.es.filter (inR G.fi p.es[kk].ix) ++ [p.es[kk]]); simpa using this) (by simp) (by simp; omega) (by simp; omega) ?_
        rintro s4 tk4 ⟨g4, rfl⟩ hm4 _ _
        refine st0 ?_
        have e : putS G p.es[kk] = { G with es := G.es.filter (inR G.fi p.es[kk].ix) ++ p.es[kk] :: G.es.filter (inR p.es[kk].ix (MI + 1)) } := by
          unfold putS; rw [if_neg]; intro h; rcases h with h | h
          · exact h2 h
          · rw [ht] at h; cases h
        rw [e]
        refine ⟨tk4, by simp, ?_, trivial⟩
        have hM1 : MI + 1 = 1099511627777 := by omega
        simp only [if_true, hM1, List.map_append, List.map_cons]
        have hgr := ((Grows.refl (((((s.alloc (.cells (grpT { G with es := G.es.filter (inR G.fi p.es[kk].ix) ++ p.es[kk] :: G.es.filter (inR p.es[kk].ix 1099511627777) } tk4))).alloc (.cells p.cells)).alloc (.cells [.v (.int .i64 0), .v (.int .i64 0), .v (.int .i64 0), .v (.int .i64 0), .v (.int .i64 0), .v (.int .i64 0), .sl [] .zero])).alloc (.cells [.sl (p.es.map Ent.av) .no])).alloc .defd |>.alloc LR)).allocs g2).alloc (.cells p.es[kk].cells) |>.allocs g4
        simpa [grpT, List.append_assoc] using hgr
  · rintro LR tk g2 h1 _
    unfold grpT
    refine st0 ?_
    refine ret_okD (by simp) (by simp) (by simp; rfl) ⟨?_, ?_⟩
    · simp only [killAll, List.foldl]
      simp
      exact (((((Grows.refl s).alloc _).alloc _).alloc _).alloc _).alloc _ |>.alloc _ |>.allocs _
    · rw [fwdS_eq]
      exact (AV.le_strip _).trans (by simp [Grp.av, Grp.cells, retVal]; exact .refl _)
theorem ct_sparse_forwardFT {g : Grp} {p : Prt} {s : AState} (h : Spar g) (hf : FwdOk g p) (hm : p.mr = false) (hh : p.he = true) : Gives prog F_sparse_forward [g.av, p.av] s (fwdS g p).av s := by
  have hMI := MI_eq
  refine Runs.gives' (runs_e h_sparse_forward (Nat.le_of_ble_eq_true rfl) ?_) (Grp.row _).flat
  have hsp := hf.sp
  have hes := hf.es
  have hln := hf.ln
  refine st2 hm hh ?_
  skip
  refine st2 hm hh ?_
  refine gv (ct_slices_Values_Entry (xs := p.es.map Ent.av)) ?_
  refine st0 ?_
  have hit := it_slices_Values_Entry p.es (s.n + 3) (by omega)
  refine w_rangeG (α := Tok) (β := Unit) (m := p.es.length) (by simp) hit (by intro x hx; obtain ⟨p, _, rfl⟩ := List.mem_map.1 hx; rfl) (by simp)
    (fun kk tk => (((s.alloc (.cells (grpT ((p.es.take kk).foldl putS (fwd0 g p)) tk))).alloc (.cells p.cells)).alloc (.cells [.v (.int .i64 0), .v (.int .i64 0), .v (.int .i64 0), .v (.int .i64 0), .v (.int .i64 0), .v (.int .i64 0), .sl [] .zero])).alloc (.cells [.sl (p.es.map Ent.av) .no]))
    (fun kk _ s' => True) (fun j _ => s) (fun j _ _ => False) .no (by simp [grpT, fwd0, hm, hh, Grp.cells]) (fun s' h => trivial) ?_ (fun _ _ _ o h => h) (fun _ _ _ _ h => h) ?_ ?_ (fun _ _ _ _ _ h => h.elim)
  · intro kk a s' _ h1 hg
    refine (hg.get (by simp)).trans ?_
    simp
  · rintro LR LB LJ _ kk hkk tk g2 h1 _
    have hkk' : kk < p.es.length := by simpa using hkk
    have hok := okEnt_iff.1 (hes _ (List.getElem_mem hkk'))
    have hG : Spar ((p.es.take kk).foldl putS (fwd0 g p)) := hsp.puts (fun e he => hes e (List.mem_of_mem_take he))
    have hsn := puts_snoc (g := fwd0 g p) hkk'
    generalize (p.es.take kk).foldl putS (fwd0 g p) = G at hG hsn
    rw [hsn]
    have hGl := hG.len
    unfold grpT
    by_cases h2 : p.es[kk].ix < G.fi
    · refine st2 hkk' h2 ?_
      have e : putS G p.es[kk] = G := by unfold putS; rw [if_pos (.inl h2)]
      rw [e]
      exact ⟨tk, by simp, by simp only [if_true]; exact ⟨_, allocs_snoc _ _ _⟩, trivial⟩
    · refine st2 hkk' h2 ?_
      refine gv (ct_sparse_there (g := G) (i := p.es[kk].ix) (by omega)) ?_
      cases ht : hasIx G.es p.es[kk].ix with
      | true =>
        refine st1 ht ?_
        have e : putS G p.es[kk] = G := by unfold putS; rw [if_pos (.inr ht)]
        rw [e]
        exact ⟨tk, by simp, by simp only [if_true]; exact ⟨_, allocs_snoc _ _ _⟩, trivial⟩
      | false =>
        refine sd1 ht ?_
        refine run (rn_sparse_fromT (l := G.es) (lo := G.fi) (hi := p.es[kk].ix) (tk0 := tk) (by omega)) (by first | (simp; done) | rfl) ?_
        rintro _ s1 ⟨tk1, rfl, hm1, hg1⟩
        refine ⟨.of_ext hg1.ext, ?_⟩
        refine run (rn_sparse_fromT (l := G.es) (lo := p.es[kk].ix) (hi := 1099511627777) (tk0 := tk) (by omega)) (by first | (simp; done) | rfl) ?_
        rintro _ s2 ⟨tk2, rfl, hm2, hg2⟩
        refine ⟨.of_ext hg2.ext, ?_⟩
        have hm1' := hm1.grows hg2
        obtain ⟨g3, rfl⟩ := hg1.trans hg2
        clear hm1 hm2 hg1 hg2
        have hfl := List.length_filter_le (inR G.fi p.es[kk].ix) G.es
        have hfl2 := List.length_filter_le (inR p.es[kk].ix 1099511627777) G.es
        refine sd0 ?_
        refine o_appA (B := _) (N := _) (by first | (simp; done) | (simp; rfl)) (by simp; exact ⟨rfl, rfl⟩) ⟨g3, rfl⟩ (Nat.le_refl _) (by simp) hm1' (by simp) (by simp) (by simp; omega) (by simp; omega) ?_
        rintro s3 tk3 hg3 hm3 _ _
        refine st0 ?_
        refine o_appA (B := _) (N := _) (by first | (simp; done) | (simp; rfl)) (by first | (simp; done) | (simp; exact ⟨rfl, rfl⟩)) hg3 (Nat.le_refl _) hg3.n hm3 (by have := head_map (f := Ent.av) Ent.row (G.es.filter (inR G.fi p.es[kk].ix) ++ [p.es[kk]]); simpa using this) (by simp) (by simp; omega) (by simp; omega) ?_
        rintro s4 tk4 ⟨g4, rfl⟩ hm4 _ _
        refine st0 ?_
        have e : putS G p.es[kk] = { G with es := G.es.filter (inR G.fi p.es[kk].ix) ++ p.es[kk] :: G.es.filter (inR p.es[kk].ix (MI + 1)) } := by
          unfold putS; rw [if_neg]; intro h; rcases h with h | h
          · exact h2 h
          · rw [ht] at h; cases h
        rw [e]
        refine ⟨tk4, by simp, ?_, trivial⟩
        have hM1 : MI + 1 = 1099511627777 := by omega
        simp only [if_true, hM1, List.map_append, List.map_cons]
        have hgr := ((Grows.refl (((((s.alloc (.cells (grpT { G with es := G.es.filter (inR G.fi p.es[kk].ix) ++ p.es[kk] :: G.es.filter (inR p.es[kk].ix 1099511627777) } tk4))).alloc (.cells p.cells)).alloc (.cells [.v (.int .i64 0), .v (.int .i64 0), .v (.int .i64 0), .v (.int .i64 0), .v (.int .i64 0), .v (.int .i64 0), .sl [] .zero])).alloc (.cells [.sl (p.es.map Ent.av) .no])).alloc .defd |>.alloc LR)).allocs g2).alloc (.cells p.es[kk].cells) |>.allocs g4
        simpa [grpT, List.append_assoc] using hgr
  · rintro LR tk g2 h1 _
    unfold grpT
    refine st0 ?_
    refine ret_okD (by simp) (by simp) (by simp; rfl) ⟨?_, ?_⟩
    · simp only [killAll, List.foldl]
      simp
      exact (((((Grows.refl s).alloc _).alloc _).alloc _).alloc _).alloc _ |>.alloc _ |>.allocs _
    · rw [fwdS_eq]
      exact (AV.le_strip _).trans (by simp [Grp.av, Grp.cells, retVal]; exact .refl _)
theorem ct_sparse_forwardFF {g : Grp} {p : Prt} {s : AState} (h : Spar g) (hf : FwdOk g p) (hm : p.mr = false) (hh : p.he = false) : Gives prog F_sparse_forward [g.av, p.av] s (fwdS g p).av s := by
  have hMI := MI_eq
  refine Runs.gives' (runs_e h_sparse_forward (Nat.le_of_ble_eq_true rfl) ?_) (Grp.row _).flat
  have hsp := hf.sp
  have hes := hf.es
  have hln := hf.ln
  refine st2 hm hh ?_
  skip
  refine st2 hm hh ?_
  refine gv (ct_slices_Values_Entry (xs := p.es.map Ent.av)) ?_
  refine st0 ?_
  have hit := it_slices_Values_Entry p.es (s.n + 3) (by omega)
  refine w_rangeG (α := Tok) (β := Unit) (m := p.es.length) (by simp) hit (by intro x hx; obtain ⟨p, _, rfl⟩ := List.mem_map.1 hx; rfl) (by simp)
    (fun kk tk => (((s.alloc (.cells (grpT ((p.es.take kk).foldl putS (fwd0 g p)) tk))).alloc (.cells p.cells)).alloc (.cells [.v (.int .i64 0), .v (.int .i64 0), .v (.int .i64 0), .v (.int .i64 0), .v (.int .i64 0), .v (.int .i64 0), .sl [] .zero])).alloc (.cells [.sl (p.es.map Ent.av) .no]))
    (fun kk _ s' => True) (fun j _ => s) (fun j _ _ => False) .no (by simp [grpT, fwd0, hm, hh, Grp.cells]) (fun s' h => trivial) ?_ (fun _ _ _ o h => h) (fun _ _ _ _ h => h) ?_ ?_ (fun _ _ _ _ _ h => h.elim)
  · intro kk a s' _ h1 hg
    refine (hg.get (by simp)).trans ?_
    simp
  · rintro LR LB LJ _ kk hkk tk g2 h1 _
    have hkk' : kk < p.es.length := by simpa using hkk
    have hok := okEnt_iff.1 (hes _ (List.getElem_mem hkk'))
    have hG : Spar ((p.es.take kk).foldl putS (fwd0 g p)) := hsp.puts (fun e he => hes e (List.mem_of_mem_take he))
    have hsn := puts_snoc (g := fwd0 g p) hkk'
    generalize (p.es.take kk).foldl putS (fwd0 g p) = G at hG hsn
    rw [hsn]
    have hGl := hG.len
    unfold grpT
    by_cases h2 : p.es[kk].ix < G.fi
    · refine st2 hkk' h2 ?_
      have e : putS G p.es[kk] = G := by unfold putS; rw [if_pos (.inl h2)]
      rw [e]
      exact ⟨tk, by simp, by simp only [if_true]; exact ⟨_, allocs_snoc _ _ _⟩, trivial⟩
    · refine st2 hkk' h2 ?_
      refine gv (ct_sparse_there (g := G) (i := p.es[kk].ix) (by omega)) ?_
      cases ht : hasIx G.es p.es[kk].ix with
      | true =>
        refine st1 ht ?_
        have e : putS G p.es[kk] = G := by unfold putS; rw [if_pos (.inr ht)]
        rw [e]
        exact ⟨tk, by simp, by simp only [if_true]; exact ⟨_, allocs_snoc _ _ _⟩, trivial⟩
      | false =>
        refine sd1 ht ?_
        refine run (rn_sparse_fromT (l := G.es) (lo := G.fi) (hi := p.es[kk].ix) (tk0 := tk) (by omega)) (by first | (simp; done) | rfl) ?_
        rintro _ s1 ⟨tk1, rfl, hm1, hg1⟩
        refine ⟨.of_ext hg1.ext, ?_⟩
        refine run (rn_sparse_fromT (l := G.es) (lo := p.es[kk].ix) (hi := 1099511627777) (tk0 := tk) (by omega)) (by first | (simp; done) | rfl) ?_
        rintro _ s2 ⟨tk2, rfl, hm2, hg2⟩
        refine ⟨.of_ext hg2.ext, ?_⟩
        have hm1' := hm1.grows hg2
        obtain ⟨g3, rfl⟩ := hg1.trans hg2
        clear hm1 hm2 hg1 hg2
        have hfl := List.length_filter_le (inR G.fi p.es[kk].ix) G.es
        have hfl2 := List.length_filter_le (inR p.es[kk].ix 1099511627777) G.es
        refine sd0 ?_
        refine o_appA (B := _) (N := _) (by first | (simp; done) | (simp; rfl)) (by simp; exact ⟨rfl, rfl⟩) ⟨g3, rfl⟩ (Nat.le_refl _) (by simp) hm1' (by simp) (by simp) (by simp; omega) (by simp; omega) ?_
        rintro s3 tk3 hg3 hm3 _ _
        refine st0 ?_
        refine o_appA (B := _) (N := _) (by first | (simp; done) | (simp; rfl)) (by first | (simp; done) | (simp; exact ⟨rfl, rfl⟩)) hg3 (Nat.le_refl _) hg3.n hm3 (by have := head_map (f := Ent.av) Ent.row (G.es.filter (inR G.fi p.es[kk].ix) ++ [p.es[kk]]); simpa using this) (by simp) (by simp; omega) (by simp; omega) ?_
        rintro s4 tk4 ⟨g4, rfl⟩ hm4 _ _
        refine st0 ?_
        have e : putS G p.es[kk] = { G with es := G.es.filter (inR G.fi p.es[kk].ix) ++ p.es[kk] :: G.es.filter (inR p.es[kk].ix (MI + 1)) } := by
          unfold putS; rw [if_neg]; intro h; rcases h with h | h
          · exact h2 h
          · rw [ht] at h; cases h
        rw [e]
        refine ⟨tk4, by simp, ?_, trivial⟩
        have hM1 : MI + 1 = 1099511627777 := by omega
        simp only [if_true, hM1, List.map_append, List.map_cons]
        have hgr := ((Grows.refl (((((s.alloc (.cells (grpT { G with es := G.es.filter (inR G.fi p.es[kk].ix) ++ p.es[kk] :: G.es.filter (inR p.es[kk].ix 1099511627777) } tk4))).alloc (.cells p.cells)).alloc (.cells [.v (.int .i64 0), .v (.int .i64 0), .v (.int .i64 0), .v (.int .i64 0), .v (.int .i64 0), .v (.int .i64 0), .sl [] .zero])).alloc (.cells [.sl (p.es.map Ent.av) .no])).alloc .defd |>.alloc LR)).allocs g2).alloc (.cells p.es[kk].cells) |>.allocs g4
        simpa [grpT, List.append_assoc] using hgr
  · rintro LR tk g2 h1 _
    unfold grpT
    refine st0 ?_
    refine ret_okD (by simp) (by simp) (by simp; rfl) ⟨?_, ?_⟩
    · simp only [killAll, List.foldl]
      simp
      exact (((((Grows.refl s).alloc _).alloc _).alloc _).alloc _).alloc _ |>.alloc _ |>.allocs _
    · rw [fwdS_eq]
      exact (AV.le_strip _).trans (by simp [Grp.av, Grp.cells, retVal]; exact .refl _)
theorem ct_sparse_forward {g : Grp} {p : Prt} {s : AState} (h : Spar g) (hf : FwdOk g p) : Gives prog F_sparse_forward [g.av, p.av] s (fwdS g p).av s := by
  cases hm : p.mr <;> cases hh : p.he
  · exact ct_sparse_forwardFF h hf hm hh
  · exact ct_sparse_forwardFT h hf hm hh
  · exact ct_sparse_forwardTF h hf hm hh
  · exact ct_sparse_forwardTT h hf hm hh
theorem isPart_1 {p : Prt} (h : isPart p = true) (hk : p.kd = 1) : p.es ≠ [] ∧ rising p.es true = true := by
  simp only [isPart, Bool.and_eq_true] at h
  obtain ⟨_, h⟩ := h
  rw [hk] at h; simp at h; exact h
theorem isPart_3 {p : Prt} (h : isPart p = true) (hk : p.kd = 3 ∨ p.kd = 4) : (1 ≤ p.ix ∧ p.ix ≤ MI) ∧ 0 ≤ p.tm ∧ p.tm ≤ MI := by
  simp only [isPart, Bool.and_eq_true] at h
  obtain ⟨_, h⟩ := h
  rcases hk with hk | hk
  · rw [hk] at h; simp [okMrk, btw] at h; omega
  · rw [hk] at h; simp [okMrk, btw] at h; omega
theorem fwdOk {g : Grp} {p : Prt} (h : Spar g) (hp : isPart p = true) (hk : p.kd = 6) : FwdOk g p := by
  have hh := okHrd_of hp (.inr hk)
  simp only [isPart, Bool.and_eq_true] at hp
  obtain ⟨_, hp⟩ := hp
  rw [hk] at hp
  simp at hp
  obtain ⟨⟨⟨_, k1⟩, k2⟩, _⟩ := hp
  obtain ⟨r1, _, r2⟩ := rising_ok k1
  have hix : p.mr = true → (1 ≤ p.ix ∧ p.ix ≤ MI) ∧ 1 ≤ p.tm ∧ p.tm ≤ MI := fun hm => by
    rcases k2 with k2 | k2
    · rw [hm] at k2; cases k2
    · simp [okMrk, btw] at k2; omega
  refine ⟨?_, r1, r2, fun hm => by have := hix hm; omega⟩
  have hg : Spar (if p.mr then goneS g p.ix p.tm else g) := by
    split
    · next hm => have := hix hm; exact h.goneS (by omega) (by omega)
    · exact h
  unfold fwd0
  generalize (if p.mr then goneS g p.ix p.tm else g) = g1 at hg
  by_cases he : p.he = true
  · rw [if_pos he]
    have h0 := okHead_iff.1 hg.hd
    exact ⟨by rw [okHead_iff]; exact ⟨h0.1, h0.2.1, h0.2.2.1, hh⟩, hg.ok, hg.fi, hg.srt⟩
  · rw [if_neg he]; exact hg
end Go.Proofs.YtmpoeamfcienoaaGreat
end
section
namespace Go.Proofs.YtmpoeamfcienoaaGreat
open Go.Ab
set_option linter.unusedVariables false
set_option linter.unusedSimpArgs false
set_option maxRecDepth 100000
set_option maxHeartbeats 4000000
theorem ct_sparse_Do {g : Grp} {p : Prt} {s : AState} (h : Spar g) (hpl : (p.es.length : Int) < 9223372036854775808) : Gives prog F_sparse_Do [g.av, p.av] s (doS g p).av s := by
  have hMI := MI_eq
  have hlen := h.len
  have hDS := h.doS p
  refine Runs.gives' (runs_e h_sparse_Do (Nat.le_of_ble_eq_true rfl) ?_) (Grp.row _).flat
  refine st0 ?_
  refine gv (ct_sparse_Is h) ?_
  refine st0 ?_
  refine gv (ct_part_Is (p := p) hpl) ?_
  cases hp : isPart p with
  | false =>
    have e : doS g p = g := by unfold doS; rw [if_neg]; rw [hp]; intro h; cases h.1
    rw [e]
    refine st0 ?_
    exact ret_ok (by simp; rfl) ⟨((Grows.refl _).alloc _).alloc _ |>.alloc _, .refl _⟩
  | true =>
    by_cases hg : p.gr = g.id
    · have e : doS g p = (if p.kd = 1 then { g with es := g.es.filter (inR g.fi ((p.es.getD 0 default).ix)) ++ p.es.filter (inR g.fi (MI + 1)) }
          else if p.kd = 2 then { g with ht := p.ht, hv := p.hv, hc := p.hc }
          else if p.kd = 3 then goneS g p.ix p.tm
          else if p.kd = 4 then goneS (if g.fi ≤ p.ix then { g with es := [] } else g) p.ix p.tm
          else if p.kd = 6 then fwdS g p
          else g) := by unfold doS; rw [if_pos ⟨hp, hg⟩]
      rw [e]
      clear e
      by_cases h1 : p.kd = 1
      · rw [if_pos h1]
        obtain ⟨hne, hr⟩ := isPart_1 hp h1
        obtain ⟨_, _, hl6⟩ := rising_ok hr
        have h0l : 0 < p.es.length := by cases hpe : p.es <;> simp_all
        repeat (first | simp -dsimp -implicitDefEqProofs (disch := first | omega | (simp <;> omega) | fail) [hg, h1, h0l] | (with_reducible apply m_draw) | ((with_reducible refine ⟨m_op ?_, ?_⟩); (focus (simp -dsimp -implicitDefEqProofs (disch := first | omega | (simp <;> omega) | fail) [hg, h1, h0l]; done))) | ((with_reducible first | apply m_d1 rfl | apply m_dE | apply m_dE0); (focus ((conv => lhs; simp -dsimp -implicitDefEqProofs (disch := first | omega | (simp <;> omega) | fail) [hg, h1, h0l]); done))) | ((with_reducible first | apply m_1 | apply m_0); (focus ((conv => lhs; simp -dsimp -implicitDefEqProofs (disch := first | omega | (simp <;> omega) | fail) [hg, h1, h0l]); done))) | ((with_reducible first | apply i_T | apply g_T | apply h_T); (focus (simp -dsimp -implicitDefEqProofs (disch := first | omega | (simp <;> omega) | fail) [hg, h1, h0l]; done))) | ((with_reducible first | apply i_F | apply g_F | apply h_F); (focus (simp -dsimp -implicitDefEqProofs (disch := first | omega | (simp <;> omega) | fail) [hg, h1, h0l]; done))))
        have hd0 : p.es.getD 0 default = p.es[0] := by simp [h0l]
        have hM1 : MI + 1 = 1099511627777 := by omega
        rw [hd0, hM1]
        refine run (rn_sparse_from (l := g.es) (lo := g.fi) (hi := p.es[0].ix) (by omega)) (by first | (simp; done) | rfl) ?_
        rintro _ s1 ⟨tk1, rfl, hm1, hg1⟩
        refine ⟨.of_ext hg1.ext, ?_⟩
        refine run (rn_sparse_from (l := p.es) (lo := g.fi) (hi := 1099511627777) (by omega)) (by first | (simp; done) | rfl) ?_
        rintro _ s2 ⟨tk2, rfl, hm2, hg2⟩
        refine ⟨.of_ext hg2.ext, ?_⟩
        have hm1' := hm1.grows hg2
        obtain ⟨g3, rfl⟩ := hg1.trans hg2
        clear hm1 hm2 hg1 hg2
        have hfl := List.length_filter_le (inR g.fi p.es[0].ix) g.es
        have hfl2 := List.length_filter_le (inR g.fi 1099511627777) p.es
        refine sd0 ?_
        refine d_appA (B := _) (N := _) (by first | (simp; done) | (simp; rfl)) (by simp; exact ⟨rfl, rfl⟩) ⟨g3, rfl⟩ (Nat.le_refl _) (by simp) hm1' (by simp) (by simp) (by simp; omega) (by simp; omega) ?_
        rintro s4 tk4 ⟨g4, rfl⟩ hm4 _ _
        refine sd0 ?_
        refine ret_ok (by simp; rfl) ⟨((Grows.refl _).alloc _).alloc _ |>.alloc _ |>.allocs _, ?_⟩
        exact (AV.le_strip _).trans (by simp [Grp.av, Grp.cells, retVal]; exact .refl _)
      rw [if_neg h1]
      by_cases h2 : p.kd = 2
      · rw [if_pos h2]
        refine st3 hg h1 h2 ?_
        refine ret_ok (by simp; rfl) ⟨((Grows.refl _).alloc _).alloc _ |>.alloc _, ?_⟩
        simp [retVal, Grp.av, Grp.cells]; exact .refl _
      rw [if_neg h2]
      by_cases h3 : p.kd = 3
      · rw [if_pos h3]
        have hi := isPart_3 hp (.inl h3)
        refine st4 hg h1 h2 h3 ?_
        refine gv (ct_sparse_gone (g := g) (i := p.ix) (t := p.tm) h (by omega)) ?_
        refine st0 ?_
        exact ret_ok (by simp; rfl) ⟨((Grows.refl _).alloc _).alloc _ |>.alloc _, .refl _⟩
      rw [if_neg h3]
      by_cases h4 : p.kd = 4
      · rw [if_pos h4]
        have hi := isPart_3 hp (.inr h4)
        by_cases h5 : g.fi ≤ p.ix
        · rw [if_pos h5]
          refine st6 hg h1 h2 h3 h4 h5 ?_
          refine gv (ct_sparse_gone (g := { g with es := [] }) (i := p.ix) (t := p.tm) ⟨h.hd, by simp, by simp, by simp⟩ (by omega)) ?_
          refine st0 ?_
          exact ret_ok (by simp; rfl) ⟨((Grows.refl _).alloc _).alloc _ |>.alloc _, .refl _⟩
        · rw [if_neg h5]
          refine st6 hg h1 h2 h3 h4 h5 ?_
          refine gv (ct_sparse_gone (g := g) (i := p.ix) (t := p.tm) h (by omega)) ?_
          refine st0 ?_
          exact ret_ok (by simp; rfl) ⟨((Grows.refl _).alloc _).alloc _ |>.alloc _, .refl _⟩
      rw [if_neg h4]
      by_cases h6 : p.kd = 6
      · rw [if_pos h6]
        refine st6 hg h1 h2 h3 h4 h6 ?_
        refine gv (ct_sparse_forward (g := g) (p := p) h (fwdOk h hp h6)) ?_
        refine st0 ?_
        exact ret_ok (by simp; rfl) ⟨((Grows.refl _).alloc _).alloc _ |>.alloc _, .refl _⟩
      rw [if_neg h6]
      refine st6 hg h1 h2 h3 h4 h6 ?_
      exact ret_ok (by simp; rfl) ⟨((Grows.refl _).alloc _).alloc _ |>.alloc _, .refl _⟩
    · have e : doS g p = g := by unfold doS; rw [if_neg]; intro h; exact hg h.2
      rw [e]
      refine st1 hg ?_
      exact ret_ok (by simp; rfl) ⟨((Grows.refl _).alloc _).alloc _ |>.alloc _, .refl _⟩
end Go.Proofs.YtmpoeamfcienoaaGreat
end
section
namespace Go.Proofs.YtmpoeamfcienoaaGreat
open Go.Ab
set_option linter.unusedVariables false
set_option linter.unusedSimpArgs false
set_option maxRecDepth 100000
set_option maxHeartbeats 4000000
theorem ct_laderef6_At {g : Grp} {i : Int} {s : AState} (hlen : (g.es.length : Int) < 9223372036854775808) : Gives prog F_laderef6_At [g.av, .v (.int .i64 i)] s (.v (.int .i64 (idxS (fun e => decide (e.ix = i)) g.es))) s := by
  refine Runs.gives' (runs_e h_laderef6_At (Nat.le_of_ble_eq_true rfl) ?_) (.v _)
  refine st0 ?_
  refine loop_ok [1, 2, 5] (fun k a s1 => s.alloc (.cells g.cells) = s1 ∧ ∃ j : Nat, j + k = g.es.length ∧ (∀ x (hx : x < j) (hx' : x < g.es.length), ¬ g.es[x].ix = i) ∧ a = { t := den 22 [(1, .v (.int .i64 i)), (2, .p s.n 0), (5, .v (.int .i64 j))], d := [] }) g.es.length ?_ ?_
  · exact ⟨rfl, 0, by simp, fun j hj => by omega, by simp⟩
  rintro k a _ ⟨rfl, j, hik, hno, rfl⟩
  by_cases hlt : j < g.es.length
  · have hw : IntKind.wrap .i64 ((j : Int) + 1) = (j : Int) + 1 := wrap_i64 (by omega) (by omega)
    by_cases hp : g.es[j].ix = i
    · repeat (first | simp -dsimp -implicitDefEqProofs (disch := first | omega | (simp <;> omega) | fail) [hlt, hp] | ((with_reducible first | apply m_1 | apply m_0); (focus ((conv => lhs; simp -dsimp -implicitDefEqProofs (disch := first | omega | (simp <;> omega) | fail) [hlt, hp]); done))) | ((with_reducible first | apply i_T | apply g_T); (focus (simp -dsimp -implicitDefEqProofs (disch := first | omega | (simp <;> omega) | fail) [hlt, hp]; done))) | ((with_reducible first | apply i_F | apply g_F); (focus (simp -dsimp -implicitDefEqProofs (disch := first | omega | (simp <;> omega) | fail) [hlt, hp]; done))))
      refine ret_ok rfl ⟨(Grows.refl _).alloc _, ?_⟩
      rw [idxS_some (p := fun e => decide (e.ix = i)) hlt (fun x hx => by simpa using hno x hx (by omega)) (by simpa using hp)]
      exact .refl _
    · repeat (first | simp -dsimp -implicitDefEqProofs (disch := first | omega | (simp <;> omega) | fail) [hlt, hp] | ((with_reducible first | apply m_1 | apply m_0); (focus ((conv => lhs; simp -dsimp -implicitDefEqProofs (disch := first | omega | (simp <;> omega) | fail) [hlt, hp]); done))) | ((with_reducible first | apply i_T | apply g_T); (focus (simp -dsimp -implicitDefEqProofs (disch := first | omega | (simp <;> omega) | fail) [hlt, hp]; done))) | ((with_reducible first | apply i_F | apply g_F); (focus (simp -dsimp -implicitDefEqProofs (disch := first | omega | (simp <;> omega) | fail) [hlt, hp]; done))))
      refine ⟨k - 1, by omega, rfl, j + 1, by omega, fun x hx hx' => ?_, by simp [hw]⟩
      by_cases e : x = j
      · subst e; exact hp
      · exact hno x (by omega) hx'
  · refine st1 hlt ?_
    refine ret_ok rfl ⟨(Grows.refl _).alloc _, ?_⟩
    rw [idxS_none (fun e he => by obtain ⟨x, hx, rfl⟩ := List.getElem_of_mem he; simpa using hno x (by omega) hx)]
    exact .refl _
theorem filt_snoc {α : Type} {p : α → Bool} {l : List α} {i : Nat} (h : i < l.length) : (l.take (i + 1)).filter p = (l.take i).filter p ++ (if p l[i] then [l[i]] else []) := by
  rw [List.take_succ_eq_append_getElem h, List.filter_append]
  congr 1
  by_cases e : p l[i] = true <;> simp [e]
theorem rn_laderef6_below {l : List Ent} {i : Int} {s : AState} (hlen : (l.length : Int) * 32 ≤ 140737488355328) :
    Runs (compCode prog) prog F_laderef6_below [.sl (l.map Ent.av) .no, .v (.int .i64 i)] s (fun x s' => ∃ tk, x = .sl ((l.filter fun e => decide (e.ix < i)).map Ent.av) tk ∧ May s.n s' ((l.filter fun e => decide (e.ix < i)).map Ent.av) tk ∧ Grows s s') := by
  refine runs_e h_laderef6_below (Nat.le_of_ble_eq_true rfl) ?_
  refine st0 ?_
  refine loop_ok [0, 1, 5, 6] (fun r a s1 => ∃ (j : Nat) (tk : Tok), j + r = l.length ∧ Grows s s1 ∧ May s.n s1 (((l.take j).filter fun e => decide (e.ix < i)).map Ent.av) tk ∧ a = { t := den 28 [(0, .sl (l.map Ent.av) .no), (1, .v (.int .i64 i)), (5, .sl (((l.take j).filter fun e => decide (e.ix < i)).map Ent.av) tk), (6, .v (.int .i64 j))], d := [] }) l.length ?_ ?_
  · exact ⟨0, .zero, by simp, Grows.refl _, trivial, by simp⟩
  rintro r a s1 ⟨j, tk, hir, hg, hm, rfl⟩
  by_cases hlt : j < l.length
  · have w3 : IntKind.wrap .i64 ((j : Int) + 1) = (j : Int) + 1 := wrap_i64 (by omega) (by omega)
    have hsn := filt_snoc (p := fun e : Ent => decide (e.ix < i)) hlt
    have hfl := List.length_filter_le (fun e : Ent => decide (e.ix < i)) (l.take j)
    have htl : (l.take j).length ≤ j := by simp; omega
    by_cases hp : l[j].ix < i
    · repeat (first | simp -dsimp -implicitDefEqProofs (disch := first | omega | (simp <;> omega) | fail) [hlt, hp] | ((with_reducible first | apply m_1 | apply m_0); (focus ((conv => lhs; simp -dsimp -implicitDefEqProofs (disch := first | omega | (simp <;> omega) | fail) [hlt, hp]); done))) | ((with_reducible first | apply i_T | apply g_T); (focus (simp -dsimp -implicitDefEqProofs (disch := first | omega | (simp <;> omega) | fail) [hlt, hp]; done))) | ((with_reducible first | apply i_F | apply g_F); (focus (simp -dsimp -implicitDefEqProofs (disch := first | omega | (simp <;> omega) | fail) [hlt, hp]; done))))
      refine o_appA (B := s) (N := s.n) (by simp) (by simp; exact ⟨rfl, rfl⟩) hg (Nat.le_refl _) hg.n hm (by simp) (by simp) (by simp at hfl ⊢; omega) (by simp at hfl ⊢; omega) ?_
      intro s2 tk2 hg2 hm2 _ _
      refine st0 ?_
      refine ⟨r - 1, by omega, j + 1, tk2, by omega, hg2, ?_, ?_⟩
      · rw [hsn]; simpa [hp] using hm2
      · rw [hsn]; simp [hp]
    · repeat (first | simp -dsimp -implicitDefEqProofs (disch := first | omega | (simp <;> omega) | fail) [hlt, hp] | ((with_reducible first | apply m_1 | apply m_0); (focus ((conv => lhs; simp -dsimp -implicitDefEqProofs (disch := first | omega | (simp <;> omega) | fail) [hlt, hp]); done))) | ((with_reducible first | apply i_T | apply g_T); (focus (simp -dsimp -implicitDefEqProofs (disch := first | omega | (simp <;> omega) | fail) [hlt, hp]; done))) | ((with_reducible first | apply i_F | apply g_F); (focus (simp -dsimp -implicitDefEqProofs (disch := first | omega | (simp <;> omega) | fail) [hlt, hp]; done))))
      refine ⟨r - 1, by omega, j + 1, tk, by omega, hg, ?_, ?_⟩
      · rw [hsn]; simpa [hp] using hm
      · rw [hsn]; simp [hp]
  have : j = l.length := by omega
  subst this
  rw [List.take_length] at hm ⊢
  refine st1 hlt ?_
  exact ret_ok rfl ⟨tk, rfl, hm, hg⟩
theorem rn_laderef6_belowT {l : List Ent} {i : Int} {tk0 : Tok} {s : AState} (hlen : (l.length : Int) * 32 ≤ 140737488355328) :
    Runs (compCode prog) prog F_laderef6_below [.sl (l.map Ent.av) tk0, .v (.int .i64 i)] s (fun x s' => ∃ tk, x = .sl ((l.filter fun e => decide (e.ix < i)).map Ent.av) tk ∧ May s.n s' ((l.filter fun e => decide (e.ix < i)).map Ent.av) tk ∧ Grows s s') :=
  Runs.strip (by simpa using rn_laderef6_below hlen)
theorem rn_laderef6_from {l : List Ent} {i : Int} {s : AState} (hlen : (l.length : Int) * 32 ≤ 140737488355328) :
    Runs (compCode prog) prog F_laderef6_from [.sl (l.map Ent.av) .no, .v (.int .i64 i)] s (fun x s' => ∃ tk, x = .sl ((l.filter fun e => decide (i ≤ e.ix)).map Ent.av) tk ∧ May s.n s' ((l.filter fun e => decide (i ≤ e.ix)).map Ent.av) tk ∧ Grows s s') := by
  refine runs_e h_laderef6_from (Nat.le_of_ble_eq_true rfl) ?_
  refine st0 ?_
  refine loop_ok [0, 1, 5, 6] (fun r a s1 => ∃ (j : Nat) (tk : Tok), j + r = l.length ∧ Grows s s1 ∧ May s.n s1 (((l.take j).filter fun e => decide (i ≤ e.ix)).map Ent.av) tk ∧ a = { t := den 28 [(0, .sl (l.map Ent.av) .no), (1, .v (.int .i64 i)), (5, .sl (((l.take j).filter fun e => decide (i ≤ e.ix)).map Ent.av) tk), (6, .v (.int .i64 j))], d := [] }) l.length ?_ ?_
  · exact ⟨0, .zero, by simp, Grows.refl _, trivial, by simp⟩
  rintro r a s1 ⟨j, tk, hir, hg, hm, rfl⟩
  by_cases hlt : j < l.length
  · have w3 : IntKind.wrap .i64 ((j : Int) + 1) = (j : Int) + 1 := wrap_i64 (by omega) (by omega)
    have hsn := filt_snoc (p := fun e : Ent => decide (i ≤ e.ix)) hlt
    have hfl := List.length_filter_le (fun e : Ent => decide (i ≤ e.ix)) (l.take j)
    have htl : (l.take j).length ≤ j := by simp; omega
    by_cases hp : i ≤ l[j].ix
    · repeat (first | simp -dsimp -implicitDefEqProofs (disch := first | omega | (simp <;> omega) | fail) [hlt, hp] | ((with_reducible first | apply m_1 | apply m_0); (focus ((conv => lhs; simp -dsimp -implicitDefEqProofs (disch := first | omega | (simp <;> omega) | fail) [hlt, hp]); done))) | ((with_reducible first | apply i_T | apply g_T); (focus (simp -dsimp -implicitDefEqProofs (disch := first | omega | (simp <;> omega) | fail) [hlt, hp]; done))) | ((with_reducible first | apply i_F | apply g_F); (focus (simp -dsimp -implicitDefEqProofs (disch := first | omega | (simp <;> omega) | fail) [hlt, hp]; done))))
      refine o_appA (B := s) (N := s.n) (by simp) (by simp; exact ⟨rfl, rfl⟩) hg (Nat.le_refl _) hg.n hm (by simp) (by simp) (by simp at hfl ⊢; omega) (by simp at hfl ⊢; omega) ?_
      intro s2 tk2 hg2 hm2 _ _
      refine st0 ?_
      refine ⟨r - 1, by omega, j + 1, tk2, by omega, hg2, ?_, ?_⟩
      · rw [hsn]; simpa [hp] using hm2
      · rw [hsn]; simp [hp]
    · repeat (first | simp -dsimp -implicitDefEqProofs (disch := first | omega | (simp <;> omega) | fail) [hlt, hp] | ((with_reducible first | apply m_1 | apply m_0); (focus ((conv => lhs; simp -dsimp -implicitDefEqProofs (disch := first | omega | (simp <;> omega) | fail) [hlt, hp]); done))) | ((with_reducible first | apply i_T | apply g_T); (focus (simp -dsimp -implicitDefEqProofs (disch := first | omega | (simp <;> omega) | fail) [hlt, hp]; done))) | ((with_reducible first | apply i_F | apply g_F); (focus (simp -dsimp -implicitDefEqProofs (disch := first | omega | (simp <;> omega) | fail) [hlt, hp]; done))))
      refine ⟨r - 1, by omega, j + 1, tk, by omega, hg, ?_, ?_⟩
      · rw [hsn]; simpa [hp] using hm
      · rw [hsn]; simp [hp]
  have : j = l.length := by omega
  subst this
  rw [List.take_length] at hm ⊢
  refine st1 hlt ?_
  exact ret_ok rfl ⟨tk, rfl, hm, hg⟩
theorem rn_laderef6_fromT {l : List Ent} {i : Int} {tk0 : Tok} {s : AState} (hlen : (l.length : Int) * 32 ≤ 140737488355328) :
    Runs (compCode prog) prog F_laderef6_from [.sl (l.map Ent.av) tk0, .v (.int .i64 i)] s (fun x s' => ∃ tk, x = .sl ((l.filter fun e => decide (i ≤ e.ix)).map Ent.av) tk ∧ May s.n s' ((l.filter fun e => decide (i ≤ e.ix)).map Ent.av) tk ∧ Grows s s') :=
  Runs.strip (by simpa using rn_laderef6_from hlen)
end Go.Proofs.YtmpoeamfcienoaaGreat
end
section
namespace Go.Proofs.YtmpoeamfcienoaaGreat
open Go.Ab
set_option linter.unusedVariables false
set_option linter.unusedSimpArgs false
set_option maxRecDepth 100000
set_option maxHeartbeats 4000000
theorem inR_one (i : Int) (e : Ent) : inR i (i + 1) e = decide (e.ix = i) := by
  unfold inR
  by_cases h : e.ix = i
  · simp [h]; omega
  · simp [h]; omega
theorem termOf_some {l : List Ent} {i : Int} {k : Nat} (hk : k < l.length) (hp : l[k].ix = i) (hno : ∀ j (hj : j < k), ¬ l[j].ix = i) : termOf l i = l[k].tm := by
  have h1 : l.filter (inR i (i + 1)) = l[k] :: (l.drop (k + 1)).filter (inR i (i + 1)) := by
    conv => lhs; rw [← List.take_append_drop k l, List.filter_append, List.drop_eq_getElem_cons hk]
    have h2 : (l.take k).filter (inR i (i + 1)) = [] := by
      rw [List.filter_eq_nil_iff]
      intro e he
      obtain ⟨j, hj, rfl⟩ := List.getElem_of_mem he
      simp at hj
      rw [inR_one]; simp
      exact hno j (by omega)
    rw [h2, List.filter_cons, if_pos (by rw [inR_one]; simp [hp])]; rfl
  unfold termOf; rw [h1]
theorem termOf_none {l : List Ent} {i : Int} (hno : ∀ e ∈ l, ¬ e.ix = i) : termOf l i = 0 := by
  have : l.filter (inR i (i + 1)) = [] := by
    rw [List.filter_eq_nil_iff]; intro e he; rw [inR_one]; simpa using hno e he
  unfold termOf; rw [this]
theorem idxS_cases {α : Type} (p : α → Bool) (l : List α) : (idxS p l = -1 ∧ ∀ x ∈ l, p x = false) ∨ ∃ k, ∃ h : k < l.length, idxS p l = k ∧ p l[k] = true ∧ ∀ j (hj : j < k), p l[j] = false := by
  unfold idxS
  cases h : l.findIdx? p with
  | none => exact .inl ⟨rfl, List.findIdx?_eq_none_iff.1 h⟩
  | some i =>
    obtain ⟨hi, hp, hno⟩ := List.findIdx?_eq_some_iff_getElem.1 h
    exact .inr ⟨i, hi, rfl, hp, fun j hj => by simpa using hno j hj⟩
theorem from_eq {l : List Ent} (h : ∀ e ∈ l, okEnt e = true) (i : Int) : (l.filter fun e => decide (i ≤ e.ix)) = l.filter (inR i (MI + 1)) := by
  apply List.filter_congr
  intro e he
  have := (okEnt_iff.1 (h e he)).1
  unfold inR
  rw [show decide (e.ix < MI + 1) = true by rw [decide_eq_true_iff]; omega, Bool.and_true]
theorem below_eq {l : List Ent} {lo : Int} (h : ∀ e ∈ l, lo ≤ e.ix) (i : Int) : (l.filter fun e => decide (e.ix < i)) = l.filter (inR lo i) := by
  apply List.filter_congr
  intro e he
  have := h e he
  unfold inR
  rw [show decide (lo ≤ e.ix) = true by rw [decide_eq_true_iff]; omega, Bool.true_and]
theorem ct_laderef6_compact {g : Grp} {i t : Int} {s : AState} (h : Spar g) (hi : 0 ≤ i ∧ i ≤ MI) : Gives prog F_laderef6_compact [g.av, .v (.int .i64 i), .v (.int .i64 t)] s (goneS g i t).av s := by
  have hlen := h.len
  have hMI := MI_eq
  refine Runs.gives' (runs_e h_laderef6_compact (Nat.le_of_ble_eq_true rfl) ?_) (Grp.row _).flat
  have hw : IntKind.wrap .i64 (i + 1) = i + 1 := wrap_i64 (by omega) (by omega)
  by_cases hlt : i < g.fi
  · refine st1 hlt ?_
    refine ret_ok (by simp; rfl) ⟨((Grows.refl _).alloc _).alloc _, ?_⟩
    unfold goneS
    rw [if_pos hlt]
    exact .refl _
  · have hge : goneS g i t = { g with es := g.es.filter fun e => decide (i + 1 ≤ e.ix), fi := i + 1, tm := if t = 0 then termOf g.es i else t } := by
      unfold goneS; rw [if_neg hlt, from_eq h.ok]
    rw [hge]
    refine st1 hlt ?_
    refine gv (ct_laderef6_At (g := g) (i := i) (by omega)) ?_
    rcases idxS_cases (fun e : Ent => decide (e.ix = i)) g.es with ⟨hk, hno⟩ | ⟨k, hkl, hk, hp, hno⟩
    · rw [hk]
      have ht0 : termOf g.es i = 0 := termOf_none (fun e he => by simpa using hno e he)
      have htt : (if t = 0 then termOf g.es i else t) = t := by rw [ht0]; split <;> omega
      rw [htt]
      refine st1 hw ?_
      refine run (rn_laderef6_from (l := g.es) (i := i + 1) (by omega)) (by first | (simp; done) | rfl) ?_
      rintro _ _ ⟨tk, rfl, hm, ⟨gg, rfl⟩⟩
      refine st0 ?_
      refine ret_ok (by simp; rfl) ⟨(((Grows.refl _).alloc _).alloc _).alloc _ |>.allocs _, ?_⟩
      exact (AV.le_strip _).trans (by simp [Grp.av, Grp.cells, retVal]; exact .refl _)
    · rw [hk]
      have hp' : g.es[k].ix = i := by simpa using hp
      have hte : termOf g.es i = g.es[k].tm := termOf_some hkl hp' (fun j hj => by simpa using hno j hj)
      rw [hte]
      by_cases ht : t = 0
      · rw [if_pos ht]
        repeat (first | simp -dsimp -implicitDefEqProofs (disch := first | omega | (simp <;> omega) | fail) [hw, hkl, ht] | ((with_reducible first | apply m_1 | apply m_0); (focus ((conv => lhs; simp -dsimp -implicitDefEqProofs (disch := first | omega | (simp <;> omega) | fail) [hw, hkl, ht]); done))) | ((with_reducible first | apply i_T | apply g_T); (focus (simp -dsimp -implicitDefEqProofs (disch := first | omega | (simp <;> omega) | fail) [hw, hkl, ht]; done))) | ((with_reducible first | apply i_F | apply g_F); (focus (simp -dsimp -implicitDefEqProofs (disch := first | omega | (simp <;> omega) | fail) [hw, hkl, ht]; done))))
        refine run (rn_laderef6_from (l := g.es) (i := i + 1) (by omega)) (by first | (simp; done) | rfl) ?_
        rintro _ _ ⟨tk, rfl, hm, ⟨gg, rfl⟩⟩
        refine st0 ?_
        refine ret_ok (by simp; rfl) ⟨(((Grows.refl _).alloc _).alloc _).alloc _ |>.allocs _, ?_⟩
        exact (AV.le_strip _).trans (by simp [Grp.av, Grp.cells, retVal]; exact .refl _)
      · rw [if_neg ht]
        refine st3 hw hkl ht ?_
        refine run (rn_laderef6_from (l := g.es) (i := i + 1) (by omega)) (by first | (simp; done) | rfl) ?_
        rintro _ _ ⟨tk, rfl, hm, ⟨gg, rfl⟩⟩
        refine st0 ?_
        refine ret_ok (by simp; rfl) ⟨(((Grows.refl _).alloc _).alloc _).alloc _ |>.allocs _, ?_⟩
        exact (AV.le_strip _).trans (by simp [Grp.av, Grp.cells, retVal]; exact .refl _)
end Go.Proofs.YtmpoeamfcienoaaGreat
end
section
namespace Go.Proofs.YtmpoeamfcienoaaGreat
open Go.Ab
set_option linter.unusedVariables false
set_option linter.unusedSimpArgs false
set_option maxRecDepth 100000
set_option maxHeartbeats 4000000
theorem ct_laderef6_fillTT {g : Grp} {p : Prt} {s : AState} (h : Spar g) (hf : FwdOk g p) (hm : p.mr = true) (hh : p.he = true) : Gives prog F_laderef6_fill [g.av, p.av] s (fwdS g p).av s := by
  have hMI := MI_eq
  refine Runs.gives' (runs_e h_laderef6_fill (Nat.le_of_ble_eq_true rfl) ?_) (Grp.row _).flat
  have hsp := hf.sp
  have hes := hf.es
  have hln := hf.ln
  refine st2 hm hh ?_
  refine gv (ct_laderef6_compact (g := g) (i := p.ix) (t := p.tm) h (hf.ix hm)) ?_
  refine st2 hm hh ?_
  refine loop_ok [2, 3, 4, 5, 6] (fun r a s1 => ∃ (kk : Nat) (tk : Tok), kk + r = p.es.length ∧ Grows ((((s.alloc (.cells g.cells)).alloc (.cells p.cells)).alloc (.cells [.v (.int .i64 0), .v (.int .i64 0), .v (.int .i64 0), .v (.int .i64 0), .v (.int .i64 0), .v (.int .i64 0), .sl [] .zero])).alloc (.cells (grpT ((p.es.take kk).foldl putS (fwd0 g p)) tk))) s1 ∧
    a = { t := den 64 [(2, .p s.n 0), (3, .p (s.n + 1) 0), (4, .p (s.n + 1 + 1) 0), (5, .p (s.n + 1 + 1 + 1) 0), (6, .v (.int .i64 kk))], d := [] }) p.es.length ?_ ?_
  · exact ⟨0, .no, by simp, by simp [grpT, fwd0, hm, hh, Grp.cells]; exact Grows.refl _, by simp⟩
  rintro r a s1 ⟨kk, tk, hkr, ⟨g2, rfl⟩, rfl⟩
  by_cases hkk' : kk < p.es.length
  · have hw : IntKind.wrap .i64 ((kk : Int) + 1) = (kk : Int) + 1 := wrap_i64 (by omega) (by omega)
    have hok := okEnt_iff.1 (hes _ (List.getElem_mem hkk'))
    have hG : Spar ((p.es.take kk).foldl putS (fwd0 g p)) := hsp.puts (fun e he => hes e (List.mem_of_mem_take he))
    have hsn := puts_snoc (g := fwd0 g p) hkk'
    generalize (p.es.take kk).foldl putS (fwd0 g p) = G at hG hsn
    have hGl := hG.len
    unfold grpT
    by_cases h2 : p.es[kk].ix < G.fi
    · repeat (first | simp -dsimp -implicitDefEqProofs (disch := first | omega | (simp <;> omega) | fail) [hkk', h2] | ((with_reducible first | apply m_1 | apply m_0); (focus ((conv => lhs; simp -dsimp -implicitDefEqProofs (disch := first | omega | (simp <;> omega) | fail) [hkk', h2]); done))) | ((with_reducible first | apply i_T | apply g_T); (focus (simp -dsimp -implicitDefEqProofs (disch := first | omega | (simp <;> omega) | fail) [hkk', h2]; done))) | ((with_reducible first | apply i_F | apply g_F); (focus (simp -dsimp -implicitDefEqProofs (disch := first | omega | (simp <;> omega) | fail) [hkk', h2]; done))))
      have e : putS G p.es[kk] = G := by unfold putS; rw [if_pos (.inl h2)]
      refine ⟨r - 1, by omega, kk + 1, tk, by omega, ?_, by simp [hw]⟩
      rw [hsn, e]
      exact ⟨_, allocs_snoc _ _ _⟩
    · repeat (first | simp -dsimp -implicitDefEqProofs (disch := first | omega | (simp <;> omega) | fail) [hkk', h2] | ((with_reducible first | apply m_1 | apply m_0); (focus ((conv => lhs; simp -dsimp -implicitDefEqProofs (disch := first | omega | (simp <;> omega) | fail) [hkk', h2]); done))) | ((with_reducible first | apply i_T | apply g_T); (focus (simp -dsimp -implicitDefEqProofs (disch := first | omega | (simp <;> omega) | fail) [hkk', h2]; done))) | ((with_reducible first | apply i_F | apply g_F); (focus (simp -dsimp -implicitDefEqProofs (disch := first | omega | (simp <;> omega) | fail) [hkk', h2]; done))))
      refine gv (ct_laderef6_At (g := G) (i := p.es[kk].ix) (by omega)) ?_
      have hany := idxS_any (fun e : Ent => decide (e.ix = p.es[kk].ix)) G.es
      cases ht : hasIx G.es p.es[kk].ix with
      | true =>
        have ht' : 0 ≤ idxS (fun e : Ent => decide (e.ix = p.es[kk].ix)) G.es := by unfold hasIx at ht; rw [ht] at hany; simpa using hany
        refine st1 ht' ?_
        have e : putS G p.es[kk] = G := by unfold putS; rw [if_pos (.inr ht)]
        refine ⟨r - 1, by omega, kk + 1, tk, by omega, ?_, by simp [hw]⟩
        rw [hsn, e]
        exact ⟨_, allocs_snoc _ _ _⟩
      | false =>
        have ht' : ¬ 0 ≤ idxS (fun e : Ent => decide (e.ix = p.es[kk].ix)) G.es := by unfold hasIx at ht; rw [ht] at hany; simpa using hany
        have hfl := List.length_filter_le (fun e : Ent => decide (e.ix < p.es[kk].ix)) G.es
        have hfl2 := List.length_filter_le (fun e : Ent => decide (p.es[kk].ix ≤ e.ix)) G.es
        refine sd1 ht' ?_
        refine run (rn_laderef6_belowT (l := G.es) (i := p.es[kk].ix) (tk0 := tk) (by omega)) (by first | (simp; done) | rfl) ?_
        rintro _ _ ⟨tk1, rfl, hm1, ⟨g3, rfl⟩⟩
        refine ⟨.of_ext (Grows.ext ⟨g3, rfl⟩), ?_⟩
        refine sd0 ?_
        refine d_appA (B := _) (N := _) (by first | (simp; done) | (simp; rfl)) (by first | (simp; done) | (simp; exact ⟨rfl, rfl⟩)) ⟨g3, rfl⟩ (Nat.le_refl _) (by simp) hm1 (by simp) (by simp) (by simp; omega) (by simp; omega) ?_
        rintro _ tk2 ⟨g4, rfl⟩ hm2 _ _
        refine sd0 ?_
        refine run (rn_laderef6_fromT (l := G.es) (i := p.es[kk].ix) (tk0 := tk) (by omega)) (by first | (simp; done) | rfl) ?_
        rintro _ s5 ⟨tk3, rfl, hm3, hg5⟩
        have hm2' := hm2.grows hg5
        have hg6 := (Grows.allocs (Grows.refl _) g4).trans hg5
        refine o_appA (B := _) (N := _) (by first | (simp; done) | (simp; rfl)) (by first | (simp; done) | (simp; exact ⟨rfl, rfl⟩)) hg6 (Nat.le_refl _) hg6.n hm2' (by have := head_map (f := Ent.av) Ent.row ((G.es.filter fun e => decide (e.ix < p.es[kk].ix)) ++ [p.es[kk]]); simpa using this) (by simp) (by simp; omega) (by simp; omega) ?_
        rintro _ tk4 ⟨g7, rfl⟩ hm4 _ _
        refine st0 ?_
        have e : putS G p.es[kk] = { G with es := (G.es.filter fun e => decide (e.ix < p.es[kk].ix)) ++ p.es[kk] :: G.es.filter fun e => decide (p.es[kk].ix ≤ e.ix) } := by
          rw [below_eq hG.fi, from_eq hG.ok]
          unfold putS; rw [if_neg]; intro h; rcases h with h | h
          · exact h2 h
          · rw [ht] at h; cases h
        refine ⟨r - 1, by omega, kk + 1, tk4, by omega, ?_, by simp [hw]⟩
        rw [hsn, e]
        have hgr := ((Grows.refl ((((s.alloc (.cells g.cells)).alloc (.cells p.cells)).alloc (.cells [.v (.int .i64 0), .v (.int .i64 0), .v (.int .i64 0), .v (.int .i64 0), .v (.int .i64 0), .v (.int .i64 0), .sl [] .zero])).alloc (.cells (grpT { G with es := (G.es.filter fun e => decide (e.ix < p.es[kk].ix)) ++ p.es[kk] :: G.es.filter fun e => decide (p.es[kk].ix ≤ e.ix) } tk4)))).allocs g2).alloc (.cells p.es[kk].cells) |>.allocs g7
        simpa [grpT, List.append_assoc] using hgr
  · have hke : p.es.take kk = p.es := List.take_of_length_le (by omega)
    rw [hke]
    unfold grpT
    refine st1 hkk' ?_
    refine ret_ok (by simp; rfl) ⟨(((((Grows.refl s).alloc _).alloc _).alloc _).alloc _).allocs _, ?_⟩
    rw [fwdS_eq]
    exact (AV.le_strip _).trans (by simp [Grp.av, Grp.cells, retVal]; exact .refl _)
theorem ct_laderef6_fillTF {g : Grp} {p : Prt} {s : AState} (h : Spar g) (hf : FwdOk g p) (hm : p.mr = true) (hh : p.he = false) : Gives prog F_laderef6_fill [g.av, p.av] s (fwdS g p).av s := by
  have hMI := MI_eq
  refine Runs.gives' (runs_e h_laderef6_fill (Nat.le_of_ble_eq_true rfl) ?_) (Grp.row _).flat
  have hsp := hf.sp
  have hes := hf.es
  have hln := hf.ln
  refine st2 hm hh ?_
  refine gv (ct_laderef6_compact (g := g) (i := p.ix) (t := p.tm) h (hf.ix hm)) ?_
  refine st2 hm hh ?_
  refine loop_ok [2, 3, 4, 5, 6] (fun r a s1 => ∃ (kk : Nat) (tk : Tok), kk + r = p.es.length ∧ Grows ((((s.alloc (.cells g.cells)).alloc (.cells p.cells)).alloc (.cells [.v (.int .i64 0), .v (.int .i64 0), .v (.int .i64 0), .v (.int .i64 0), .v (.int .i64 0), .v (.int .i64 0), .sl [] .zero])).alloc (.cells (grpT ((p.es.take kk).foldl putS (fwd0 g p)) tk))) s1 ∧
    a = { t := den 64 [(2, .p s.n 0), (3, .p (s.n + 1) 0), (4, .p (s.n + 1 + 1) 0), (5, .p (s.n + 1 + 1 + 1) 0), (6, .v (.int .i64 kk))], d := [] }) p.es.length ?_ ?_
  · exact ⟨0, .no, by simp, by simp [grpT, fwd0, hm, hh, Grp.cells]; exact Grows.refl _, by simp⟩
  rintro r a s1 ⟨kk, tk, hkr, ⟨g2, rfl⟩, rfl⟩
  by_cases hkk' : kk < p.es.length
  · have hw : IntKind.wrap .i64 ((kk : Int) + 1) = (kk : Int) + 1 := wrap_i64 (by omega) (by omega)
    have hok := okEnt_iff.1 (hes _ (List.getElem_mem hkk'))
    have hG : Spar ((p.es.take kk).foldl putS (fwd0 g p)) := hsp.puts (fun e he => hes e (List.mem_of_mem_take he))
    have hsn := puts_snoc (g := fwd0 g p) hkk'
    generalize (p.es.take kk).foldl putS (fwd0 g p) = G at hG hsn
    have hGl := hG.len
    unfold grpT
    by_cases h2 : p.es[kk].ix < G.fi
    · repeat (first | simp -dsimp -implicitDefEqProofs (disch := first | omega | (simp <;> omega) | fail) [hkk', h2] | ((with_reducible first | apply m_1 | apply m_0); (focus ((conv => lhs; simp -dsimp -implicitDefEqProofs (disch := first | omega | (simp <;> omega) | fail) [hkk', h2]); done))) | ((with_reducible first | apply i_T | apply g_T); (focus (simp -dsimp -implicitDefEqProofs (disch := first | omega | (simp <;> omega) | fail) [hkk', h2]; done))) | ((with_reducible first | apply i_F | apply g_F); (focus (simp -dsimp -implicitDefEqProofs (disch := first | omega | (simp <;> omega) | fail) [hkk', h2]; done))))
      have e : putS G p.es[kk] = G := by unfold putS; rw [if_pos (.inl h2)]
      refine ⟨r - 1, by omega, kk + 1, tk, by omega, ?_, by simp [hw]⟩
      rw [hsn, e]
      exact ⟨_, allocs_snoc _ _ _⟩
    · repeat (first | simp -dsimp -implicitDefEqProofs (disch := first | omega | (simp <;> omega) | fail) [hkk', h2] | ((with_reducible first | apply m_1 | apply m_0); (focus ((conv => lhs; simp -dsimp -implicitDefEqProofs (disch := first | omega | (simp <;> omega) | fail) [hkk', h2]); done))) | ((with_reducible first | apply i_T | apply g_T); (focus (simp -dsimp -implicitDefEqProofs (disch := first | omega | (simp <;> omega) | fail) [hkk', h2]; done))) | ((with_reducible first | apply i_F | apply g_F); (focus (simp -dsimp -implicitDefEqProofs (disch := first | omega | (simp <;> omega) | fail) [hkk', h2]; done))))
      refine gv (ct_laderef6_At (g := G) (i := p.es[kk].ix) (by omega)) ?_
      have hany := idxS_any (fun e : Ent => decide (e.ix = p.es[kk].ix)) G.es
      cases ht : hasIx G.es p.es[kk].ix with
      | true =>
        have ht' : 0 ≤ idxS (fun e : Ent => decide (e.ix = p.es[kk].ix)) G.es := by unfold hasIx at ht; rw [ht] at hany; simpa using hany
        refine st1 ht' ?_
        have e : putS G p.es[kk] = G := by unfold putS; rw [if_pos (.inr ht)]
        refine ⟨r - 1, by omega, kk + 1, tk, by omega, ?_, by simp [hw]⟩
        rw [hsn, e]
        exact ⟨_, allocs_snoc _ _ _⟩
      | false =>
        have ht' : ¬ 0 ≤ idxS (fun e : Ent => decide (e.ix = p.es[kk].ix)) G.es := by unfold hasIx at ht; rw [ht] at hany; simpa using hany
        have hfl := List.length_filter_le (fun e : Ent => decide (e.ix < p.es[kk].ix)) G.es
        have hfl2 := List.length_filter_le (fun e : Ent => decide (p.es[kk].ix ≤ e.ix)) G.es
        refine sd1 ht' ?_
        refine run (rn_laderef6_belowT (l := G.es) (i := p.es[kk].ix) (tk0 := tk) (by omega)) (by first | (simp; done) | rfl) ?_
        rintro _ _ ⟨tk1, rfl, hm1, ⟨g3, rfl⟩⟩
        refine ⟨.of_ext (Grows.ext ⟨g3, rfl⟩), ?_⟩
        refine sd0 ?_
        refine d_appA (B := _) (N := _) (by first | (simp; done) | (simp; rfl)) (by first | (simp; done) | (simp; exact ⟨rfl, rfl⟩)) ⟨g3, rfl⟩ (Nat.le_refl _) (by simp) hm1 (by simp) (by simp) (by simp; omega) (by simp; omega) ?_
        rintro _ tk2 ⟨g4, rfl⟩ hm2 _ _
        refine sd0 ?_
        refine run (rn_laderef6_fromT (l := G.es) (i := p.es[kk].ix) (tk0 := tk) (by omega)) (by first | (simp; done) | rfl) ?_
        rintro _ s5 ⟨tk3, rfl, hm3, hg5⟩
        have hm2' := hm2.grows hg5
        have hg6 := (Grows.allocs (Grows.refl _) g4).trans hg5
        refine o_appA (B := _) (N := _) (by first | (simp; done) | (simp; rfl)) (by first | (simp; done) | (simp; exact ⟨rfl, rfl⟩)) hg6 (Nat.le_refl _) hg6.n hm2' (by have := head_map (f := Ent.av) Ent.row ((G.es.filter fun e => decide (e.ix < p.es[kk].ix)) ++ [p.es[kk]]); simpa using this) (by simp) (by simp; omega) (by simp; omega) ?_
        rintro _ tk4 ⟨g7, rfl⟩ hm4 _ _
        refine st0 ?_
        have e : putS G p.es[kk] = { G with es := (G.es.filter fun e => decide (e.ix < p.es[kk].ix)) ++ p.es[kk] :: G.es.filter fun e => decide (p.es[kk].ix ≤ e.ix) } := by
          rw [below_eq hG.fi, from_eq hG.ok]
          unfold putS; rw [if_neg]; intro h; rcases h with h | h
          · exact h2 h
          · rw [ht] at h; cases h
        refine ⟨r - 1, by omega, kk + 1, tk4, by omega, ?_, by simp [hw]⟩
        rw [hsn, e]
        have hgr := ((Grows.refl ((((s.alloc (.cells g.cells)).alloc (.cells p.cells)).alloc (.cells [.v (.int .i64 0), .v (.int .i64 0), .v (.int .i64 0), .v (.int .i64 0), .v (.int .i64 0), .v (.int .i64 0), .sl [] .zero])).alloc (.cells (grpT { G with es := (G.es.filter fun e => decide (e.ix < p.es[kk].ix)) ++ p.es[kk] :: G.es.filter fun e => decide (p.es[kk].ix ≤ e.ix) } tk4)))).allocs g2).alloc (.cells p.es[kk].cells) |>.allocs g7
        simpa [grpT, List.append_assoc] using hgr
  · have hke : p.es.take kk = p.es := List.take_of_length_le (by omega)
    rw [hke]
    unfold grpT
    refine st1 hkk' ?_
    refine ret_ok (by simp; rfl) ⟨(((((Grows.refl s).alloc _).alloc _).alloc _).alloc _).allocs _, ?_⟩
    rw [fwdS_eq]
    exact (AV.le_strip _).trans (by simp [Grp.av, Grp.cells, retVal]; exact .refl _)
theorem ct_laderef6_fillFT {g : Grp} {p : Prt} {s : AState} (h : Spar g) (hf : FwdOk g p) (hm : p.mr = false) (hh : p.he = true) : Gives prog F_laderef6_fill [g.av, p.av] s (fwdS g p).av s := by
  have hMI := MI_eq
  refine Runs.gives' (runs_e h_laderef6_fill (Nat.le_of_ble_eq_true rfl) ?_) (Grp.row _).flat
  have hsp := hf.sp
  have hes := hf.es
  have hln := hf.ln
  refine st2 hm hh ?_
  skip
  refine st2 hm hh ?_
  refine loop_ok [2, 3, 4, 5, 6] (fun r a s1 => ∃ (kk : Nat) (tk : Tok), kk + r = p.es.length ∧ Grows ((((s.alloc (.cells g.cells)).alloc (.cells p.cells)).alloc (.cells [.v (.int .i64 0), .v (.int .i64 0), .v (.int .i64 0), .v (.int .i64 0), .v (.int .i64 0), .v (.int .i64 0), .sl [] .zero])).alloc (.cells (grpT ((p.es.take kk).foldl putS (fwd0 g p)) tk))) s1 ∧
    a = { t := den 64 [(2, .p s.n 0), (3, .p (s.n + 1) 0), (4, .p (s.n + 1 + 1) 0), (5, .p (s.n + 1 + 1 + 1) 0), (6, .v (.int .i64 kk))], d := [] }) p.es.length ?_ ?_
  · exact ⟨0, .no, by simp, by simp [grpT, fwd0, hm, hh, Grp.cells]; exact Grows.refl _, by simp⟩
  rintro r a s1 ⟨kk, tk, hkr, ⟨g2, rfl⟩, rfl⟩
  by_cases hkk' : kk < p.es.length
  · have hw : IntKind.wrap .i64 ((kk : Int) + 1) = (kk : Int) + 1 := wrap_i64 (by omega) (by omega)
    have hok := okEnt_iff.1 (hes _ (List.getElem_mem hkk'))
    have hG : Spar ((p.es.take kk).foldl putS (fwd0 g p)) := hsp.puts (fun e he => hes e (List.mem_of_mem_take he))
    have hsn := puts_snoc (g := fwd0 g p) hkk'
    generalize (p.es.take kk).foldl putS (fwd0 g p) = G at hG hsn
    have hGl := hG.len
    unfold grpT
    by_cases h2 : p.es[kk].ix < G.fi
    · repeat (first | simp -dsimp -implicitDefEqProofs (disch := first | omega | (simp <;> omega) | fail) [hkk', h2] | ((with_reducible first | apply m_1 | apply m_0); (focus ((conv => lhs; simp -dsimp -implicitDefEqProofs (disch := first | omega | (simp <;> omega) | fail) [hkk', h2]); done))) | ((with_reducible first | apply i_T | apply g_T); (focus (simp -dsimp -implicitDefEqProofs (disch := first | omega | (simp <;> omega) | fail) [hkk', h2]; done))) | ((with_reducible first | apply i_F | apply g_F); (focus (simp -dsimp -implicitDefEqProofs (disch := first | omega | (simp <;> omega) | fail) [hkk', h2]; done))))
      have e : putS G p.es[kk] = G := by unfold putS; rw [if_pos (.inl h2)]
      refine ⟨r - 1, by omega, kk + 1, tk, by omega, ?_, by simp [hw]⟩
      rw [hsn, e]
      exact ⟨_, allocs_snoc _ _ _⟩
    · repeat (first | simp -dsimp -implicitDefEqProofs (disch := first | omega | (simp <;> omega) | fail) [hkk', h2] | ((with_reducible first | apply m_1 | apply m_0); (focus ((conv => lhs; simp -dsimp -implicitDefEqProofs (disch := first | omega | (simp <;> omega) | fail) [hkk', h2]); done))) | ((with_reducible first | apply i_T | apply g_T); (focus (simp -dsimp -implicitDefEqProofs (disch := first | omega | (simp <;> omega) | fail) [hkk', h2]; done))) | ((with_reducible first | apply i_F | apply g_F); (focus (simp -dsimp -implicitDefEqProofs (disch := first | omega | (simp <;> omega) | fail) [hkk', h2]; done))))
      refine gv (ct_laderef6_At (g := G) (i := p.es[kk].ix) (by omega)) ?_
      have hany := idxS_any (fun e : Ent => decide (e.ix = p.es[kk].ix)) G.es
      cases ht : hasIx G.es p.es[kk].ix with
      | true =>
        have ht' : 0 ≤ idxS (fun e : Ent => decide (e.ix = p.es[kk].ix)) G.es := by unfold hasIx at ht; rw [ht] at hany; simpa using hany
        refine st1 ht' ?_
        have e : putS G p.es[kk] = G := by unfold putS; rw [if_pos (.inr ht)]
        refine ⟨r - 1, by omega, kk + 1, tk, by omega, ?_, by simp [hw]⟩
        rw [hsn, e]
        exact ⟨_, allocs_snoc _ _ _⟩
      | false =>
        have ht' : ¬ 0 ≤ idxS (fun e : Ent => decide (e.ix = p.es[kk].ix)) G.es := by unfold hasIx at ht; rw [ht] at hany; simpa using hany
        have hfl := List.length_filter_le (fun e : Ent => decide (e.ix < p.es[kk].ix)) G.es
        have hfl2 := List.length_filter_le (fun e : Ent => decide (p.es[kk].ix ≤ e.ix)) G.es
        refine sd1 ht' ?_
        refine run (rn_laderef6_belowT (l := G.es) (i := p.es[kk].ix) (tk0 := tk) (by omega)) (by first | (simp; done) | rfl) ?_
        rintro _ _ ⟨tk1, rfl, hm1, ⟨g3, rfl⟩⟩
        refine ⟨.of_ext (Grows.ext ⟨g3, rfl⟩), ?_⟩
        refine sd0 ?_
        refine d_appA (B := _) (N := _) (by first | (simp; done) | (simp; rfl)) (by first | (simp; done) | (simp; exact ⟨rfl, rfl⟩)) ⟨g3, rfl⟩ (Nat.le_refl _) (by simp) hm1 (by simp) (by simp) (by simp; omega) (by simp; omega) ?_
        rintro _ tk2 ⟨g4, rfl⟩ hm2 _ _
        refine sd0 ?_
        refine run (rn_laderef6_fromT (l := G.es) (i := p.es[kk].ix) (tk0 := tk) (by omega)) (by first | (simp; done) | rfl) ?_
        rintro _ s5 ⟨tk3, rfl, hm3, hg5⟩
        have hm2' := hm2.grows hg5
        have hg6 := (Grows.allocs (Grows.refl _) g4).trans hg5
        refine o_appA (B := _) (N := _) (by first | (simp; done) | (simp; rfl)) (by first | (simp; done) | (simp; exact ⟨rfl, rfl⟩)) hg6 (Nat.le_refl _) hg6.n hm2' (by have := head_map (f := Ent.av) Ent.row ((G.es.filter fun e => decide (e.ix < p.es[kk].ix)) ++ [p.es[kk]]); simpa using this) (by simp) (by simp; omega) (by simp; omega) ?_
        rintro _ tk4 ⟨g7, rfl⟩ hm4 _ _
        refine st0 ?_
        have e : putS G p.es[kk] = { G with es := (G.es.filter fun e => decide (e.ix < p.es[kk].ix)) ++ p.es[kk] :: G.es.filter fun e => decide (p.es[kk].ix ≤ e.ix) } := by
          rw [below_eq hG.fi, from_eq hG.ok]
          unfold putS; rw [if_neg]; intro h; rcases h with h | h
          · exact h2 h
          · rw [ht] at h; cases h
        refine ⟨r - 1, by omega, kk + 1, tk4, by omega, ?_, by simp [hw]⟩
        rw [hsn, e]
        have hgr := ((Grows.refl ((((s.alloc (.cells g.cells)).alloc (.cells p.cells)).alloc (.cells [.v (.int .i64 0), .v (.int .i64 0), .v (.int .i64 0), .v (.int .i64 0), .v (.int .i64 0), .v (.int .i64 0), .sl [] .zero])).alloc (.cells (grpT { G with es := (G.es.filter fun e => decide (e.ix < p.es[kk].ix)) ++ p.es[kk] :: G.es.filter fun e => decide (p.es[kk].ix ≤ e.ix) } tk4)))).allocs g2).alloc (.cells p.es[kk].cells) |>.allocs g7
        simpa [grpT, List.append_assoc] using hgr
  · have hke : p.es.take kk = p.es := List.take_of_length_le (by omega)
    rw [hke]
    unfold grpT
    refine st1 hkk' ?_
    refine ret_ok (by simp; rfl) ⟨(((((Grows.refl s).alloc _).alloc _).alloc _).alloc _).allocs _, ?_⟩
    rw [fwdS_eq]
    exact (AV.le_strip _).trans (by simp [Grp.av, Grp.cells, retVal]; exact .refl _)
theorem ct_laderef6_fillFF {g : Grp} {p : Prt} {s : AState} (h : Spar g) (hf : FwdOk g p) (hm : p.mr = false) (hh : p.he = false) : Gives prog F_laderef6_fill [g.av, p.av] s (fwdS g p).av s := by
  have hMI := MI_eq
  refine Runs.gives' (runs_e h_laderef6_fill (Nat.le_of_ble_eq_true rfl) ?_) (Grp.row _).flat
  have hsp := hf.sp
  have hes := hf.es
  have hln := hf.ln
  refine st2 hm hh ?_
  skip
  refine st2 hm hh ?_
  refine loop_ok [2, 3, 4, 5, 6] (fun r a s1 => ∃ (kk : Nat) (tk : Tok), kk + r = p.es.length ∧ Grows ((((s.alloc (.cells g.cells)).alloc (.cells p.cells)).alloc (.cells [.v (.int .i64 0), .v (.int .i64 0), .v (.int .i64 0), .v (.int .i64 0), .v (.int .i64 0), .v (.int .i64 0), .sl [] .zero])).alloc (.cells (grpT ((p.es.take kk).foldl putS (fwd0 g p)) tk))) s1 ∧
    a = { t := den 64 [(2, .p s.n 0), (3, .p (s.n + 1) 0), (4, .p (s.n + 1 + 1) 0), (5, .p (s.n + 1 + 1 + 1) 0), (6, .v (.int .i64 kk))], d := [] }) p.es.length ?_ ?_
  · exact ⟨0, .no, by simp, by simp [grpT, fwd0, hm, hh, Grp.cells]; exact Grows.refl _, by simp⟩
  rintro r a s1 ⟨kk, tk, hkr, ⟨g2, rfl⟩, rfl⟩
  by_cases hkk' : kk < p.es.length
  · have hw : IntKind.wrap .i64 ((kk : Int) + 1) = (kk : Int) + 1 := wrap_i64 (by omega) (by omega)
    have hok := okEnt_iff.1 (hes _ (List.getElem_mem hkk'))
    have hG : Spar ((p.es.take kk).foldl putS (fwd0 g p)) := hsp.puts (fun e he => hes e (List.mem_of_mem_take he))
    have hsn := puts_snoc (g := fwd0 g p) hkk'
    generalize (p.es.take kk).foldl putS (fwd0 g p) = G at hG hsn
    have hGl := hG.len
    unfold grpT
    by_cases h2 : p.es[kk].ix < G.fi
    · repeat (first | simp -dsimp -implicitDefEqProofs (disch := first | omega | (simp <;> omega) | fail) [hkk', h2] | ((with_reducible first | apply m_1 | apply m_0); (focus ((conv => lhs; simp -dsimp -implicitDefEqProofs (disch := first | omega | (simp <;> omega) | fail) [hkk', h2]); done))) | ((with_reducible first | apply i_T | apply g_T); (focus (simp -dsimp -implicitDefEqProofs (disch := first | omega | (simp <;> omega) | fail) [hkk', h2]; done))) | ((with_reducible first | apply i_F | apply g_F); (focus (simp -dsimp -implicitDefEqProofs (disch := first | omega | (simp <;> omega) | fail) [hkk', h2]; done))))
      have e : putS G p.es[kk] = G := by unfold putS; rw [if_pos (.inl h2)]
      refine ⟨r - 1, by omega, kk + 1, tk, by omega, ?_, by simp [hw]⟩
      rw [hsn, e]
      exact ⟨_, allocs_snoc _ _ _⟩
    · repeat (first | simp -dsimp -implicitDefEqProofs (disch := first | omega | (simp <;> omega) | fail) [hkk', h2] | ((with_reducible first | apply m_1 | apply m_0); (focus ((conv => lhs; simp -dsimp -implicitDefEqProofs (disch := first | omega | (simp <;> omega) | fail) [hkk', h2]); done))) | ((with_reducible first | apply i_T | apply g_T); (focus (simp -dsimp -implicitDefEqProofs (disch := first | omega | (simp <;> omega) | fail) [hkk', h2]; done))) | ((with_reducible first | apply i_F | apply g_F); (focus (simp -dsimp -implicitDefEqProofs (disch := first | omega | (simp <;> omega) | fail) [hkk', h2]; done))))
      refine gv (ct_laderef6_At (g := G) (i := p.es[kk].ix) (by omega)) ?_
      have hany := idxS_any (fun e : Ent => decide (e.ix = p.es[kk].ix)) G.es
      cases ht : hasIx G.es p.es[kk].ix with
      | true =>
        have ht' : 0 ≤ idxS (fun e : Ent => decide (e.ix = p.es[kk].ix)) G.es := by unfold hasIx at ht; rw [ht] at hany; simpa using hany
        refine st1 ht' ?_
        have e : putS G p.es[kk] = G := by unfold putS; rw [if_pos (.inr ht)]
        refine ⟨r - 1, by omega, kk + 1, tk, by omega, ?_, by simp [hw]⟩
        rw [hsn, e]
        exact ⟨_, allocs_snoc _ _ _⟩
      | false =>
        have ht' : ¬ 0 ≤ idxS (fun e : Ent => decide (e.ix = p.es[kk].ix)) G.es := by unfold hasIx at ht; rw [ht] at hany; simpa using hany
        have hfl := List.length_filter_le (fun e : Ent => decide (e.ix < p.es[kk].ix)) G.es
        have hfl2 := List.length_filter_le (fun e : Ent => decide (p.es[kk].ix ≤ e.ix)) G.es
        refine sd1 ht' ?_
        refine run (rn_laderef6_belowT (l := G.es) (i := p.es[kk].ix) (tk0 := tk) (by omega)) (by first | (simp; done) | rfl) ?_
        rintro _ _ ⟨tk1, rfl, hm1, ⟨g3, rfl⟩⟩
        refine ⟨.of_ext (Grows.ext ⟨g3, rfl⟩), ?_⟩
        refine sd0 ?_
        refine d_appA (B := _) (N := _) (by first | (simp; done) | (simp; rfl)) (by first | (simp; done) | (simp; exact ⟨rfl, rfl⟩)) ⟨g3, rfl⟩ (Nat.le_refl _) (by simp) hm1 (by simp) (by simp) (by simp; omega) (by simp; omega) ?_
        rintro _ tk2 ⟨g4, rfl⟩ hm2 _ _
        refine sd0 ?_
        refine run (rn_laderef6_fromT (l := G.es) (i := p.es[kk].ix) (tk0 := tk) (by omega)) (by first | (simp; done) | rfl) ?_
        rintro _ s5 ⟨tk3, rfl, hm3, hg5⟩
        have hm2' := hm2.grows hg5
        have hg6 := (Grows.allocs (Grows.refl _) g4).trans hg5
        refine o_appA (B := _) (N := _) (by first | (simp; done) | (simp; rfl)) (by first | (simp; done) | (simp; exact ⟨rfl, rfl⟩)) hg6 (Nat.le_refl _) hg6.n hm2' (by have := head_map (f := Ent.av) Ent.row ((G.es.filter fun e => decide (e.ix < p.es[kk].ix)) ++ [p.es[kk]]); simpa using this) (by simp) (by simp; omega) (by simp; omega) ?_
        rintro _ tk4 ⟨g7, rfl⟩ hm4 _ _
        refine st0 ?_
        have e : putS G p.es[kk] = { G with es := (G.es.filter fun e => decide (e.ix < p.es[kk].ix)) ++ p.es[kk] :: G.es.filter fun e => decide (p.es[kk].ix ≤ e.ix) } := by
          rw [below_eq hG.fi, from_eq hG.ok]
          unfold putS; rw [if_neg]; intro h; rcases h with h | h
          · exact h2 h
          · rw [ht] at h; cases h
        refine ⟨r - 1, by omega, kk + 1, tk4, by omega, ?_, by simp [hw]⟩
        rw [hsn, e]
        have hgr := ((Grows.refl ((((s.alloc (.cells g.cells)).alloc (.cells p.cells)).alloc (.cells [.v (.int .i64 0), .v (.int .i64 0), .v (.int .i64 0), .v (.int .i64 0), .v (.int .i64 0), .v (.int .i64 0), .sl [] .zero])).alloc (.cells (grpT { G with es := (G.es.filter fun e => decide (e.ix < p.es[kk].ix)) ++ p.es[kk] :: G.es.filter fun e => decide (p.es[kk].ix ≤ e.ix) } tk4)))).allocs g2).alloc (.cells p.es[kk].cells) |>.allocs g7
        simpa [grpT, List.append_assoc] using hgr
  · have hke : p.es.take kk = p.es := List.take_of_length_le (by omega)
    rw [hke]
    unfold grpT
    refine st1 hkk' ?_
    refine ret_ok (by simp; rfl) ⟨(((((Grows.refl s).alloc _).alloc _).alloc _).alloc _).allocs _, ?_⟩
    rw [fwdS_eq]
    exact (AV.le_strip _).trans (by simp [Grp.av, Grp.cells, retVal]; exact .refl _)
theorem ct_laderef6_fill {g : Grp} {p : Prt} {s : AState} (h : Spar g) (hf : FwdOk g p) : Gives prog F_laderef6_fill [g.av, p.av] s (fwdS g p).av s := by
  cases hm : p.mr <;> cases hh : p.he
  · exact ct_laderef6_fillFF h hf hm hh
  · exact ct_laderef6_fillFT h hf hm hh
  · exact ct_laderef6_fillTF h hf hm hh
  · exact ct_laderef6_fillTT h hf hm hh
end Go.Proofs.YtmpoeamfcienoaaGreat
end
section
namespace Go.Proofs.YtmpoeamfcienoaaGreat
open Go.Ab
set_option linter.unusedVariables false
set_option linter.unusedSimpArgs false
set_option maxRecDepth 100000
set_option maxHeartbeats 4000000
def dense (g : Grp) : Bool := (List.range g.es.length).all fun j : Nat => decide ((g.es.getD j default).ix = g.fi + (j : Int))
theorem ct_laderef6_is {g : Grp} {d : Bool} {s : AState} (h : Spar g) : Gives prog F_laderef6_is [g.av, .v (.bool d)] s (.v (.bool (!d || dense g))) s := by
  have hlen := h.len
  have hMI := MI_eq
  have h0 := okHead_iff.1 h.hd
  obtain ⟨⟨a1, a2⟩, ⟨a3, a4⟩, ⟨a5, a6⟩, a7⟩ := h0
  refine Runs.gives' (runs_e h_laderef6_is (Nat.le_of_ble_eq_true rfl) ?_) (.v _)
  have b1 : ¬ g.id < 0 := by omega
  have b2 : ¬ 999 < g.id := by omega
  have b3 : ¬ g.fi < 1 := by omega
  have b4 : ¬ 1099511627777 < g.fi := by omega
  have b5 : ¬ g.tm < 0 := by omega
  have b6 : ¬ 1099511627776 < g.tm := by omega
  refine st7c1 @ct_laderef4_IsHardE b1 b2 b3 b4 b5 b6 a7 ?_
  refine loop_ok [1, 2, 5, 6] (fun r a s1 => ∃ (j : Nat), j + r = g.es.length ∧ Grows (s.alloc (.cells g.cells)) s1 ∧ (d = true → ∀ x (hx : x < j) (hx' : x < g.es.length), g.es[x].ix = g.fi + (x : Int)) ∧
    a = { t := den 77 [(1, .v (.bool d)), (2, .p s.n 0), (5, .v (.int .i64 (if j = 0 then g.fi else (g.es.getD (j - 1) default).ix + 1))), (6, .v (.int .i64 j))], d := [] }) g.es.length ?_ ?_
  · exact ⟨0, by simp, Grows.refl _, fun _ x hx => by omega, by simp⟩
  rintro r a s1 ⟨j, hjr, ⟨gg, rfl⟩, hD, rfl⟩
  by_cases hlt : j < g.es.length
  · have hw : IntKind.wrap .i64 ((j : Int) + 1) = (j : Int) + 1 := wrap_i64 (by omega) (by omega)
    have hok := h.ok _ (List.getElem_mem hlt)
    have hok' := okEnt_iff.1 hok
    have hw2 : IntKind.wrap .i64 (g.es[j].ix + 1) = g.es[j].ix + 1 := wrap_i64 (by omega) (by omega)
    have hge : ¬ g.es[j].ix < (if j = 0 then g.fi else (g.es.getD (j - 1) default).ix + 1) := by
      split
      · have := h.fi _ (List.getElem_mem hlt); omega
      · have := List.pairwise_iff_getElem.1 h.srt (j - 1) j (by omega) hlt (by omega)
        simp [show j - 1 < g.es.length by omega]
        omega
    have hat : d = true → (if j = 0 then g.fi else (g.es.getD (j - 1) default).ix + 1) = g.fi + (j : Int) := fun hd => by
      split
      · next hj => subst hj; simp
      · have := hD hd (j - 1) (by omega) (by omega)
        simp [show j - 1 < g.es.length by omega, this]
        omega
    generalize (if j = 0 then g.fi else (g.es.getD (j - 1) default).ix + 1) = at_ at hge hat
    have hnx : (if j + 1 = 0 then g.fi else (g.es.getD (j + 1 - 1) default).ix + 1) = g.es[j].ix + 1 := by simp [hlt]
    cases d with
    | false =>
      repeat (first | simp -dsimp -implicitDefEqProofs (disch := first | omega | (simp <;> omega) | fail) [hlt, hok, hge] | ((with_reducible first | apply m_1 | apply m_0); (focus ((conv => lhs; simp -dsimp -implicitDefEqProofs (disch := first | omega | (simp <;> omega) | fail) [hlt, hok, hge]); done))) | ((with_reducible apply giv); (case hAR => ((conv => lhs; simp -dsimp -implicitDefEqProofs (disch := first | omega | (simp <;> omega) | fail) [hlt, hok, hge]); done)); (case hCT => (first | (apply ct_laderef4_IsEntry <;> first | assumption | omega | decide)))) | ((with_reducible first | apply i_T | apply g_T); (focus (simp -dsimp -implicitDefEqProofs (disch := first | omega | (simp <;> omega) | fail) [hlt, hok, hge]; done))) | ((with_reducible first | apply i_F | apply g_F); (focus (simp -dsimp -implicitDefEqProofs (disch := first | omega | (simp <;> omega) | fail) [hlt, hok, hge]; done))))
      refine ⟨r - 1, by omega, j + 1, by omega, ⟨_, allocs_snoc _ _ _⟩, (fun hd => by cases hd), ?_⟩
      rw [hnx]; simp [hw, hw2]
    | true =>
      have hat := hat rfl
      by_cases he : g.es[j].ix = at_
      · repeat (first | simp -dsimp -implicitDefEqProofs (disch := first | omega | (simp <;> omega) | fail) [hlt, hok, hge, he] | ((with_reducible first | apply m_1 | apply m_0); (focus ((conv => lhs; simp -dsimp -implicitDefEqProofs (disch := first | omega | (simp <;> omega) | fail) [hlt, hok, hge, he]); done))) | ((with_reducible apply giv); (case hAR => ((conv => lhs; simp -dsimp -implicitDefEqProofs (disch := first | omega | (simp <;> omega) | fail) [hlt, hok, hge, he]); done)); (case hCT => (first | (apply ct_laderef4_IsEntry <;> first | assumption | omega | decide)))) | ((with_reducible first | apply i_T | apply g_T); (focus (simp -dsimp -implicitDefEqProofs (disch := first | omega | (simp <;> omega) | fail) [hlt, hok, hge, he]; done))) | ((with_reducible first | apply i_F | apply g_F); (focus (simp -dsimp -implicitDefEqProofs (disch := first | omega | (simp <;> omega) | fail) [hlt, hok, hge, he]; done))))
        refine ⟨r - 1, by omega, j + 1, by omega, ⟨_, allocs_snoc _ _ _⟩, fun hd x hx hx' => ?_, ?_⟩
        · by_cases e : x = j
          · subst e; omega
          · exact hD hd x (by omega) hx'
        · rw [hnx, ← he]; simp [hw, hw2]
      · repeat (first | simp -dsimp -implicitDefEqProofs (disch := first | omega | (simp <;> omega) | fail) [hlt, hok, hge, he] | ((with_reducible first | apply m_1 | apply m_0); (focus ((conv => lhs; simp -dsimp -implicitDefEqProofs (disch := first | omega | (simp <;> omega) | fail) [hlt, hok, hge, he]); done))) | ((with_reducible apply giv); (case hAR => ((conv => lhs; simp -dsimp -implicitDefEqProofs (disch := first | omega | (simp <;> omega) | fail) [hlt, hok, hge, he]); done)); (case hCT => (first | (apply ct_laderef4_IsEntry <;> first | assumption | omega | decide)))) | ((with_reducible first | apply i_T | apply g_T); (focus (simp -dsimp -implicitDefEqProofs (disch := first | omega | (simp <;> omega) | fail) [hlt, hok, hge, he]; done))) | ((with_reducible first | apply i_F | apply g_F); (focus (simp -dsimp -implicitDefEqProofs (disch := first | omega | (simp <;> omega) | fail) [hlt, hok, hge, he]; done))))
        refine ret_ok rfl ⟨((Grows.refl _).alloc _).allocs _ |>.alloc _, ?_⟩
        have : dense g = false := by
          unfold dense
          rw [List.all_eq_false]
          exact ⟨j, by simpa using hlt, by simp [hlt]; omega⟩
        rw [this]; exact .refl _
  · refine st1 hlt ?_
    refine ret_ok rfl ⟨((Grows.refl _).alloc _).allocs _, ?_⟩
    have : (!d || dense g) = true := by
      cases d with
      | false => rfl
      | true =>
        have : dense g = true := by
          unfold dense
          rw [List.all_eq_true]
          intro x hx
          have hx := List.mem_range.1 hx
          have := hD rfl x (by omega) hx
          simpa [hx] using this
        rw [this]; rfl
    rw [this]; exact .refl _
theorem ct_laderef6_IsSparse {g : Grp} {s : AState} (h : Spar g) : Gives prog F_laderef6_IsSparse [g.av] s (.v (.bool true)) s := by
  refine Runs.gives' (runs_e h_laderef6_IsSparse (Nat.le_of_ble_eq_true rfl) ?_) (.v _)
  refine st0 ?_
  refine gv (ct_laderef6_is (g := g) (d := false) h) ?_
  refine st0 ?_
  exact ret_ok rfl ⟨(Grows.refl _).alloc _, .refl _⟩
theorem ct_laderef6_Loose {g : Grp} {p : Prt} {s : AState} (h : Spar g) (hpl : (p.es.length : Int) < 9223372036854775808) : Gives prog F_laderef6_Loose [g.av, p.av] s (doS g p).av s := by
  have hMI := MI_eq
  have hlen := h.len
  refine Runs.gives' (runs_e h_laderef6_Loose (Nat.le_of_ble_eq_true rfl) ?_) (Grp.row _).flat
  refine st0 ?_
  refine gv (ct_laderef6_IsSparse h) ?_
  refine st0 ?_
  refine gv (ct_laderef4_Is (p := p) hpl) ?_
  cases hp : isPart p with
  | false =>
    have e : doS g p = g := by unfold doS; rw [if_neg]; rw [hp]; intro h; cases h.1
    rw [e]
    refine st0 ?_
    exact ret_ok (by simp; rfl) ⟨((Grows.refl _).alloc _).alloc _ |>.alloc _, .refl _⟩
  | true =>
    by_cases hg : p.gr = g.id
    · have e : doS g p = (if p.kd = 1 then { g with es := g.es.filter (inR g.fi ((p.es.getD 0 default).ix)) ++ p.es.filter (inR g.fi (MI + 1)) }
          else if p.kd = 2 then { g with ht := p.ht, hv := p.hv, hc := p.hc }
          else if p.kd = 3 then goneS g p.ix p.tm
          else if p.kd = 4 then goneS (if g.fi ≤ p.ix then { g with es := [] } else g) p.ix p.tm
          else if p.kd = 6 then fwdS g p
          else g) := by unfold doS; rw [if_pos ⟨hp, hg⟩]
      by_cases h5 : p.kd = 5
      · have e' : doS g p = g := by rw [e]; simp [h5]
        rw [e']
        refine st2 hg h5 ?_
        exact ret_ok (by simp; rfl) ⟨((Grows.refl _).alloc _).alloc _ |>.alloc _, .refl _⟩
      rw [e]
      clear e
      by_cases h1 : p.kd = 1
      · rw [if_pos h1]
        obtain ⟨hne, hr⟩ := isPart_1 hp h1
        obtain ⟨hpo, _, hl6⟩ := rising_ok hr
        have h0l : 0 < p.es.length := by cases hpe : p.es <;> simp_all
        have hd0 : p.es.getD 0 default = p.es[0] := by simp [h0l]
        rw [hd0, ← from_eq hpo, ← below_eq h.fi]
        repeat (first | simp -dsimp -implicitDefEqProofs (disch := first | omega | (simp <;> omega) | fail) [hg, h1, h0l] | (with_reducible apply m_draw) | ((with_reducible refine ⟨m_op ?_, ?_⟩); (focus (simp -dsimp -implicitDefEqProofs (disch := first | omega | (simp <;> omega) | fail) [hg, h1, h0l]; done))) | ((with_reducible first | apply m_d1 rfl | apply m_dE | apply m_dE0); (focus ((conv => lhs; simp -dsimp -implicitDefEqProofs (disch := first | omega | (simp <;> omega) | fail) [hg, h1, h0l]); done))) | ((with_reducible first | apply m_1 | apply m_0); (focus ((conv => lhs; simp -dsimp -implicitDefEqProofs (disch := first | omega | (simp <;> omega) | fail) [hg, h1, h0l]); done))) | ((with_reducible first | apply i_T | apply g_T | apply h_T); (focus (simp -dsimp -implicitDefEqProofs (disch := first | omega | (simp <;> omega) | fail) [hg, h1, h0l]; done))) | ((with_reducible first | apply i_F | apply g_F | apply h_F); (focus (simp -dsimp -implicitDefEqProofs (disch := first | omega | (simp <;> omega) | fail) [hg, h1, h0l]; done))))
        refine run (rn_laderef6_below (l := g.es) (i := p.es[0].ix) (by omega)) (by first | (simp; done) | rfl) ?_
        rintro _ s1 ⟨tk1, rfl, hm1, hg1⟩
        refine ⟨.of_ext hg1.ext, ?_⟩
        refine run (rn_laderef6_from (l := p.es) (i := g.fi) (by omega)) (by first | (simp; done) | rfl) ?_
        rintro _ s2 ⟨tk2, rfl, hm2, hg2⟩
        refine ⟨.of_ext hg2.ext, ?_⟩
        have hm1' := hm1.grows hg2
        obtain ⟨g3, rfl⟩ := hg1.trans hg2
        clear hm1 hm2 hg1 hg2
        have hfl := List.length_filter_le (fun e : Ent => decide (e.ix < p.es[0].ix)) g.es
        have hfl2 := List.length_filter_le (fun e : Ent => decide (g.fi ≤ e.ix)) p.es
        refine sd0 ?_
        refine d_appA (B := _) (N := _) (by first | (simp; done) | (simp; rfl)) (by simp; exact ⟨rfl, rfl⟩) ⟨g3, rfl⟩ (Nat.le_refl _) (by simp) hm1' (by simp) (by simp) (by simp; omega) (by simp; omega) ?_
        rintro s4 tk4 ⟨g4, rfl⟩ hm4 _ _
        refine sd0 ?_
        refine ret_ok (by simp; rfl) ⟨(((Grows.refl _).alloc _).alloc _ |>.alloc _).alloc _ |>.allocs _, ?_⟩
        exact (AV.le_strip _).trans (by simp [Grp.av, Grp.cells, retVal]; exact .refl _)
      rw [if_neg h1]
      by_cases h2 : p.kd = 2
      · rw [if_pos h2]
        refine st3 hg h1 h2 ?_
        refine ret_ok (by simp; rfl) ⟨(((Grows.refl _).alloc _).alloc _ |>.alloc _).alloc _, ?_⟩
        simp [retVal, Grp.av, Grp.cells]; exact .refl _
      rw [if_neg h2]
      by_cases h3 : p.kd = 3
      · rw [if_pos h3]
        have hi := isPart_3 hp (.inl h3)
        refine st4 hg h1 h2 h3 ?_
        refine gv (ct_laderef6_compact (g := g) (i := p.ix) (t := p.tm) h (by omega)) ?_
        refine st0 ?_
        exact ret_ok (by simp; rfl) ⟨(((Grows.refl _).alloc _).alloc _ |>.alloc _).alloc _, .refl _⟩
      rw [if_neg h3]
      by_cases h4 : p.kd = 4
      · rw [if_pos h4]
        have hi := isPart_3 hp (.inr h4)
        have ht1 : p.tm ≠ 0 := by
          have hp' := hp
          simp only [isPart, Bool.and_eq_true] at hp'
          obtain ⟨_, hk⟩ := hp'
          rw [h4] at hk; simp [okMrk, btw] at hk; omega
        have hwi : IntKind.wrap .i64 (p.ix + 1) = p.ix + 1 := wrap_i64 (by omega) (by omega)
        by_cases h6 : g.fi ≤ p.ix
        · rw [if_pos h6]
          have e2 : goneS { g with es := [] } p.ix p.tm = { g with es := [], fi := p.ix + 1, tm := p.tm } := by
            unfold goneS; rw [if_neg (by show ¬ p.ix < g.fi; omega), if_neg ht1]; rfl
          rw [e2]
          refine sd7 hg h1 h2 h3 h4 h6 hwi ?_
          refine ret_ok (by simp; rfl) ⟨(((Grows.refl _).alloc _).alloc _ |>.alloc _).alloc _, ?_⟩
          exact (AV.le_strip _).trans (by simp [Grp.av, Grp.cells, retVal]; exact .refl _)
        · rw [if_neg h6]
          have e2 : goneS g p.ix p.tm = g := by unfold goneS; rw [if_pos (by omega)]
          rw [e2]
          refine st6 hg h1 h2 h3 h4 h6 ?_
          exact ret_ok (by simp; rfl) ⟨(((Grows.refl _).alloc _).alloc _ |>.alloc _).alloc _, .refl _⟩
      rw [if_neg h4]
      by_cases h6 : p.kd = 6
      · rw [if_pos h6]
        refine st6 hg h1 h2 h3 h4 h6 ?_
        refine gv (ct_laderef6_fill (g := g) (p := p) h (fwdOk h hp h6)) ?_
        refine st0 ?_
        exact ret_ok (by simp; rfl) ⟨(((Grows.refl _).alloc _).alloc _ |>.alloc _).alloc _, .refl _⟩
      rw [if_neg h6]
      refine st7 hg h1 h2 h3 h4 h5 h6 ?_
      exact ret_ok (by simp; rfl) ⟨(((Grows.refl _).alloc _).alloc _ |>.alloc _).alloc _, .refl _⟩
    · have e : doS g p = g := by unfold doS; rw [if_neg]; intro h; exact hg h.2
      rw [e]
      refine st1 hg ?_
      exact ret_ok (by simp; rfl) ⟨((Grows.refl _).alloc _).alloc _ |>.alloc _, .refl _⟩
end Go.Proofs.YtmpoeamfcienoaaGreat
end
section
namespace Go.Proofs.YtmpoeamfcienoaaGreat
open Go.Ab
set_option linter.unusedVariables false
set_option linter.unusedSimpArgs false
set_option maxRecDepth 100000
set_option maxHeartbeats 4000000
theorem ct_group_Same {a b : Grp} {s : AState} (hl : (a.es.length : Int) < 9223372036854775808) : Gives prog F_group_Same [a.av, b.av] s (.v (.bool (decide (a = b)))) s := by
  refine Runs.gives' (runs_e h_group_Same (Nat.le_of_ble_eq_true rfl) ?_) (.v _)
  repeat' (first | simp -dsimp -implicitDefEqProofs (disch := first | omega | (simp <;> omega) | fail) [*] | ((with_reducible first | apply m_1 | apply m_0); (focus ((conv => lhs; simp -dsimp -implicitDefEqProofs (disch := first | omega | (simp <;> omega) | fail) [*]); done))) | ((with_reducible apply giv); (case hAR => ((conv => lhs; simp -dsimp -implicitDefEqProofs (disch := first | omega | (simp <;> omega) | fail) [*]); done)); (case hCT => (first | (apply ct_slices_Equal_Entry <;> first | assumption | omega | decide)))) | ((with_reducible first | apply i_T | apply g_T); (focus (simp -dsimp -implicitDefEqProofs (disch := first | omega | (simp <;> omega) | fail) [*]; done))) | ((with_reducible first | apply i_F | apply g_F); (focus (simp -dsimp -implicitDefEqProofs (disch := first | omega | (simp <;> omega) | fail) [*]; done))) | ((with_reducible first | apply s_split | apply s_gsplit) <;> (intro hb; have hb' := hb; try simp only [decide_eq_true_eq, decide_eq_false_iff_not, beq_iff_eq, beq_eq_false_iff_ne, bne_iff_ne, bne_eq_false_iff_eq, ne_eq, Bool.not_true, Bool.not_false, Bool.not_eq_true', Bool.not_eq_false', Bool.and_eq_true, Bool.or_eq_true, Bool.or_eq_false_iff] at hb; try simp at hb')))
  all_goals refine ret_ok (by simp; rfl) ⟨((Grows.refl _).alloc _).alloc _, ?_⟩
  all_goals simp only [retVal]
  all_goals first
    | (rw [show decide (a = b) = false by first | (simp [Grp.ext_iff, *]; done) | (rw [decide_eq_false_iff_not, Grp.ext_iff]; grind)]; simp [*, AV.le.refl]; done)
    | (simp [Grp.ext_iff, *, AV.le.refl]; done)
theorem ct_laderef6_Same {a b : Grp} {s : AState} (hl : (a.es.length : Int) < 9223372036854775808) : Gives prog F_laderef6_Same [a.av, b.av] s (.v (.bool (decide (a = b)))) s := by
  refine Runs.gives' (runs_e h_laderef6_Same (Nat.le_of_ble_eq_true rfl) ?_) (.v _)
  by_cases hx : (a.id = b.id ∧ a.fi = b.fi ∧ a.tm = b.tm) ∧ (a.ht = b.ht ∧ a.hv = b.hv ∧ a.hc = b.hc) ∧ a.es.length = b.es.length
  · obtain ⟨⟨x1, x2, x3⟩, ⟨x4, x5, x6⟩, x7⟩ := hx
    have hI : (a.es.length : Int) = b.es.length := by omega
    have e0 : decide (a = b) = decide (a.es = b.es) := by
      by_cases h : a.es = b.es
      · rw [decide_eq_true h]; simp [Grp.ext_iff, *]
      · rw [decide_eq_false h]; simp [Grp.ext_iff, *]
    rw [e0, ← all_eq x7]
    refine st7 x1 x2 x3 x4 x5 x6 hI ?_
    refine loop_ok [2, 3, 5] (fun k c s1 => (s.alloc (.cells a.cells)).alloc (.cells b.cells) = s1 ∧ ∃ i : Nat, i + k = a.es.length ∧ ((List.range i).all fun i => decide (a.es.getD i default = b.es.getD i default)) = true ∧ c = { t := den 59 [(2, .p s.n 0), (3, .p (s.n + 1) 0), (5, .v (.int .i64 i))], d := [] }) a.es.length ?_ ?_
    · exact ⟨rfl, 0, by simp, rfl, by simp⟩
    rintro k c _ ⟨rfl, i, hik, hall, rfl⟩
    by_cases hlt : i < a.es.length
    · have hlt2 : i < b.es.length := by omega
      have hw : IntKind.wrap .i64 ((i : Int) + 1) = (i : Int) + 1 := wrap_i64 (by omega) (by omega)
      have e1 : a.es.getD i default = a.es[i] := by simp [hlt]
      have e2 : b.es.getD i default = b.es[i] := by simp [hlt2]
      have hlt3 : i < a.es.length ∧ i < b.es.length := ⟨hlt, hlt2⟩
      by_cases he : a.es[i] = b.es[i]
      · repeat (first | simp -dsimp -implicitDefEqProofs (disch := first | omega | (simp <;> omega) | fail) [hlt, hlt2, he] | (with_reducible apply m_draw) | ((with_reducible refine ⟨m_op ?_, ?_⟩); (focus (simp -dsimp -implicitDefEqProofs (disch := first | omega | (simp <;> omega) | fail) [hlt, hlt2, he]; done))) | ((with_reducible first | apply m_d1 rfl | apply m_dE | apply m_dE0); (focus ((conv => lhs; simp -dsimp -implicitDefEqProofs (disch := first | omega | (simp <;> omega) | fail) [hlt, hlt2, he]); done))) | ((with_reducible first | apply m_1 | apply m_0); (focus ((conv => lhs; simp -dsimp -implicitDefEqProofs (disch := first | omega | (simp <;> omega) | fail) [hlt, hlt2, he]); done))) | ((with_reducible first | apply i_T | apply g_T | apply h_T); (focus (simp -dsimp -implicitDefEqProofs (disch := first | omega | (simp <;> omega) | fail) [hlt, hlt2, he]; done))) | ((with_reducible first | apply i_F | apply g_F | apply h_F); (focus (simp -dsimp -implicitDefEqProofs (disch := first | omega | (simp <;> omega) | fail) [hlt, hlt2, he]; done))))
        exact ⟨k - 1, by omega, rfl, i + 1, by omega, all_step hall (by simp only [e1, e2]; simp [he]), by simp [hw]⟩
      · repeat (first | simp -dsimp -implicitDefEqProofs (disch := first | omega | (simp <;> omega) | fail) [hlt, hlt2, he] | (with_reducible apply m_draw) | ((with_reducible refine ⟨m_op ?_, ?_⟩); (focus (simp -dsimp -implicitDefEqProofs (disch := first | omega | (simp <;> omega) | fail) [hlt, hlt2, he]; done))) | ((with_reducible first | apply m_d1 rfl | apply m_dE | apply m_dE0); (focus ((conv => lhs; simp -dsimp -implicitDefEqProofs (disch := first | omega | (simp <;> omega) | fail) [hlt, hlt2, he]); done))) | ((with_reducible first | apply m_1 | apply m_0); (focus ((conv => lhs; simp -dsimp -implicitDefEqProofs (disch := first | omega | (simp <;> omega) | fail) [hlt, hlt2, he]); done))) | ((with_reducible first | apply i_T | apply g_T | apply h_T); (focus (simp -dsimp -implicitDefEqProofs (disch := first | omega | (simp <;> omega) | fail) [hlt, hlt2, he]; done))) | ((with_reducible first | apply i_F | apply g_F | apply h_F); (focus (simp -dsimp -implicitDefEqProofs (disch := first | omega | (simp <;> omega) | fail) [hlt, hlt2, he]; done))))
        refine ret_ok (by simp; rfl) ⟨((Grows.refl _).alloc _).alloc _, ?_⟩
        rw [all_stop hlt (by simp only [e1, e2]; simp [he])]; exact .refl _
    · refine st1 hlt ?_
      have : i = a.es.length := by omega
      subst this
      refine ret_ok (by simp; rfl) ⟨((Grows.refl _).alloc _).alloc _, ?_⟩
      rw [hall]; exact .refl _
  · have e0 : decide (a = b) = false := by
      rw [decide_eq_false_iff_not, Grp.ext_iff]
      intro h; exact hx ⟨⟨h.1, h.2.1, h.2.2.1⟩, ⟨h.2.2.2.1, h.2.2.2.2.1, h.2.2.2.2.2.1⟩, by rw [h.2.2.2.2.2.2]⟩
    rw [e0]
    repeat' (first | refine sa0 ?_ | ((with_reducible first | apply s_split | apply s_gsplit) <;> (intro hb; have hb' := hb; try simp only [decide_eq_true_eq, decide_eq_false_iff_not, beq_iff_eq, beq_eq_false_iff_ne, bne_iff_ne, bne_eq_false_iff_eq, ne_eq, Bool.not_true, Bool.not_false, Bool.not_eq_true', Bool.not_eq_false', Bool.and_eq_true, Bool.or_eq_true, Bool.or_eq_false_iff] at hb; try simp at hb')))
    all_goals first
      | (refine ret_ok (by simp; rfl) ⟨((Grows.refl _).alloc _).alloc _, ?_⟩; exact .refl _)
      | (exfalso; grind)
end Go.Proofs.YtmpoeamfcienoaaGreat
end
section
namespace Go.Proofs.YtmpoeamfcienoaaGreat
open Go.Ab
set_option linter.unusedVariables false
set_option linter.unusedSimpArgs false
set_option maxRecDepth 100000
set_option maxHeartbeats 4000000
theorem ct_laderef6_SameAll {l m : List Grp} {s : AState} (hl : (l.length : Int) < 9223372036854775808) (hes : ∀ g ∈ l, (g.es.length : Int) < 9223372036854775808) : Gives prog F_laderef6_SameAll [.sl (l.map Grp.av) .no, .sl (m.map Grp.av) .no] s (.v (.bool (decide (l = m)))) s := by
  refine runs_e h_laderef6_SameAll (Nat.le_of_ble_eq_true rfl) ?_
  by_cases hlen : l.length = m.length
  · rw [← all_eq hlen]
    have hI : (m.length : Int) = l.length := by omega
    refine st1 hI ?_
    refine loop_ok [0, 1, 5] (fun k a s1 => s = s1 ∧ ∃ i : Nat, i + k = l.length ∧ ((List.range i).all fun i => decide (l.getD i default = m.getD i default)) = true ∧ a = { t := den 27 [(0, .sl (l.map Grp.av) .no), (1, .sl (m.map Grp.av) .no), (5, .v (.int .i64 i))], d := [] }) l.length ?_ ?_
    · exact ⟨rfl, 0, by simp, rfl, by simp⟩
    · rintro k a _ ⟨rfl, i, hik, hall, rfl⟩
      by_cases hlt : i < l.length
      · have hlt2 : i < m.length := by omega
        have hw : IntKind.wrap .i64 ((i : Int) + 1) = (i : Int) + 1 := wrap_i64 (by omega) (by omega)
        have e1 : l.getD i default = l[i] := by simp [hlt]
        have e2 : m.getD i default = m[i] := by simp [hlt2]
        have hG := hes _ (List.getElem_mem hlt)
        by_cases he : l[i] = m[i]
        · have hG2 := hG
          try rw [he] at hG2
          repeat (first | simp -dsimp -implicitDefEqProofs (disch := first | omega | (simp <;> omega) | fail) [hlt, hlt2, he] | (with_reducible apply m_draw) | ((with_reducible refine ⟨m_op ?_, ?_⟩); (focus (simp -dsimp -implicitDefEqProofs (disch := first | omega | (simp <;> omega) | fail) [hlt, hlt2, he]; done))) | ((with_reducible first | apply m_d1 rfl | apply m_dE | apply m_dE0); (focus ((conv => lhs; simp -dsimp -implicitDefEqProofs (disch := first | omega | (simp <;> omega) | fail) [hlt, hlt2, he]); done))) | ((with_reducible apply givQ); (case hAR => ((conv => lhs; simp -dsimp -implicitDefEqProofs (disch := first | omega | (simp <;> omega) | fail) [hlt, hlt2, he]); done)); (case hCT => intro _ _; (first | (apply ct_laderef6_Same <;> first | assumption | omega | decide)))) | ((with_reducible first | apply m_1 | apply m_0); (focus ((conv => lhs; simp -dsimp -implicitDefEqProofs (disch := first | omega | (simp <;> omega) | fail) [hlt, hlt2, he]); done))) | ((with_reducible apply giv); (case hAR => ((conv => lhs; simp -dsimp -implicitDefEqProofs (disch := first | omega | (simp <;> omega) | fail) [hlt, hlt2, he]); done)); (case hCT => (first | (apply ct_laderef6_Same <;> first | assumption | omega | decide)))) | ((with_reducible first | apply i_T | apply g_T | apply h_T); (focus (simp -dsimp -implicitDefEqProofs (disch := first | omega | (simp <;> omega) | fail) [hlt, hlt2, he]; done))) | ((with_reducible first | apply i_F | apply g_F | apply h_F); (focus (simp -dsimp -implicitDefEqProofs (disch := first | omega | (simp <;> omega) | fail) [hlt, hlt2, he]; done))))
          exact ⟨k - 1, by omega, rfl, i + 1, by omega, all_step hall (by simp only [e1, e2]; simp [he]), by simp [hw]⟩
        · repeat (first | simp -dsimp -implicitDefEqProofs (disch := first | omega | (simp <;> omega) | fail) [hlt, hlt2, he] | (with_reducible apply m_draw) | ((with_reducible refine ⟨m_op ?_, ?_⟩); (focus (simp -dsimp -implicitDefEqProofs (disch := first | omega | (simp <;> omega) | fail) [hlt, hlt2, he]; done))) | ((with_reducible first | apply m_d1 rfl | apply m_dE | apply m_dE0); (focus ((conv => lhs; simp -dsimp -implicitDefEqProofs (disch := first | omega | (simp <;> omega) | fail) [hlt, hlt2, he]); done))) | ((with_reducible apply givQ); (case hAR => ((conv => lhs; simp -dsimp -implicitDefEqProofs (disch := first | omega | (simp <;> omega) | fail) [hlt, hlt2, he]); done)); (case hCT => intro _ _; (first | (apply ct_laderef6_Same <;> first | assumption | omega | decide)))) | ((with_reducible first | apply m_1 | apply m_0); (focus ((conv => lhs; simp -dsimp -implicitDefEqProofs (disch := first | omega | (simp <;> omega) | fail) [hlt, hlt2, he]); done))) | ((with_reducible apply giv); (case hAR => ((conv => lhs; simp -dsimp -implicitDefEqProofs (disch := first | omega | (simp <;> omega) | fail) [hlt, hlt2, he]); done)); (case hCT => (first | (apply ct_laderef6_Same <;> first | assumption | omega | decide)))) | ((with_reducible first | apply i_T | apply g_T | apply h_T); (focus (simp -dsimp -implicitDefEqProofs (disch := first | omega | (simp <;> omega) | fail) [hlt, hlt2, he]; done))) | ((with_reducible first | apply i_F | apply g_F | apply h_F); (focus (simp -dsimp -implicitDefEqProofs (disch := first | omega | (simp <;> omega) | fail) [hlt, hlt2, he]; done))))
          refine ret_ok rfl ⟨?_, rfl⟩
          rw [all_stop hlt (by simp only [e1, e2]; simp [he])]; rfl
      · refine st1 hlt ?_
        have : i = l.length := by omega
        subst this
        exact ret_ok rfl ⟨by rw [hall]; rfl, rfl⟩
  · have hI : ¬ (l.length : Int) = m.length := by omega
    refine st1 hI ?_
    refine ret_ok rfl ⟨?_, rfl⟩
    have : ¬ l = m := fun e => hlen (by rw [e])
    simp [this]
theorem ct_laderef13_SameSpots {l m : List Spt} {s : AState} (hl : (l.length : Int) < 9223372036854775808)  : Gives prog F_laderef13_SameSpots [.sl (l.map Spt.av) .no, .sl (m.map Spt.av) .no] s (.v (.bool (decide (l = m)))) s := by
  refine runs_e h_laderef13_SameSpots (Nat.le_of_ble_eq_true rfl) ?_
  by_cases hlen : l.length = m.length
  · rw [← all_eq hlen]
    have hI : (m.length : Int) = l.length := by omega
    refine st1 hI ?_
    refine loop_ok [0, 1, 5] (fun k a s1 => s = s1 ∧ ∃ i : Nat, i + k = l.length ∧ ((List.range i).all fun i => decide (l.getD i default = m.getD i default)) = true ∧ a = { t := den 26 [(0, .sl (l.map Spt.av) .no), (1, .sl (m.map Spt.av) .no), (5, .v (.int .i64 i))], d := [] }) l.length ?_ ?_
    · exact ⟨rfl, 0, by simp, rfl, by simp⟩
    · rintro k a _ ⟨rfl, i, hik, hall, rfl⟩
      by_cases hlt : i < l.length
      · have hlt2 : i < m.length := by omega
        have hw : IntKind.wrap .i64 ((i : Int) + 1) = (i : Int) + 1 := wrap_i64 (by omega) (by omega)
        have e1 : l.getD i default = l[i] := by simp [hlt]
        have e2 : m.getD i default = m[i] := by simp [hlt2]
        have hG := trivial
        by_cases he : l[i] = m[i]
        · have hG2 := hG
          try rw [he] at hG2
          repeat (first | simp -dsimp -implicitDefEqProofs (disch := first | omega | (simp <;> omega) | fail) [hlt, hlt2, he] | (with_reducible apply m_draw) | ((with_reducible refine ⟨m_op ?_, ?_⟩); (focus (simp -dsimp -implicitDefEqProofs (disch := first | omega | (simp <;> omega) | fail) [hlt, hlt2, he]; done))) | ((with_reducible first | apply m_d1 rfl | apply m_dE | apply m_dE0); (focus ((conv => lhs; simp -dsimp -implicitDefEqProofs (disch := first | omega | (simp <;> omega) | fail) [hlt, hlt2, he]); done))) | ((with_reducible first | apply m_1 | apply m_0); (focus ((conv => lhs; simp -dsimp -implicitDefEqProofs (disch := first | omega | (simp <;> omega) | fail) [hlt, hlt2, he]); done))) | ((with_reducible first | apply i_T | apply g_T | apply h_T); (focus (simp -dsimp -implicitDefEqProofs (disch := first | omega | (simp <;> omega) | fail) [hlt, hlt2, he]; done))) | ((with_reducible first | apply i_F | apply g_F | apply h_F); (focus (simp -dsimp -implicitDefEqProofs (disch := first | omega | (simp <;> omega) | fail) [hlt, hlt2, he]; done))))
          exact ⟨k - 1, by omega, rfl, i + 1, by omega, all_step hall (by simp only [e1, e2]; simp [he]), by simp [hw]⟩
        · repeat (first | simp -dsimp -implicitDefEqProofs (disch := first | omega | (simp <;> omega) | fail) [hlt, hlt2, he] | (with_reducible apply m_draw) | ((with_reducible refine ⟨m_op ?_, ?_⟩); (focus (simp -dsimp -implicitDefEqProofs (disch := first | omega | (simp <;> omega) | fail) [hlt, hlt2, he]; done))) | ((with_reducible first | apply m_d1 rfl | apply m_dE | apply m_dE0); (focus ((conv => lhs; simp -dsimp -implicitDefEqProofs (disch := first | omega | (simp <;> omega) | fail) [hlt, hlt2, he]); done))) | ((with_reducible first | apply m_1 | apply m_0); (focus ((conv => lhs; simp -dsimp -implicitDefEqProofs (disch := first | omega | (simp <;> omega) | fail) [hlt, hlt2, he]); done))) | ((with_reducible first | apply i_T | apply g_T | apply h_T); (focus (simp -dsimp -implicitDefEqProofs (disch := first | omega | (simp <;> omega) | fail) [hlt, hlt2, he]; done))) | ((with_reducible first | apply i_F | apply g_F | apply h_F); (focus (simp -dsimp -implicitDefEqProofs (disch := first | omega | (simp <;> omega) | fail) [hlt, hlt2, he]; done))))
          refine ret_ok rfl ⟨?_, rfl⟩
          rw [all_stop hlt (by simp only [e1, e2]; simp [he])]; rfl
      · refine st1 hlt ?_
        have : i = l.length := by omega
        subst this
        exact ret_ok rfl ⟨by rw [hall]; rfl, rfl⟩
  · have hI : ¬ (l.length : Int) = m.length := by omega
    refine st1 hI ?_
    refine ret_ok rfl ⟨?_, rfl⟩
    have : ¬ l = m := fun e => hlen (by rw [e])
    simp [this]
end Go.Proofs.YtmpoeamfcienoaaGreat
end
section
namespace Go.Proofs.YtmpoeamfcienoaaGreat
open Go.Ab
set_option linter.unusedVariables false
set_option linter.unusedSimpArgs false
set_option maxRecDepth 100000
set_option maxHeartbeats 4000000
theorem ct_group_New {id : Int} {s : AState} : Gives prog F_group_New [.v (.int .i64 id)] s (newG id).av s := by
  refine Runs.gives' (runs_e h_group_New (Nat.le_of_ble_eq_true rfl) ?_) (Grp.row _).flat
  refine st0 ?_
  first
    | exact ret_ok (by simp; rfl) ⟨Grows.refl _, (AV.le_strip _).trans (by simp [Grp.av, Grp.cells, newG, retVal]; exact .refl _)⟩
    | exact ret_ok (by simp; rfl) ⟨(Grows.refl _).alloc _, (AV.le_strip _).trans (by simp [Grp.av, Grp.cells, newG, retVal]; exact .refl _)⟩
theorem ct_laderef6_New {id : Int} {s : AState} : Gives prog F_laderef6_New [.v (.int .i64 id)] s (newG id).av s := by
  refine Runs.gives' (runs_e h_laderef6_New (Nat.le_of_ble_eq_true rfl) ?_) (Grp.row _).flat
  refine st0 ?_
  first
    | exact ret_ok (by simp; rfl) ⟨Grows.refl _, (AV.le_strip _).trans (by simp [Grp.av, Grp.cells, newG, retVal]; exact .refl _)⟩
    | exact ret_ok (by simp; rfl) ⟨(Grows.refl _).alloc _, (AV.le_strip _).trans (by simp [Grp.av, Grp.cells, newG, retVal]; exact .refl _)⟩
theorem rn_place_New {id : Int} {s : AState} : Runs (compCode prog) prog F_place_New [.v (.int .i64 id)] s (fun x s' => ∃ lb, x = .p lb 0 ∧ LogAt s' lb ⟨newG id, []⟩ [lb, lb - 1] ∧ s.n < lb ∧ Grows s s') := by
  refine runs_e h_place_New (Nat.le_of_ble_eq_true rfl) ?_
  refine st0c1 @ct_group_New ?_
  refine ret_ok (by simp; rfl) ⟨s.n + 1, rfl, ⟨.no, s.n, [], by simp, by simp [logC, newG, Grp.cells], by simp, .nil⟩, by omega, ?_⟩
  exact ((Grows.refl s).alloc _).alloc _
theorem beq_dec (a b : Int) : (a == b) = decide (a = b) := by by_cases h : a = b <;> simp [h]
theorem bne_dec (a b : Int) : (a != b) = !decide (a = b) := by by_cases h : a = b <;> simp [h]
theorem ct_place_brought {p : Prt} {e : Ent} {s : AState} (hl : (p.es.length : Int) < 9223372036854775808) : Gives prog F_place_brought [p.av, e.av] s (.v (.bool (broughtS p e))) s := by
  refine Runs.gives' (runs_e h_place_brought (Nat.le_of_ble_eq_true rfl) ?_) (.v _)
  repeat' (first | simp -dsimp -implicitDefEqProofs (disch := first | omega | (simp <;> omega) | fail) [*] | ((with_reducible first | apply m_1 | apply m_0); (focus ((conv => lhs; simp -dsimp -implicitDefEqProofs (disch := first | omega | (simp <;> omega) | fail) [*]); done))) | ((with_reducible apply giv); (case hAR => ((conv => lhs; simp -dsimp -implicitDefEqProofs (disch := first | omega | (simp <;> omega) | fail) [*]); done)); (case hCT => (first | (apply ct_slices_Contains_Entry <;> first | assumption | omega | decide)))) | ((with_reducible first | apply i_T | apply g_T); (focus (simp -dsimp -implicitDefEqProofs (disch := first | omega | (simp <;> omega) | fail) [*]; done))) | ((with_reducible first | apply i_F | apply g_F); (focus (simp -dsimp -implicitDefEqProofs (disch := first | omega | (simp <;> omega) | fail) [*]; done))) | ((with_reducible first | apply s_split | apply s_gsplit) <;> (intro hb; have hb' := hb; try simp only [decide_eq_true_eq, decide_eq_false_iff_not, beq_iff_eq, beq_eq_false_iff_ne, bne_iff_ne, bne_eq_false_iff_eq, ne_eq, Bool.not_true, Bool.not_false, Bool.not_eq_true', Bool.not_eq_false', Bool.and_eq_true, Bool.or_eq_true, Bool.or_eq_false_iff] at hb; try simp at hb')))
  all_goals refine ret_ok (by simp; rfl) ⟨((Grows.refl _).alloc _).alloc _, ?_⟩
  all_goals simp [broughtS, retVal, *, AV.le.refl]
theorem ct_place_marks {p : Prt} {old now : Grp} {s : AState} (hn : 0 ≤ now.fi ∧ now.fi < 9223372036854775808) : Gives prog F_place_marks [p.av, old.av, now.av] s (.v (.bool (marksS p old now))) s := by
  refine Runs.gives' (runs_e h_place_marks (Nat.le_of_ble_eq_true rfl) ?_) (.v _)
  have hw : IntKind.wrap .i64 (now.fi - 1) = now.fi - 1 := wrap_i64 (by omega) (by omega)
  repeat' (first | refine sa1 hw ?_ | ((with_reducible first | apply s_split | apply s_gsplit) <;> (intro hb; have hb' := hb; try simp only [decide_eq_true_eq, decide_eq_false_iff_not, beq_iff_eq, beq_eq_false_iff_ne, bne_iff_ne, bne_eq_false_iff_eq, ne_eq, Bool.not_true, Bool.not_false, Bool.not_eq_true', Bool.not_eq_false', Bool.and_eq_true, Bool.or_eq_true, Bool.or_eq_false_iff] at hb; try simp at hb')))
  all_goals refine ret_ok (by simp; rfl) ⟨(((Grows.refl _).alloc _).alloc _).alloc _, ?_⟩
  all_goals simp [marksS, retVal, *]
  all_goals first | exact .refl _ | (rw [beq_dec]; exact .refl _) | (rw [bne_dec]; exact .refl _)
end Go.Proofs.YtmpoeamfcienoaaGreat
end
section
namespace Go.Proofs.YtmpoeamfcienoaaGreat
open Go.Ab
set_option linter.unusedVariables false
set_option linter.unusedSimpArgs false
set_option maxRecDepth 100000
set_option maxHeartbeats 8000000
theorem rn_place_Log_Do {lb : Nat} {v : LogV} {F : List Nat} {p : Prt} {at_ : Plc} {s : AState} (hL : LogAt s lb v F) (h : Spar v.g) (hpl : (p.es.length : Int) < 9223372036854775808) :
    Runs (compCode prog) prog F_place_Log_Do [.p lb 0, p.av, at_.av] s (fun _ s' => ∃ F', LogAt s' lb (logDo v p at_) F' ∧ Mut F F' s s') := by
  have hL' := hL
  have hlt := hL.lt
  obtain ⟨tk, mb, A, rfl, h1, h2, h3⟩ := hL
  have hlb : lb < s.n := hlt lb (by simp)
  have hmb : mb < s.n := hlt mb (by simp)
  refine runs_e h_place_Log_Do (Nat.le_of_ble_eq_true rfl) ?_
  cases hok : okDo v.g p with
  | false =>
    have e1 : logDo v p at_ = v := by unfold logDo; rw [hok]; simp
    rw [e1]
    have fin : ∀ s', Grows s s' → ∃ F', LogAt s' lb v F' ∧ Mut [lb, mb] F' s s' := fun s' hg => ⟨_, hL'.keep fun x hx => hg.get (hlt x hx), .grows hg⟩
    unfold logC at h1
    unfold okDo at hok
    cases hp : isPart p with
    | false =>
      repeat (first | simp -dsimp -implicitDefEqProofs (disch := first | omega | (simp <;> omega) | fail) [h1, hp] | ((with_reducible first | apply m_1 | apply m_0); (focus ((conv => lhs; simp -dsimp -implicitDefEqProofs (disch := first | omega | (simp <;> omega) | fail) [h1, hp]); done))) | ((with_reducible apply giv); (case hAR => ((conv => lhs; simp -dsimp -implicitDefEqProofs (disch := first | omega | (simp <;> omega) | fail) [h1, hp]); done)); (case hCT => (first | (apply ct_part_Is <;> first | assumption | omega | decide)))) | ((with_reducible first | apply i_T | apply g_T); (focus (simp -dsimp -implicitDefEqProofs (disch := first | omega | (simp <;> omega) | fail) [h1, hp]; done))) | ((with_reducible first | apply i_F | apply g_F); (focus (simp -dsimp -implicitDefEqProofs (disch := first | omega | (simp <;> omega) | fail) [h1, hp]; done))))
      exact ret_ok rfl (fin _ ((((Grows.refl s).alloc _).alloc _).alloc _))
    | true =>
      by_cases hg : p.gr = v.g.id
      · have hk : p.kd = 5 := by simpa [hp, hg] using hok
        repeat (first | simp -dsimp -implicitDefEqProofs (disch := first | omega | (simp <;> omega) | fail) [h1, hp, hg, hk] | ((with_reducible first | apply m_1 | apply m_0); (focus ((conv => lhs; simp -dsimp -implicitDefEqProofs (disch := first | omega | (simp <;> omega) | fail) [h1, hp, hg, hk]); done))) | ((with_reducible apply giv); (case hAR => ((conv => lhs; simp -dsimp -implicitDefEqProofs (disch := first | omega | (simp <;> omega) | fail) [h1, hp, hg, hk]); done)); (case hCT => (first | (apply ct_part_Is <;> first | assumption | omega | decide)))) | ((with_reducible first | apply i_T | apply g_T); (focus (simp -dsimp -implicitDefEqProofs (disch := first | omega | (simp <;> omega) | fail) [h1, hp, hg, hk]; done))) | ((with_reducible first | apply i_F | apply g_F); (focus (simp -dsimp -implicitDefEqProofs (disch := first | omega | (simp <;> omega) | fail) [h1, hp, hg, hk]; done))))
        exact ret_ok rfl (fin _ ((((Grows.refl s).alloc _).alloc _).alloc _))
      · repeat (first | simp -dsimp -implicitDefEqProofs (disch := first | omega | (simp <;> omega) | fail) [h1, hp, hg] | ((with_reducible first | apply m_1 | apply m_0); (focus ((conv => lhs; simp -dsimp -implicitDefEqProofs (disch := first | omega | (simp <;> omega) | fail) [h1, hp, hg]); done))) | ((with_reducible apply giv); (case hAR => ((conv => lhs; simp -dsimp -implicitDefEqProofs (disch := first | omega | (simp <;> omega) | fail) [h1, hp, hg]); done)); (case hCT => (first | (apply ct_part_Is <;> first | assumption | omega | decide)))) | ((with_reducible first | apply i_T | apply g_T); (focus (simp -dsimp -implicitDefEqProofs (disch := first | omega | (simp <;> omega) | fail) [h1, hp, hg]; done))) | ((with_reducible first | apply i_F | apply g_F); (focus (simp -dsimp -implicitDefEqProofs (disch := first | omega | (simp <;> omega) | fail) [h1, hp, hg]; done))))
        exact ret_ok rfl (fin _ ((((Grows.refl s).alloc _).alloc _).alloc _))
  | true =>
    have e1 : logDo v p at_ = ⟨doS v.g p, nextW putL (lk v.sp) p at_ v.g (doS v.g p)⟩ := by unfold logDo; rw [if_pos hok]
    rw [e1]
    unfold logC at h1
    unfold okDo at hok
    simp at hok
    obtain ⟨⟨hp, hg⟩, hk⟩ := hok
    have hSD := h.doS p
    have hwl := nextW_rep (h3.lk) p at_ v.g (doS v.g p)
    obtain ⟨now, hnow⟩ : ∃ now, doS v.g p = now := ⟨_, rfl⟩
    rw [hnow] at hSD hwl ⊢
    repeat (first | simp -dsimp -implicitDefEqProofs (disch := first | omega | (simp <;> omega) | fail) [h1, hp, hg, hk, Grp.cells, hnow] | (with_reducible apply m_draw) | ((with_reducible refine ⟨m_op ?_, ?_⟩); (focus (simp -dsimp -implicitDefEqProofs (disch := first | omega | (simp <;> omega) | fail) [h1, hp, hg, hk, Grp.cells, hnow]; done))) | ((with_reducible first | apply m_d1 rfl | apply m_dE | apply m_dE0); (focus ((conv => lhs; simp -dsimp -implicitDefEqProofs (disch := first | omega | (simp <;> omega) | fail) [h1, hp, hg, hk, Grp.cells, hnow]); done))) | ((with_reducible apply givQ); (case hAR => ((conv => lhs; simp -dsimp -implicitDefEqProofs (disch := first | omega | (simp <;> omega) | fail) [h1, hp, hg, hk, Grp.cells, hnow]); done)); (case hCT => intro _ _; (first | (apply ct_part_Is <;> first | assumption | omega | decide) | (apply ct_sparse_Do <;> first | assumption | omega | decide)))) | ((with_reducible first | apply m_1 | apply m_0); (focus ((conv => lhs; simp -dsimp -implicitDefEqProofs (disch := first | omega | (simp <;> omega) | fail) [h1, hp, hg, hk, Grp.cells, hnow]); done))) | ((with_reducible apply giv); (case hAR => ((conv => lhs; simp -dsimp -implicitDefEqProofs (disch := first | omega | (simp <;> omega) | fail) [h1, hp, hg, hk, Grp.cells, hnow]); done)); (case hCT => (first | (apply ct_part_Is <;> first | assumption | omega | decide) | (apply ct_sparse_Do <;> first | assumption | omega | decide)))) | ((with_reducible first | apply i_T | apply g_T | apply h_T); (focus (simp -dsimp -implicitDefEqProofs (disch := first | omega | (simp <;> omega) | fail) [h1, hp, hg, hk, Grp.cells, hnow]; done))) | ((with_reducible first | apply i_F | apply g_F | apply h_F); (focus (simp -dsimp -implicitDefEqProofs (disch := first | omega | (simp <;> omega) | fail) [h1, hp, hg, hk, Grp.cells, hnow]; done))))
    have hne : lb ≠ mb := by rintro rfl; rw [h1] at h2; cases h2
    generalize hgC : ([AV.v (.int .i64 v.g.id), .v (.int .i64 v.g.fi), .v (.int .i64 v.g.tm), .v (.int .i64 v.g.ht), .v (.int .i64 v.g.hv), .v (.int .i64 v.g.hc), .sl (v.g.es.map Ent.av) tk] : List AV) = gC
    refine loop_ok [3, 4, 5, 6, 7, 42, 43] (fun m a s1 => ∃ (i : Nat) (B : List (Int × Plc)) (g : List AObj), i + m = 2 ∧ (i = 0 ∧ B = [] ∨ i = 1 ∧ B = nx0 setM (lk A) (-1) [] ∨ i = 2 ∧ B = nx0 setM (lk A) 0 (nx0 setM (lk A) (-1) [])) ∧
      s1 = allocs (((((((s.set lb (.cells [.v (.int .i64 now.id), .v (.int .i64 now.fi), .v (.int .i64 now.tm), .v (.int .i64 now.ht), .v (.int .i64 now.hv), .v (.int .i64 now.hc), .sl (now.es.map Ent.av) .no, .m mb])).alloc (.cells [.p lb 0])).alloc (.cells p.cells)).alloc (.cells at_.cells)).alloc (.cells gC)).alloc (.map (encM Plc.av B))).alloc (.cells [.m (s.n + 1 + 1 + 1 + 1)])) g ∧
      a = { t := den 106 [(3, .p s.n 0), (4, .p (s.n + 1) 0), (5, .p (s.n + 1 + 1) 0), (6, .p (s.n + 1 + 1 + 1) 0), (7, .p (s.n + 1 + 1 + 1 + 1 + 1) 0), (42, .agg [.v (.int .i64 (-1)), .v (.int .i64 0)]), (43, .v (.int .i64 i))], d := [] }) 2 ?_ ?_
    · exact ⟨0, [], [], rfl, .inl ⟨rfl, rfl⟩, rfl, by simp⟩
    rintro m a _ ⟨i, B, g, him, hB, rfl, rfl⟩
    rcases hB with ⟨rfl, hB⟩ | ⟨rfl, hB⟩ | ⟨rfl, hB⟩
    · have hw : IntKind.wrap .i64 (((0 : Nat) : Int) + 1) = 1 := by decide
      refine st0 ?_
      refine m_look (κ := Int) (A := A) (k := -1) (b := mb) (enc := Plc.av) (by simp) (dz2 h2 hne) (by simp; rfl) ?_
      cases hl : lk A (-1) with
      | none =>
        repeat (first | simp -dsimp -implicitDefEqProofs (disch := first | omega | (simp <;> omega) | fail) [lkV, hl, hw] | ((with_reducible first | apply m_1 | apply m_0); (focus ((conv => lhs; simp -dsimp -implicitDefEqProofs (disch := first | omega | (simp <;> omega) | fail) [lkV, hl, hw]); done))) | ((with_reducible first | apply i_T | apply g_T); (focus (simp -dsimp -implicitDefEqProofs (disch := first | omega | (simp <;> omega) | fail) [lkV, hl, hw]; done))) | ((with_reducible first | apply i_F | apply g_F); (focus (simp -dsimp -implicitDefEqProofs (disch := first | omega | (simp <;> omega) | fail) [lkV, hl, hw]; done))))
        refine ⟨m - 1, by omega, 1, B, g ++ [.cells [.v (.int .i64 0), .v (.int .i64 0)]], by omega, .inr (.inl ⟨rfl, by rw [hB]; simp [nx0, hl]⟩), ?_, by simp⟩
        simp [allocs_snoc]
      | some x =>
        repeat (first | simp -dsimp -implicitDefEqProofs (disch := first | omega | (simp <;> omega) | fail) [lkV, hl] | ((with_reducible first | apply m_1 | apply m_0); (focus ((conv => lhs; simp -dsimp -implicitDefEqProofs (disch := first | omega | (simp <;> omega) | fail) [lkV, hl]); done))) | ((with_reducible first | apply i_T | apply g_T); (focus (simp -dsimp -implicitDefEqProofs (disch := first | omega | (simp <;> omega) | fail) [lkV, hl]; done))) | ((with_reducible first | apply i_F | apply g_F); (focus (simp -dsimp -implicitDefEqProofs (disch := first | omega | (simp <;> omega) | fail) [lkV, hl]; done))))
        refine m_mset (κ := Int) (A := B) (k := -1) (v := x) (b := s.n + 1 + 1 + 1 + 1) (enc := Plc.av) (by simp) (dz0) (by simp; rfl) (by simp) ?_
        refine st1 hw ?_
        refine ⟨m - 1, by omega, 1, setM B (-1) x, g ++ [.cells x.cells], by omega, .inr (.inl ⟨rfl, by rw [hB]; simp [nx0, hl]⟩), ?_, by simp⟩
        simp (disch := first | omega | (simp <;> omega) | fail) [allocs_snoc]
    · have hw : IntKind.wrap .i64 (((1 : Nat) : Int) + 1) = 2 := by decide
      refine st0 ?_
      refine m_look (κ := Int) (A := A) (k := 0) (b := mb) (enc := Plc.av) (by simp) (dz2 h2 hne) (by simp; rfl) ?_
      cases hl : lk A (0) with
      | none =>
        repeat (first | simp -dsimp -implicitDefEqProofs (disch := first | omega | (simp <;> omega) | fail) [lkV, hl, hw] | ((with_reducible first | apply m_1 | apply m_0); (focus ((conv => lhs; simp -dsimp -implicitDefEqProofs (disch := first | omega | (simp <;> omega) | fail) [lkV, hl, hw]); done))) | ((with_reducible first | apply i_T | apply g_T); (focus (simp -dsimp -implicitDefEqProofs (disch := first | omega | (simp <;> omega) | fail) [lkV, hl, hw]; done))) | ((with_reducible first | apply i_F | apply g_F); (focus (simp -dsimp -implicitDefEqProofs (disch := first | omega | (simp <;> omega) | fail) [lkV, hl, hw]; done))))
        refine ⟨m - 1, by omega, 2, B, g ++ [.cells [.v (.int .i64 0), .v (.int .i64 0)]], by omega, .inr (.inr ⟨rfl, by rw [hB]; simp [nx0, hl]⟩), ?_, by simp⟩
        simp [allocs_snoc]
      | some x =>
        repeat (first | simp -dsimp -implicitDefEqProofs (disch := first | omega | (simp <;> omega) | fail) [lkV, hl] | ((with_reducible first | apply m_1 | apply m_0); (focus ((conv => lhs; simp -dsimp -implicitDefEqProofs (disch := first | omega | (simp <;> omega) | fail) [lkV, hl]); done))) | ((with_reducible first | apply i_T | apply g_T); (focus (simp -dsimp -implicitDefEqProofs (disch := first | omega | (simp <;> omega) | fail) [lkV, hl]; done))) | ((with_reducible first | apply i_F | apply g_F); (focus (simp -dsimp -implicitDefEqProofs (disch := first | omega | (simp <;> omega) | fail) [lkV, hl]; done))))
        refine m_mset (κ := Int) (A := B) (k := 0) (v := x) (b := s.n + 1 + 1 + 1 + 1) (enc := Plc.av) (by simp) (dz0) (by simp; rfl) (by simp) ?_
        refine st1 hw ?_
        refine ⟨m - 1, by omega, 2, setM B (0) x, g ++ [.cells x.cells], by omega, .inr (.inr ⟨rfl, by rw [hB]; simp [nx0, hl]⟩), ?_, by simp⟩
        simp (disch := first | omega | (simp <;> omega) | fail) [allocs_snoc]
    · have hMI := MI_eq
      have hlen := hSD.len
      refine st0 ?_
      refine gv (ct_slices_Values_Entry (xs := now.es.map Ent.av)) ?_
      refine st0 ?_
      have hit := it_slices_Values_Entry now.es (s.n + 1 + 1 + 1 + 1 + 1 + 1 + g.length) (by omega)
      refine w_rangeG (α := Unit) (β := Unit) (m := now.es.length) (by simp) hit (by intro x hx; obtain ⟨p, _, rfl⟩ := List.mem_map.1 hx; rfl) (by simp)
        (fun kk _ => (allocs (((((((s.set lb (.cells [.v (.int .i64 now.id), .v (.int .i64 now.fi), .v (.int .i64 now.tm), .v (.int .i64 now.ht), .v (.int .i64 now.hv), .v (.int .i64 now.hc), .sl (now.es.map Ent.av) .no, .m mb])).alloc (.cells [.p lb 0])).alloc (.cells p.cells)).alloc (.cells at_.cells)).alloc (.cells gC)).alloc (.map (encM Plc.av ((now.es.take kk).foldl (nx1 setM (lk A) p at_) B)))).alloc (.cells [.m (s.n + 1 + 1 + 1 + 1)])) g).alloc (.cells [.sl (now.es.map Ent.av) .no]))
        (fun kk _ s' => True) (fun j _ => s) (fun j _ _ => False) () (by simp) (fun s' h => trivial) ?_ (fun _ _ _ o h => h) (fun _ _ _ _ h => h) ?_ ?_ (fun _ _ _ _ _ h => h.elim)
      · intro kk a s' _ h1 hg
        refine (hg.get (by simp [n_allocs])).trans ?_
        exact get_alloc_eq (by simp [n_allocs])
      · rintro LR LB LJ _ kk hkk _ g2 h1' _
        have hkk' : kk < now.es.length := by simpa using hkk
        have hTk : (now.es.take (kk + 1)).foldl (nx1 setM (lk A) p at_) B = nx1 setM (lk A) p at_ ((now.es.take kk).foldl (nx1 setM (lk A) p at_) B) now.es[kk] := by
          rw [List.take_succ_eq_append_getElem hkk', List.foldl_append]; rfl
        generalize (now.es.take kk).foldl (nx1 setM (lk A) p at_) B = C at hTk ⊢
        refine st1 hkk' ?_
        refine m_look (κ := Int) (A := A) (k := now.es[kk].ix) (b := mb) (enc := Plc.av) (by simp) (dz2 h2 hne) (by simp; rfl) ?_
        have hlv : lkV Plc.av A now.es[kk].ix (.agg [.v (.int .i64 0), .v (.int .i64 0)]) false = ((lk A now.es[kk].ix).getD ⟨0, 0⟩).av := by unfold lkV; cases lk A now.es[kk].ix <;> rfl
        rw [hlv]
        refine st0 ?_
        refine m_mset (κ := Int) (A := C) (k := now.es[kk].ix) (v := (lk A now.es[kk].ix).getD ⟨0, 0⟩) (b := s.n + 1 + 1 + 1 + 1) (enc := Plc.av) (by simp) (dz0) (by simp; rfl) (by simp) ?_
        refine st0 ?_
        refine gv (ct_place_brought (p := p) (e := now.es[kk]) hpl) ?_
        cases hbr : broughtS p now.es[kk] with
        | true =>
          refine st0 ?_
          refine m_mset (κ := Int) (A := setM C now.es[kk].ix ((lk A now.es[kk].ix).getD ⟨0, 0⟩)) (k := now.es[kk].ix) (v := at_) (b := s.n + 1 + 1 + 1 + 1) (enc := Plc.av) (by simp) (dz0) (by simp; rfl) (by simp) ?_
          refine st0 ?_
          refine ⟨(), by simp, ?_, trivial⟩
          rw [hTk]
          simp (disch := first | omega | (simp <;> omega) | fail) [nx1, hbr, allocs_snoc]
          exact ⟨_, rfl⟩
        | false =>
          refine st0 ?_
          refine ⟨(), by simp, ?_, trivial⟩
          rw [hTk]
          simp (disch := first | omega | (simp <;> omega) | fail) [nx1, hbr, allocs_snoc]
          exact ⟨_, rfl⟩
      · rintro LR _ g2 h1' _
        have hTk : (now.es.take now.es.length).foldl (nx1 setM (lk A) p at_) B = nxI setM (lk A) p at_ now.es := by rw [List.take_length, hB]; rfl
        rw [hTk]
        have hwl : Rep (nxM setM p at_ v.g now (nxH setM p at_ (nxI setM (lk A) p at_ now.es))) (nextW putL (lk v.sp) p at_ v.g now) := hwl
        generalize nxI setM (lk A) p at_ now.es = C at hwl ⊢
        have hfi : 0 ≤ now.fi ∧ now.fi < 9223372036854775808 := by have := okHead_iff.1 hSD.hd; omega
        have hmk := fun s => ct_place_marks (p := p) (old := v.g) (now := now) (s := s) hfi
        have hgA : (AV.agg gC).strip = v.g.av := by rw [← hgC]; rfl
        have hgl : gC.length = 7 := by rw [← hgC]; rfl
        have hgt : gC.take 7 = gC := by rw [← hgl, List.take_length]
        have key : ∀ (D : List (Int × Plc)) (sf : AState) (k : Nat), Rep (nxM setM p at_ v.g now D) (nextW putL (lk v.sp) p at_ v.g now) → s.n ≤ sf.n → sf.get lb = .cells (logC now .no (s.n + 1 + 1 + 1 + 1)) → sf.get (s.n + 1 + 1 + 1 + 1) = .map (encM Plc.av (nxM setM p at_ v.g now D)) →
            (∀ x, x < s.n → x ≠ lb → sf.get x = s.get x) → ∃ F', LogAt sf lb { g := now, sp := nextW putL (lk v.sp) p at_ v.g now } F' ∧ Mut [lb, mb] F' s sf := fun D sf k hD h0 h4 h5 h6 =>
          ⟨[lb, s.n + 1 + 1 + 1 + 1], ⟨.no, _, _, rfl, h4, h5, hD⟩, h0, fun x hx hn => h6 x hx (by rintro rfl; simp at hn), fun x hx => by
            simp only [List.mem_cons, List.not_mem_nil, or_false] at hx
            rcases hx with rfl | rfl
            · exact .inl (by simp)
            · exact .inr (by omega)⟩
        have tail : ∀ D : List (Int × Plc), nxH setM p at_ C = D → Rep (nxM setM p at_ v.g now D) (nextW putL (lk v.sp) p at_ v.g now) := fun D e => by rw [← e]; exact hwl
        unfold nxH at tail
        clear hwl
        by_cases hk2 : p.kd = 2
        · rw [if_pos (.inl hk2)] at tail
          refine st1 hk2 ?_
          refine m_mset (κ := Int) (A := C) (k := -1) (v := at_) (b := s.n + 1 + 1 + 1 + 1) (enc := Plc.av) (by simp) (dz0) (by simp; rfl) (by simp) ?_
          refine st2 hgl hgt ?_
          refine giv (hmk _) (by simp; refine ⟨hgA, ?_⟩; simp [Grp.av, Grp.cells]) ?_
          cases hm : marksS p v.g now with
          | true =>
            refine st0 ?_
            refine m_mset (κ := Int) (A := setM C (-1) at_) (k := 0) (v := at_) (b := s.n + 1 + 1 + 1 + 1) (enc := Plc.av) (by simp) (dz0) (by simp; rfl) (by simp) ?_
            refine st0 ?_
            refine end_okD ?_ ?_ rfl ?_
            · simp (disch := first | omega | (simp <;> omega) | fail)
            · simp
            refine key _ _ 0 (tail _ rfl) ?_ ?_ ?_ ?_
            · simp [killAll, n_allocs]; omega
            · simp (disch := first | omega | (simp <;> omega) | fail) [killAll, logC]
            · simp (disch := first | omega | (simp <;> omega) | fail) [killAll, nxM, hm]
            · intro x hx hn; simp (disch := first | omega | (simp <;> omega) | fail) [killAll, hn, hx]
          | false =>
            refine st0 ?_
            refine end_okD ?_ ?_ rfl ?_
            · simp (disch := first | omega | (simp <;> omega) | fail)
            · simp
            refine key _ _ 0 (tail _ rfl) ?_ ?_ ?_ ?_
            · simp [killAll, n_allocs]; omega
            · simp (disch := first | omega | (simp <;> omega) | fail) [killAll, logC]
            · simp (disch := first | omega | (simp <;> omega) | fail) [killAll, nxM, hm]
            · intro x hx hn; simp (disch := first | omega | (simp <;> omega) | fail) [killAll, hn, hx]
        by_cases hhe : p.he = true
        · rw [if_pos (.inr hhe)] at tail
          refine st2 hk2 hhe ?_
          refine m_mset (κ := Int) (A := C) (k := -1) (v := at_) (b := s.n + 1 + 1 + 1 + 1) (enc := Plc.av) (by simp) (dz0) (by simp; rfl) (by simp) ?_
          refine st2 hgl hgt ?_
          refine giv (hmk _) (by simp; refine ⟨hgA, ?_⟩; simp [Grp.av, Grp.cells]) ?_
          cases hm : marksS p v.g now with
          | true =>
            refine st0 ?_
            refine m_mset (κ := Int) (A := setM C (-1) at_) (k := 0) (v := at_) (b := s.n + 1 + 1 + 1 + 1) (enc := Plc.av) (by simp) (dz0) (by simp; rfl) (by simp) ?_
            refine st0 ?_
            refine end_okD ?_ ?_ rfl ?_
            · simp (disch := first | omega | (simp <;> omega) | fail)
            · simp
            refine key _ _ 0 (tail _ rfl) ?_ ?_ ?_ ?_
            · simp [killAll, n_allocs]; omega
            · simp (disch := first | omega | (simp <;> omega) | fail) [killAll, logC]
            · simp (disch := first | omega | (simp <;> omega) | fail) [killAll, nxM, hm]
            · intro x hx hn; simp (disch := first | omega | (simp <;> omega) | fail) [killAll, hn, hx]
          | false =>
            refine st0 ?_
            refine end_okD ?_ ?_ rfl ?_
            · simp (disch := first | omega | (simp <;> omega) | fail)
            · simp
            refine key _ _ 0 (tail _ rfl) ?_ ?_ ?_ ?_
            · simp [killAll, n_allocs]; omega
            · simp (disch := first | omega | (simp <;> omega) | fail) [killAll, logC]
            · simp (disch := first | omega | (simp <;> omega) | fail) [killAll, nxM, hm]
            · intro x hx hn; simp (disch := first | omega | (simp <;> omega) | fail) [killAll, hn, hx]
        · rw [if_neg (by simp [hk2, hhe])] at tail
          refine st2 hk2 hhe ?_
          refine st2 hgl hgt ?_
          refine giv (hmk _) (by simp; refine ⟨hgA, ?_⟩; simp [Grp.av, Grp.cells]) ?_
          cases hm : marksS p v.g now with
          | true =>
            refine st0 ?_
            refine m_mset (κ := Int) (A := C) (k := 0) (v := at_) (b := s.n + 1 + 1 + 1 + 1) (enc := Plc.av) (by simp) (dz0) (by simp; rfl) (by simp) ?_
            refine st0 ?_
            refine end_okD ?_ ?_ rfl ?_
            · simp (disch := first | omega | (simp <;> omega) | fail)
            · simp
            refine key _ _ 0 (tail _ rfl) ?_ ?_ ?_ ?_
            · simp [killAll, n_allocs]; omega
            · simp (disch := first | omega | (simp <;> omega) | fail) [killAll, logC]
            · simp (disch := first | omega | (simp <;> omega) | fail) [killAll, nxM, hm]
            · intro x hx hn; simp (disch := first | omega | (simp <;> omega) | fail) [killAll, hn, hx]
          | false =>
            refine st0 ?_
            refine end_okD ?_ ?_ rfl ?_
            · simp (disch := first | omega | (simp <;> omega) | fail)
            · simp
            refine key _ _ 0 (tail _ rfl) ?_ ?_ ?_ ?_
            · simp [killAll, n_allocs]; omega
            · simp (disch := first | omega | (simp <;> omega) | fail) [killAll, logC]
            · simp (disch := first | omega | (simp <;> omega) | fail) [killAll, nxM, hm]
            · intro x hx hn; simp (disch := first | omega | (simp <;> omega) | fail) [killAll, hn, hx]
end Go.Proofs.YtmpoeamfcienoaaGreat
end
