/- Going on. -/
import Derived.Test.YtmpoeamfcienoaaKLA15
section
namespace Go.Proofs.Ytmpoeamfcienoaa
open Go.Ab
set_option linter.unusedVariables false
set_option linter.unusedSimpArgs false
set_option maxRecDepth 100000
set_option maxHeartbeats 8000000
theorem rn_place_Log_Do {lb : Nat} {v : LogV} {F : List Nat} {p : Prt} {at_ : Plc} {s : AState} (hL : LogAt s lb v F) (h : Spar v.g) (hpl : (p.es.length : Int) < 9223372036854775808) :
    Runs (compCode prog) prog F_place_Log_Do [.p lb 0, p.av, at_.av] s (fun _ s' => ∃ F', LogAt s' lb (logDo v p at_) F' ∧ Mut F F' s s') := by
  have hL' := hL
  have hlt := hL.lt
  obtain ⟨tk, mb, A, rfl, h1, h2, h3⟩ := hL
  have hlb : lb < s.n := hlt lb (by simp)
  have hmb : mb < s.n := hlt mb (by simp)
  refine runs_e h_place_Log_Do (Nat.le_of_ble_eq_true rfl) ?_
  cases hok : okDo v.g p with
  | false =>
    have e1 : logDo v p at_ = v := by unfold logDo; rw [hok]; simp
    rw [e1]
    have fin : ∀ s', Grows s s' → ∃ F', LogAt s' lb v F' ∧ Mut [lb, mb] F' s s' := fun s' hg => ⟨_, hL'.keep fun x hx => hg.get (hlt x hx), .grows hg⟩
    unfold logC at h1
    unfold okDo at hok
    cases hp : isPart p with
    | false =>
      repeat (first | simp -dsimp -implicitDefEqProofs (disch := first | omega | (simp <;> omega) | fail) [h1, hp] | ((with_reducible first | apply m_1 | apply m_0); (focus ((conv => lhs; simp -dsimp -implicitDefEqProofs (disch := first | omega | (simp <;> omega) | fail) [h1, hp]); done))) | ((with_reducible apply giv); (case hAR => ((conv => lhs; simp -dsimp -implicitDefEqProofs (disch := first | omega | (simp <;> omega) | fail) [h1, hp]); done)); (case hCT => (first | (apply ct_part_Is <;> first | assumption | omega | decide)))) | ((with_reducible first | apply i_T | apply g_T); (focus (simp -dsimp -implicitDefEqProofs (disch := first | omega | (simp <;> omega) | fail) [h1, hp]; done))) | ((with_reducible first | apply i_F | apply g_F); (focus (simp -dsimp -implicitDefEqProofs (disch := first | omega | (simp <;> omega) | fail) [h1, hp]; done))))
      exact ret_ok rfl (fin _ ((((Grows.refl s).alloc _).alloc _).alloc _))
    | true =>
      by_cases hg : p.gr = v.g.id
      · have hk : p.kd = 5 := by simpa [hp, hg] using hok
        repeat (first | simp -dsimp -implicitDefEqProofs (disch := first | omega | (simp <;> omega) | fail) [h1, hp, hg, hk] | ((with_reducible first | apply m_1 | apply m_0); (focus ((conv => lhs; simp -dsimp -implicitDefEqProofs (disch := first | omega | (simp <;> omega) | fail) [h1, hp, hg, hk]); done))) | ((with_reducible apply giv); (case hAR => ((conv => lhs; simp -dsimp -implicitDefEqProofs (disch := first | omega | (simp <;> omega) | fail) [h1, hp, hg, hk]); done)); (case hCT => (first | (apply ct_part_Is <;> first | assumption | omega | decide)))) | ((with_reducible first | apply i_T | apply g_T); (focus (simp -dsimp -implicitDefEqProofs (disch := first | omega | (simp <;> omega) | fail) [h1, hp, hg, hk]; done))) | ((with_reducible first | apply i_F | apply g_F); (focus (simp -dsimp -implicitDefEqProofs (disch := first | omega | (simp <;> omega) | fail) [h1, hp, hg, hk]; done))))
        exact ret_ok rfl (fin _ ((((Grows.refl s).alloc _).alloc _).alloc _))
      · repeat (first | simp -dsimp -implicitDefEqProofs (disch := first | omega | (simp <;> omega) | fail) [h1, hp, hg] | ((with_reducible first | apply m_1 | apply m_0); (focus ((conv => lhs; simp -dsimp -implicitDefEqProofs (disch := first | omega | (simp <;> omega) | fail) [h1, hp, hg]); done))) | ((with_reducible apply giv); (case hAR => ((conv => lhs; simp -dsimp -implicitDefEqProofs (disch := first | omega | (simp <;> omega) | fail) [h1, hp, hg]); done)); (case hCT => (first | (apply ct_part_Is <;> first | assumption | omega | decide)))) | ((with_reducible first | apply i_T | apply g_T); (focus (simp -dsimp -implicitDefEqProofs (disch := first | omega | (simp <;> omega) | fail) [h1, hp, hg]; done))) | ((with_reducible first | apply i_F | apply g_F); (focus (simp -dsimp -implicitDefEqProofs (disch := first | omega | (simp <;> omega) | fail) [h1, hp, hg]; done))))
        exact ret_ok rfl (fin _ ((((Grows.refl s).alloc _).alloc _).alloc _))
  | true =>
    have e1 : logDo v p at_ = ⟨doS v.g p, nextW putL (lk v.sp) p at_ v.g (doS v.g p)⟩ := by unfold logDo; rw [if_pos hok]
    rw [e1]
    unfold logC at h1
    unfold okDo at hok
    simp at hok
    obtain ⟨⟨hp, hg⟩, hk⟩ := hok
    have hSD := h.doS p
    have hwl := nextW_rep (h3.lk) p at_ v.g (doS v.g p)
    obtain ⟨now, hnow⟩ : ∃ now, doS v.g p = now := ⟨_, rfl⟩
    rw [hnow] at hSD hwl ⊢
    repeat (first | simp -dsimp -implicitDefEqProofs (disch := first | omega | (simp <;> omega) | fail) [h1, hp, hg, hk, Grp.cells, hnow] | (with_reducible apply m_draw) | ((with_reducible refine ⟨m_op ?_, ?_⟩); (focus (simp -dsimp -implicitDefEqProofs (disch := first | omega | (simp <;> omega) | fail) [h1, hp, hg, hk, Grp.cells, hnow]; done))) | ((with_reducible first | apply m_d1 rfl | apply m_dE | apply m_dE0); (focus ((conv => lhs; simp -dsimp -implicitDefEqProofs (disch := first | omega | (simp <;> omega) | fail) [h1, hp, hg, hk, Grp.cells, hnow]); done))) | ((with_reducible apply givQ); (case hAR => ((conv => lhs; simp -dsimp -implicitDefEqProofs (disch := first | omega | (simp <;> omega) | fail) [h1, hp, hg, hk, Grp.cells, hnow]); done)); (case hCT => intro _ _; (first | (apply ct_part_Is <;> first | assumption | omega | decide) | (apply ct_sparse_Do <;> first | assumption | omega | decide)))) | ((with_reducible first | apply m_1 | apply m_0); (focus ((conv => lhs; simp -dsimp -implicitDefEqProofs (disch := first | omega | (simp <;> omega) | fail) [h1, hp, hg, hk, Grp.cells, hnow]); done))) | ((with_reducible apply giv); (case hAR => ((conv => lhs; simp -dsimp -implicitDefEqProofs (disch := first | omega | (simp <;> omega) | fail) [h1, hp, hg, hk, Grp.cells, hnow]); done)); (case hCT => (first | (apply ct_part_Is <;> first | assumption | omega | decide) | (apply ct_sparse_Do <;> first | assumption | omega | decide)))) | ((with_reducible first | apply i_T | apply g_T | apply h_T); (focus (simp -dsimp -implicitDefEqProofs (disch := first | omega | (simp <;> omega) | fail) [h1, hp, hg, hk, Grp.cells, hnow]; done))) | ((with_reducible first | apply i_F | apply g_F | apply h_F); (focus (simp -dsimp -implicitDefEqProofs (disch := first | omega | (simp <;> omega) | fail) [h1, hp, hg, hk, Grp.cells, hnow]; done))))
    have hne : lb ≠ mb := by rintro rfl; rw [h1] at h2; cases h2
    generalize hgC : ([AV.v (.int .i64 v.g.id), .v (.int .i64 v.g.fi), .v (.int .i64 v.g.tm), .v (.int .i64 v.g.ht), .v (.int .i64 v.g.hv), .v (.int .i64 v.g.hc), .sl (v.g.es.map Ent.av) tk] : List AV) = gC
    refine loop_ok [3, 4, 5, 6, 7, 42, 43] (fun m a s1 => ∃ (i : Nat) (B : List (Int × Plc)) (g : List AObj), i + m = 2 ∧ (i = 0 ∧ B = [] ∨ i = 1 ∧ B = nx0 setM (lk A) (-1) [] ∨ i = 2 ∧ B = nx0 setM (lk A) 0 (nx0 setM (lk A) (-1) [])) ∧
      s1 = allocs (((((((s.set lb (.cells [.v (.int .i64 now.id), .v (.int .i64 now.fi), .v (.int .i64 now.tm), .v (.int .i64 now.ht), .v (.int .i64 now.hv), .v (.int .i64 now.hc), .sl (now.es.map Ent.av) .no, .m mb])).alloc (.cells [.p lb 0])).alloc (.cells p.cells)).alloc (.cells at_.cells)).alloc (.cells gC)).alloc (.map (encM Plc.av B))).alloc (.cells [.m (s.n + 1 + 1 + 1 + 1)])) g ∧
      a = { t := den 106 [(3, .p s.n 0), (4, .p (s.n + 1) 0), (5, .p (s.n + 1 + 1) 0), (6, .p (s.n + 1 + 1 + 1) 0), (7, .p (s.n + 1 + 1 + 1 + 1 + 1) 0), (42, .agg [.v (.int .i64 (-1)), .v (.int .i64 0)]), (43, .v (.int .i64 i))], d := [] }) 2 ?_ ?_
    · exact ⟨0, [], [], rfl, .inl ⟨rfl, rfl⟩, rfl, by simp⟩
    rintro m a _ ⟨i, B, g, him, hB, rfl, rfl⟩
    rcases hB with ⟨rfl, hB⟩ | ⟨rfl, hB⟩ | ⟨rfl, hB⟩
    · have hw : IntKind.wrap .i64 (((0 : Nat) : Int) + 1) = 1 := by decide
      refine st0 ?_
      refine m_look (κ := Int) (A := A) (k := -1) (b := mb) (enc := Plc.av) (by simp) (dz2 h2 hne) (by simp; rfl) ?_
      cases hl : lk A (-1) with
      | none =>
        repeat (first | simp -dsimp -implicitDefEqProofs (disch := first | omega | (simp <;> omega) | fail) [lkV, hl, hw] | ((with_reducible first | apply m_1 | apply m_0); (focus ((conv => lhs; simp -dsimp -implicitDefEqProofs (disch := first | omega | (simp <;> omega) | fail) [lkV, hl, hw]); done))) | ((with_reducible first | apply i_T | apply g_T); (focus (simp -dsimp -implicitDefEqProofs (disch := first | omega | (simp <;> omega) | fail) [lkV, hl, hw]; done))) | ((with_reducible first | apply i_F | apply g_F); (focus (simp -dsimp -implicitDefEqProofs (disch := first | omega | (simp <;> omega) | fail) [lkV, hl, hw]; done))))
        refine ⟨m - 1, by omega, 1, B, g ++ [.cells [.v (.int .i64 0), .v (.int .i64 0)]], by omega, .inr (.inl ⟨rfl, by rw [hB]; simp [nx0, hl]⟩), ?_, by simp⟩
        simp [allocs_snoc]
      | some x =>
        repeat (first | simp -dsimp -implicitDefEqProofs (disch := first | omega | (simp <;> omega) | fail) [lkV, hl] | ((with_reducible first | apply m_1 | apply m_0); (focus ((conv => lhs; simp -dsimp -implicitDefEqProofs (disch := first | omega | (simp <;> omega) | fail) [lkV, hl]); done))) | ((with_reducible first | apply i_T | apply g_T); (focus (simp -dsimp -implicitDefEqProofs (disch := first | omega | (simp <;> omega) | fail) [lkV, hl]; done))) | ((with_reducible first | apply i_F | apply g_F); (focus (simp -dsimp -implicitDefEqProofs (disch := first | omega | (simp <;> omega) | fail) [lkV, hl]; done))))
        refine m_mset (κ := Int) (A := B) (k := -1) (v := x) (b := s.n + 1 + 1 + 1 + 1) (enc := Plc.av) (by simp) (dz0) (by simp; rfl) (by simp) ?_
        refine st1 hw ?_
        refine ⟨m - 1, by omega, 1, setM B (-1) x, g ++ [.cells x.cells], by omega, .inr (.inl ⟨rfl, by rw [hB]; simp [nx0, hl]⟩), ?_, by simp⟩
        simp (disch := first | omega | (simp <;> omega) | fail) [allocs_snoc]
    · have hw : IntKind.wrap .i64 (((1 : Nat) : Int) + 1) = 2 := by decide
      refine st0 ?_
      refine m_look (κ := Int) (A := A) (k := 0) (b := mb) (enc := Plc.av) (by simp) (dz2 h2 hne) (by simp; rfl) ?_
      cases hl : lk A (0) with
      | none =>
        repeat (first | simp -dsimp -implicitDefEqProofs (disch := first | omega | (simp <;> omega) | fail) [lkV, hl, hw] | ((with_reducible first | apply m_1 | apply m_0); (focus ((conv => lhs; simp -dsimp -implicitDefEqProofs (disch := first | omega | (simp <;> omega) | fail) [lkV, hl, hw]); done))) | ((with_reducible first | apply i_T | apply g_T); (focus (simp -dsimp -implicitDefEqProofs (disch := first | omega | (simp <;> omega) | fail) [lkV, hl, hw]; done))) | ((with_reducible first | apply i_F | apply g_F); (focus (simp -dsimp -implicitDefEqProofs (disch := first | omega | (simp <;> omega) | fail) [lkV, hl, hw]; done))))
        refine ⟨m - 1, by omega, 2, B, g ++ [.cells [.v (.int .i64 0), .v (.int .i64 0)]], by omega, .inr (.inr ⟨rfl, by rw [hB]; simp [nx0, hl]⟩), ?_, by simp⟩
        simp [allocs_snoc]
      | some x =>
        repeat (first | simp -dsimp -implicitDefEqProofs (disch := first | omega | (simp <;> omega) | fail) [lkV, hl] | ((with_reducible first | apply m_1 | apply m_0); (focus ((conv => lhs; simp -dsimp -implicitDefEqProofs (disch := first | omega | (simp <;> omega) | fail) [lkV, hl]); done))) | ((with_reducible first | apply i_T | apply g_T); (focus (simp -dsimp -implicitDefEqProofs (disch := first | omega | (simp <;> omega) | fail) [lkV, hl]; done))) | ((with_reducible first | apply i_F | apply g_F); (focus (simp -dsimp -implicitDefEqProofs (disch := first | omega | (simp <;> omega) | fail) [lkV, hl]; done))))
        refine m_mset (κ := Int) (A := B) (k := 0) (v := x) (b := s.n + 1 + 1 + 1 + 1) (enc := Plc.av) (by simp) (dz0) (by simp; rfl) (by simp) ?_
        refine st1 hw ?_
        refine ⟨m - 1, by omega, 2, setM B (0) x, g ++ [.cells x.cells], by omega, .inr (.inr ⟨rfl, by rw [hB]; simp [nx0, hl]⟩), ?_, by simp⟩
        simp (disch := first | omega | (simp <;> omega) | fail) [allocs_snoc]
    · have hMI := MI_eq
      have hlen := hSD.len
      refine st0 ?_
      refine gv (ct_slices_Values_Entry (xs := now.es.map Ent.av)) ?_
      refine st0 ?_
      have hit := it_slices_Values_Entry now.es (s.n + 1 + 1 + 1 + 1 + 1 + 1 + g.length) (by omega)
      refine w_rangeG (α := Unit) (β := Unit) (m := now.es.length) (by simp) hit (by intro x hx; obtain ⟨p, _, rfl⟩ := List.mem_map.1 hx; rfl) (by simp)
        (fun kk _ => (allocs (((((((s.set lb (.cells [.v (.int .i64 now.id), .v (.int .i64 now.fi), .v (.int .i64 now.tm), .v (.int .i64 now.ht), .v (.int .i64 now.hv), .v (.int .i64 now.hc), .sl (now.es.map Ent.av) .no, .m mb])).alloc (.cells [.p lb 0])).alloc (.cells p.cells)).alloc (.cells at_.cells)).alloc (.cells gC)).alloc (.map (encM Plc.av ((now.es.take kk).foldl (nx1 setM (lk A) p at_) B)))).alloc (.cells [.m (s.n + 1 + 1 + 1 + 1)])) g).alloc (.cells [.sl (now.es.map Ent.av) .no]))
        (fun kk _ s' => True) (fun j _ => s) (fun j _ _ => False) () (by simp) (fun s' h => trivial) ?_ (fun _ _ _ o h => h) (fun _ _ _ _ h => h) ?_ ?_ (fun _ _ _ _ _ h => h.elim)
      · intro kk a s' _ h1 hg
        refine (hg.get (by simp [n_allocs])).trans ?_
        exact get_alloc_eq (by simp [n_allocs])
      · rintro LR LB LJ _ kk hkk _ g2 h1' _
        have hkk' : kk < now.es.length := by simpa using hkk
        have hTk : (now.es.take (kk + 1)).foldl (nx1 setM (lk A) p at_) B = nx1 setM (lk A) p at_ ((now.es.take kk).foldl (nx1 setM (lk A) p at_) B) now.es[kk] := by
          rw [List.take_succ_eq_append_getElem hkk', List.foldl_append]; rfl
        generalize (now.es.take kk).foldl (nx1 setM (lk A) p at_) B = C at hTk ⊢
        refine st1 hkk' ?_
        refine m_look (κ := Int) (A := A) (k := now.es[kk].ix) (b := mb) (enc := Plc.av) (by simp) (dz2 h2 hne) (by simp; rfl) ?_
        have hlv : lkV Plc.av A now.es[kk].ix (.agg [.v (.int .i64 0), .v (.int .i64 0)]) false = ((lk A now.es[kk].ix).getD ⟨0, 0⟩).av := by unfold lkV; cases lk A now.es[kk].ix <;> rfl
        rw [hlv]
        refine st0 ?_
        refine m_mset (κ := Int) (A := C) (k := now.es[kk].ix) (v := (lk A now.es[kk].ix).getD ⟨0, 0⟩) (b := s.n + 1 + 1 + 1 + 1) (enc := Plc.av) (by simp) (dz0) (by simp; rfl) (by simp) ?_
        refine st0 ?_
        refine gv (ct_place_brought (p := p) (e := now.es[kk]) hpl) ?_
        cases hbr : broughtS p now.es[kk] with
        | true =>
          refine st0 ?_
          refine m_mset (κ := Int) (A := setM C now.es[kk].ix ((lk A now.es[kk].ix).getD ⟨0, 0⟩)) (k := now.es[kk].ix) (v := at_) (b := s.n + 1 + 1 + 1 + 1) (enc := Plc.av) (by simp) (dz0) (by simp; rfl) (by simp) ?_
          refine st0 ?_
          refine ⟨(), by simp, ?_, trivial⟩
          rw [hTk]
          simp (disch := first | omega | (simp <;> omega) | fail) [nx1, hbr, allocs_snoc]
          exact ⟨_, rfl⟩
        | false =>
          refine st0 ?_
          refine ⟨(), by simp, ?_, trivial⟩
          rw [hTk]
          simp (disch := first | omega | (simp <;> omega) | fail) [nx1, hbr, allocs_snoc]
          exact ⟨_, rfl⟩
      · rintro LR _ g2 h1' _
        have hTk : (now.es.take now.es.length).foldl (nx1 setM (lk A) p at_) B = nxI setM (lk A) p at_ now.es := by rw [List.take_length, hB]; rfl
        rw [hTk]
        have hwl : Rep (nxM setM p at_ v.g now (nxH setM p at_ (nxI setM (lk A) p at_ now.es))) (nextW putL (lk v.sp) p at_ v.g now) := hwl
        generalize nxI setM (lk A) p at_ now.es = C at hwl ⊢
        have hfi : 0 ≤ now.fi ∧ now.fi < 9223372036854775808 := by have := okHead_iff.1 hSD.hd; omega
        have hmk := fun s => ct_place_marks (p := p) (old := v.g) (now := now) (s := s) hfi
        have hgA : (AV.agg gC).strip = v.g.av := by rw [← hgC]; rfl
        have hgl : gC.length = 7 := by rw [← hgC]; rfl
        have hgt : gC.take 7 = gC := by rw [← hgl, List.take_length]
        have key : ∀ (D : List (Int × Plc)) (sf : AState) (k : Nat), Rep (nxM setM p at_ v.g now D) (nextW putL (lk v.sp) p at_ v.g now) → s.n ≤ sf.n → sf.get lb = .cells (logC now .no (s.n + 1 + 1 + 1 + 1)) → sf.get (s.n + 1 + 1 + 1 + 1) = .map (encM Plc.av (nxM setM p at_ v.g now D)) →
            (∀ x, x < s.n → x ≠ lb → sf.get x = s.get x) → ∃ F', LogAt sf lb { g := now, sp := nextW putL (lk v.sp) p at_ v.g now } F' ∧ Mut [lb, mb] F' s sf := fun D sf k hD h0 h4 h5 h6 =>
          ⟨[lb, s.n + 1 + 1 + 1 + 1], ⟨.no, _, _, rfl, h4, h5, hD⟩, h0, fun x hx hn => h6 x hx (by rintro rfl; simp at hn), fun x hx => by
            simp only [List.mem_cons, List.not_mem_nil, or_false] at hx
            rcases hx with rfl | rfl
            · exact .inl (by simp)
            · exact .inr (by omega)⟩
        have tail : ∀ D : List (Int × Plc), nxH setM p at_ C = D → Rep (nxM setM p at_ v.g now D) (nextW putL (lk v.sp) p at_ v.g now) := fun D e => by rw [← e]; exact hwl
        unfold nxH at tail
        clear hwl
        by_cases hk2 : p.kd = 2
        · rw [if_pos (.inl hk2)] at tail
          refine st1 hk2 ?_
          refine m_mset (κ := Int) (A := C) (k := -1) (v := at_) (b := s.n + 1 + 1 + 1 + 1) (enc := Plc.av) (by simp) (dz0) (by simp; rfl) (by simp) ?_
          refine st2 hgl hgt ?_
          refine giv (hmk _) (by simp; refine ⟨hgA, ?_⟩; simp [Grp.av, Grp.cells]) ?_
          cases hm : marksS p v.g now with
          | true =>
            refine st0 ?_
            refine m_mset (κ := Int) (A := setM C (-1) at_) (k := 0) (v := at_) (b := s.n + 1 + 1 + 1 + 1) (enc := Plc.av) (by simp) (dz0) (by simp; rfl) (by simp) ?_
            refine st0 ?_
            refine end_okD ?_ ?_ rfl ?_
            · simp (disch := first | omega | (simp <;> omega) | fail)
            · simp
            refine key _ _ 0 (tail _ rfl) ?_ ?_ ?_ ?_
            · simp [killAll, n_allocs]; omega
            · simp (disch := first | omega | (simp <;> omega) | fail) [killAll, logC]
            · simp (disch := first | omega | (simp <;> omega) | fail) [killAll, nxM, hm]
            · intro x hx hn; simp (disch := first | omega | (simp <;> omega) | fail) [killAll, hn, hx]
          | false =>
            refine st0 ?_
            refine end_okD ?_ ?_ rfl ?_
            · simp (disch := first | omega | (simp <;> omega) | fail)
            · simp
            refine key _ _ 0 (tail _ rfl) ?_ ?_ ?_ ?_
            · simp [killAll, n_allocs]; omega
            · simp (disch := first | omega | (simp <;> omega) | fail) [killAll, logC]
            · simp (disch := first | omega | (simp <;> omega) | fail) [killAll, nxM, hm]
            · intro x hx hn; simp (disch := first | omega | (simp <;> omega) | fail) [killAll, hn, hx]
        by_cases hhe : p.he = true
        · rw [if_pos (.inr hhe)] at tail
          refine st2 hk2 hhe ?_
          refine m_mset (κ := Int) (A := C) (k := -1) (v := at_) (b := s.n + 1 + 1 + 1 + 1) (enc := Plc.av) (by simp) (dz0) (by simp; rfl) (by simp) ?_
          refine st2 hgl hgt ?_
          refine giv (hmk _) (by simp; refine ⟨hgA, ?_⟩; simp [Grp.av, Grp.cells]) ?_
          cases hm : marksS p v.g now with
          | true =>
            refine st0 ?_
            refine m_mset (κ := Int) (A := setM C (-1) at_) (k := 0) (v := at_) (b := s.n + 1 + 1 + 1 + 1) (enc := Plc.av) (by simp) (dz0) (by simp; rfl) (by simp) ?_
            refine st0 ?_
            refine end_okD ?_ ?_ rfl ?_
            · simp (disch := first | omega | (simp <;> omega) | fail)
            · simp
            refine key _ _ 0 (tail _ rfl) ?_ ?_ ?_ ?_
            · simp [killAll, n_allocs]; omega
            · simp (disch := first | omega | (simp <;> omega) | fail) [killAll, logC]
            · simp (disch := first | omega | (simp <;> omega) | fail) [killAll, nxM, hm]
            · intro x hx hn; simp (disch := first | omega | (simp <;> omega) | fail) [killAll, hn, hx]
          | false =>
            refine st0 ?_
            refine end_okD ?_ ?_ rfl ?_
            · simp (disch := first | omega | (simp <;> omega) | fail)
            · simp
            refine key _ _ 0 (tail _ rfl) ?_ ?_ ?_ ?_
            · simp [killAll, n_allocs]; omega
            · simp (disch := first | omega | (simp <;> omega) | fail) [killAll, logC]
            · simp (disch := first | omega | (simp <;> omega) | fail) [killAll, nxM, hm]
            · intro x hx hn; simp (disch := first | omega | (simp <;> omega) | fail) [killAll, hn, hx]
        · rw [if_neg (by simp [hk2, hhe])] at tail
          refine st2 hk2 hhe ?_
          refine st2 hgl hgt ?_
          refine giv (hmk _) (by simp; refine ⟨hgA, ?_⟩; simp [Grp.av, Grp.cells]) ?_
          cases hm : marksS p v.g now with
          | true =>
            refine st0 ?_
            refine m_mset (κ := Int) (A := C) (k := 0) (v := at_) (b := s.n + 1 + 1 + 1 + 1) (enc := Plc.av) (by simp) (dz0) (by simp; rfl) (by simp) ?_
            refine st0 ?_
            refine end_okD ?_ ?_ rfl ?_
            · simp (disch := first | omega | (simp <;> omega) | fail)
            · simp
            refine key _ _ 0 (tail _ rfl) ?_ ?_ ?_ ?_
            · simp [killAll, n_allocs]; omega
            · simp (disch := first | omega | (simp <;> omega) | fail) [killAll, logC]
            · simp (disch := first | omega | (simp <;> omega) | fail) [killAll, nxM, hm]
            · intro x hx hn; simp (disch := first | omega | (simp <;> omega) | fail) [killAll, hn, hx]
          | false =>
            refine st0 ?_
            refine end_okD ?_ ?_ rfl ?_
            · simp (disch := first | omega | (simp <;> omega) | fail)
            · simp
            refine key _ _ 0 (tail _ rfl) ?_ ?_ ?_ ?_
            · simp [killAll, n_allocs]; omega
            · simp (disch := first | omega | (simp <;> omega) | fail) [killAll, logC]
            · simp (disch := first | omega | (simp <;> omega) | fail) [killAll, nxM, hm]
            · intro x hx hn; simp (disch := first | omega | (simp <;> omega) | fail) [killAll, hn, hx]
end Go.Proofs.Ytmpoeamfcienoaa
end
