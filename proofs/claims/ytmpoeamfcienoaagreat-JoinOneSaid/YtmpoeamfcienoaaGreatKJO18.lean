/- Going on. -/
import Derived.Test.YtmpoeamfcienoaaGreatKJO17
section
namespace Go.Ab
set_option linter.unusedVariables false
set_option linter.unusedSimpArgs false
def nextF (L : List (List Fnd)) (i : Int) : Option (Fnd × List Fnd) := if i < 0 then none else match L[i.toNat]? with | some (f :: r) => some (f, r) | _ => none
def stepL (L : List (List Fnd)) (i : Int) : List (List Fnd) := match nextF L i with | some (_, r) => L.set i.toNat r | none => L
def stepM (L : List (List Fnd)) (Ms : List (List (Int × LogV))) (i : Int) : List (List (Int × LogV)) := match nextF L i with | some (f, _) => Ms.set i.toNat (doL (Ms.getD i.toNat []) f.ps ⟨f.sg, f.at_⟩) | none => Ms
def cntL (L : List (List Fnd)) : Nat := (L.map List.length).sum
def GsOk (Ms : List (List (Int × LogV))) : Prop := ∀ M ∈ Ms, MOk M
theorem GsOk.step {L : List (List Fnd)} {Ms : List (List (Int × LogV))} (h : GsOk Ms) (i : Int) : GsOk (stepM L Ms i) := by
  unfold stepM
  split
  · next f r hn =>
    intro M hM
    rcases List.mem_or_eq_of_mem_set hM with h1 | rfl
    · exact h M h1
    · refine MOk.doL ?_ _ _
      rw [List.getD_eq_getElem?_getD]
      cases e : Ms[i.toNat]? with
      | none => exact .nil'
      | some M => exact h M (List.mem_of_getElem? e)
  · exact h
theorem stepL_len (L : List (List Fnd)) (i : Int) : (stepL L i).length = L.length := by unfold stepL; split <;> simp
structure FewL (L : List (List Fnd)) : Prop where
  k : L.length ≤ 64
  n : ∀ l ∈ L, l.length ≤ 30
  p : ∀ l ∈ L, ∀ f ∈ l, f.ps.length ≤ 6
  e : ∀ l ∈ L, ∀ f ∈ l, ∀ p ∈ f.ps, p.es.length ≤ 8
theorem FewL.step {L : List (List Fnd)} (h : FewL L) (i : Int) : FewL (stepL L i) := by
  unfold stepL
  split
  · next f r hn =>
    have hL : (f :: r) ∈ L := by
      unfold nextF at hn
      split at hn
      · cases hn
      split at hn
      · next f' r' e => cases hn; exact List.mem_of_getElem? e
      · cases hn
    have key : ∀ l ∈ L.set i.toNat r, ∃ l' ∈ L, l.length ≤ l'.length ∧ ∀ x ∈ l, x ∈ l' := fun l hl => by
      rcases List.mem_or_eq_of_mem_set hl with h1 | rfl
      · exact ⟨l, h1, Nat.le_refl _, fun x hx => hx⟩
      · exact ⟨_, hL, by simp, fun x hx => by simp [hx]⟩
    refine ⟨by simpa using h.k, fun l hl => ?_, fun l hl f hf => ?_, fun l hl f hf p hp => ?_⟩ <;> obtain ⟨l', h1, h2, h3⟩ := key l hl
    · have := h.n l' h1; omega
    · exact h.p l' h1 f (h3 f hf)
    · exact h.e l' h1 f (h3 f hf) p hp
  · exact h
end Go.Ab
namespace Go.Proofs.YtmpoeamfcienoaaGreat
open Go.Ab
set_option linter.unusedVariables false
set_option linter.unusedSimpArgs false
set_option maxRecDepth 100000
set_option maxHeartbeats 1000000
theorem rn_replay_Replay_Step {b : Nat} {L : List (List Fnd)} {Ms : List (List (Int × LogV))} {F : List Nat} {i : Int} {s : AState} (hR : RpAt s b L Ms F) (hM : GsOk Ms) (hf : FewL L) :
    Runs (compCode prog) prog F_replay_Replay_Step [.p b 0, .v (.int .i64 i)] s (fun x s' => ∃ F', x = .v (.bool (nextF L i).isSome) ∧ RpAt s' b (stepL L i) (stepM L Ms i) F' ∧ Mut F F' s s') := by
  have hR' := hR
  have hlt := hR.lt
  have hk := hf.k
  obtain ⟨lb, cs, ps, tk, F', rfl, h1, h2, h3, h4, h5, h6, h7⟩ := hR
  have hb := hlt b (by simp)
  have hlb := hlt lb (by simp)
  have hpl := h5.len
  refine runs_e h_replay_Replay_Step (Nat.le_of_ble_eq_true rfl) ?_
  have stay : ∀ (h : nextF L i = none), ∃ F2, (.v (.bool false) : AV) = .v (.bool (nextF L i).isSome) ∧ RpAt s b (stepL L i) (stepM L Ms i) F2 ∧ Mut (b :: lb :: F') F2 s s := fun h => by
    refine ⟨b :: lb :: F', by rw [h]; rfl, ?_, .refl _ _⟩
    unfold stepL stepM; rw [h]; exact hR'
  by_cases hi : i < 0
  · have hn : nextF L i = none := by unfold nextF; rw [if_pos hi]
    repeat (first | simp -dsimp -implicitDefEqProofs (disch := first | omega | (simp <;> omega) | fail) [hi] | ((with_reducible first | apply m_1 | apply m_0); (focus ((conv => lhs; simp -dsimp -implicitDefEqProofs (disch := first | omega | (simp <;> omega) | fail) [hi]); done))) | ((with_reducible first | apply i_T | apply g_T); (focus (simp -dsimp -implicitDefEqProofs (disch := first | omega | (simp <;> omega) | fail) [hi]; done))) | ((with_reducible first | apply i_F | apply g_F); (focus (simp -dsimp -implicitDefEqProofs (disch := first | omega | (simp <;> omega) | fail) [hi]; done))))
    exact ret_ok rfl (stay hn)
  obtain ⟨m, rfl⟩ : ∃ m : Nat, i = m := ⟨i.toNat, by omega⟩
  by_cases hm : m < L.length
  · have hm2 : ¬ L.length ≤ m := by omega
    have hnx : nextF L m = match L[m] with | f :: r => some (f, r) | [] => none := by
      unfold nextF
      rw [if_neg hi, show (m : Int).toNat = m from rfl, List.getElem?_eq_getElem hm]
      cases L[m] <;> rfl
    obtain ⟨t, ht⟩ := h4 m (by omega) hm
    obtain ⟨A, c, B, hcs, hA⟩ : ∃ A c B, cs = A ++ c :: B ∧ A.length = m := ⟨cs.take m, cs[m], cs.drop (m + 1), by rw [List.getElem_cons_drop]; simp, by simp; omega⟩
    have hc : c = .sl ((L[m]).map Fnd.av) t := by
      rw [← ht]; simp [hcs, ← hA]
    have fd : ∀ x : AV, (A ++ x :: B).drop m = x :: B := fun x => drop_mid hA
    have ft : ∀ x : AV, (A ++ x :: B).take m = A := fun x => take_mid hA
    have fr : ∀ x : AV, (A ++ x :: B).drop (m + 1) = B := fun x => drop_mid1 hA
    rw [hcs, hc] at h2
    cases hL : L[m] with
    | nil =>
      rw [hL] at hnx h2
      repeat (first | simp -dsimp -implicitDefEqProofs (disch := first | omega | (simp <;> omega) | fail) [hi, hm, h1, h2, fd] | ((with_reducible first | apply m_1 | apply m_0); (focus ((conv => lhs; simp -dsimp -implicitDefEqProofs (disch := first | omega | (simp <;> omega) | fail) [hi, hm, h1, h2, fd]); done))) | ((with_reducible first | apply i_T | apply g_T); (focus (simp -dsimp -implicitDefEqProofs (disch := first | omega | (simp <;> omega) | fail) [hi, hm, h1, h2, fd]; done))) | ((with_reducible first | apply i_F | apply g_F); (focus (simp -dsimp -implicitDefEqProofs (disch := first | omega | (simp <;> omega) | fail) [hi, hm, h1, h2, fd]; done))))
      exact ret_ok rfl (stay hnx)
    | cons f r =>
      rw [hL] at hnx h2
      have hr0 : ((r.length : Int) + 1 == 0) = false := by simp; omega
      have hmp : m < ps.length := by omega
      have hr1 : (1 : Int) ≤ (r.length : Int) + 1 := by omega
      have hr2 : (r.map Fnd.av).take r.length = r.map Fnd.av := List.take_of_length_le (by simp)
      have hblb : b ≠ lb := fun e => (List.nodup_cons.1 h6).1 (by simp [e])
      have hptr : ∀ x, ptr x = .p x 0 := fun _ => rfl
      have hLm : (f :: r) ∈ L := by rw [← hL]; exact List.getElem_mem hm
      have hmM : m < Ms.length := by omega
      have hlbF : lb ∉ F' := (List.nodup_cons.1 (List.nodup_cons.1 h6).2).1
      have hbF : b ∉ F' := fun h => (List.nodup_cons.1 h6).1 (by simp [h])
      have hF' : ∀ x ∈ F', x < s.n := fun x hx => hlt x (by simp [hx])
      have hnF : F'.Nodup := (List.nodup_cons.1 (List.nodup_cons.1 h6).2).2
      repeat (first | simp -dsimp -implicitDefEqProofs (disch := first | omega | (simp <;> omega) | fail) [hi, hm, hm2, h1, h2, fd, ft, fr, hr0, hr1, hr2, hA, hmp, hptr] | ((with_reducible first | apply m_1 | apply m_0); (focus ((conv => lhs; simp -dsimp -implicitDefEqProofs (disch := first | omega | (simp <;> omega) | fail) [hi, hm, hm2, h1, h2, fd, ft, fr, hr0, hr1, hr2, hA, hmp, hptr]); done))) | ((with_reducible first | apply i_T | apply g_T); (focus (simp -dsimp -implicitDefEqProofs (disch := first | omega | (simp <;> omega) | fail) [hi, hm, hm2, h1, h2, fd, ft, fr, hr0, hr1, hr2, hA, hmp, hptr]; done))) | ((with_reducible first | apply i_F | apply g_F); (focus (simp -dsimp -implicitDefEqProofs (disch := first | omega | (simp <;> omega) | fail) [hi, hm, hm2, h1, h2, fd, ft, fr, hr0, hr1, hr2, hA, hmp, hptr]; done))))
      have h5' : LedsAt ((s.set lb (.cells (A ++ .sl (r.map Fnd.av) .no :: B))).alloc (.cells f.cells)) ps Ms F' := h5.keep fun x hx => by
        rw [get_alloc_ne (by have := hF' x hx; simp; omega), AState.get_set_ne _ _ (by rintro rfl; exact hlbF hx)]
      have hcl : (A ++ .sl (r.map Fnd.av) .no :: B).length = L.length := by rw [← h3, hcs]; simp
      obtain ⟨Fi, k1, k2, k3⟩ := h5'.focus hnF (i := m) hmp hmM
      refine run (rn_ledger_Ledger_Do (l := f.ps) (at_ := ⟨f.sg, f.at_⟩) k1 (hM _ (List.getElem_mem hmM)).gok (by have := hf.p _ hLm f (by simp); omega) (fun p hp => by have := hf.e _ hLm f (by simp) p hp; omega)) (by simp [Plc.av, Plc.cells]) ?_
      rintro _ s2 ⟨Fi', q1, q2⟩
      obtain ⟨F2, j1, j2, j3⟩ := k3 s2 _ Fi' q1 q2
      repeat (first | simp -dsimp -implicitDefEqProofs (disch := first | omega | (simp <;> omega) | fail) | ((with_reducible first | apply m_1 | apply m_0); (focus ((conv => lhs; simp -dsimp -implicitDefEqProofs (disch := first | omega | (simp <;> omega) | fail)); done))) | ((with_reducible first | apply i_T | apply g_T); (focus (simp -dsimp -implicitDefEqProofs (disch := first | omega | (simp <;> omega) | fail); done))) | ((with_reducible first | apply i_F | apply g_F); (focus (simp -dsimp -implicitDefEqProofs (disch := first | omega | (simp <;> omega) | fail); done))))
      have hn2 := j2.n
      simp at hn2
      have ap : ∀ x ∈ [b, lb], x ∉ F2 := j2.apart (by simp [hbF, hlbF]) (by simp; omega)
      have g1 : s2.get b = s.get b := by rw [j2.keep b (by simp; omega) hbF, get_alloc_ne (by simp; omega), AState.get_set_ne _ _ hblb]
      have g2 : s2.get lb = .cells (A ++ .sl (r.map Fnd.av) .no :: B) := by rw [j2.keep lb (by simp; omega) hlbF]; simp (disch := first | omega | (simp <;> omega) | fail)
      have e1 : stepL L m = L.set m r := by unfold stepL; rw [hnx]; rfl
      have e2 : stepM L Ms m = Ms.set m (doL Ms[m] f.ps ⟨f.sg, f.at_⟩) := by
        unfold stepM; rw [hnx]; show Ms.set m (doL (Ms.getD m []) _ _) = _
        rw [List.getD_eq_getElem?_getD, List.getElem?_eq_getElem hmM]; rfl
      rw [hnx, e1, e2]
      refine ret_ok rfl ⟨b :: lb :: F2, rfl, ⟨lb, _, ps, tk, F2, rfl, by rw [g1, h1]; simp, g2, by simp only [List.length_set]; exact hcl, fun i h h' => ?_, j1, ?_, by simp [h7]⟩, ?_⟩
      · by_cases hi2 : i = m
        · subst hi2
          exact ⟨.no, by simp [hA]⟩
        · have hi3 : i < L.length := by simpa using h'
          obtain ⟨t', e'⟩ := h4 i (by omega) hi3
          refine ⟨t', ?_⟩
          rw [List.getElem_set_ne (fun e => hi2 e.symm), ← e']
          have : ∀ (x y : AV) (h1 : i < (A ++ x :: B).length) (h2 : i < (A ++ y :: B).length), (A ++ x :: B)[i] = (A ++ y :: B)[i] := fun x y g1 g2 => by
            by_cases h : i < A.length
            · rw [List.getElem_append_left h, List.getElem_append_left h]
            · rw [List.getElem_append_right (by omega), List.getElem_append_right (by omega)]
              obtain ⟨d, hd⟩ : ∃ d, i - A.length = d + 1 := ⟨i - A.length - 1, by omega⟩
              simp only [hd, List.getElem_cons_succ]
          simp only [hcs]
          exact this _ _ _ _
      · simp only [List.nodup_cons, List.mem_cons, not_or]
        exact ⟨⟨hblb, ap b (by simp)⟩, ap lb (by simp), j3⟩
      · refine ⟨by omega, fun x hx hnx => ?_, fun x hx => ?_⟩
        · simp only [List.mem_cons, not_or] at hnx
          rw [j2.keep x (by simp; omega) hnx.2.2, get_alloc_ne (by simp; omega), AState.get_set_ne _ _ hnx.2.1]
        · simp only [List.mem_cons] at hx ⊢
          rcases hx with h | h | h
          · exact .inl (.inl h)
          · exact .inl (.inr (.inl h))
          · rcases j2.own x h with h8 | h8
            · exact .inl (.inr (.inr h8))
            · exact .inr (by simp at h8; omega)
  · have hn : nextF L m = none := by
      unfold nextF
      rw [if_neg hi, show (m : Int).toNat = m from rfl, List.getElem?_eq_none (by omega)]
    have hm2 : L.length ≤ m := by omega
    refine st3 hi hm2 h1 ?_
    exact ret_ok rfl (stay hn)
end Go.Proofs.YtmpoeamfcienoaaGreat
end
section
namespace Go.Proofs.YtmpoeamfcienoaaGreat
open Go.Ab
set_option linter.unusedVariables false
set_option linter.unusedSimpArgs false
set_option maxRecDepth 100000
set_option maxHeartbeats 1000000
theorem rn_slices_Clone_Ledger {ps : List Nat} {tk0 : Tok} {s : AState} (hlen : ps.length * 8 ≤ 140737488355328) : Runs (compCode prog) prog F_slices_Clone_Ledger [.sl (ps.map fun n => .p n 0) tk0] s (fun x s' => ∃ tk, x = .sl (ps.map fun n => .p n 0) tk ∧ Grows s s') := by
  refine runs_e h_slices_Clone_Ledger (Nat.le_of_ble_eq_true rfl) ?_
  repeat (first | simp -dsimp -implicitDefEqProofs (disch := first | omega | (simp <;> omega) | fail) | ((with_reducible first | apply m_1 | apply m_0); (focus ((conv => lhs; simp -dsimp -implicitDefEqProofs (disch := first | omega | (simp <;> omega) | fail)); done))) | ((with_reducible first | apply i_T | apply g_T); (focus (simp -dsimp -implicitDefEqProofs (disch := first | omega | (simp <;> omega) | fail); done))) | ((with_reducible first | apply i_F | apply g_F); (focus (simp -dsimp -implicitDefEqProofs (disch := first | omega | (simp <;> omega) | fail); done))))
  refine i_N (fun hne => ?_) (fun hne b => ?_)
  · repeat (first | simp -dsimp -implicitDefEqProofs (disch := first | omega | (simp <;> omega) | fail) | ((with_reducible first | apply m_1 | apply m_0); (focus ((conv => lhs; simp -dsimp -implicitDefEqProofs (disch := first | omega | (simp <;> omega) | fail)); done))) | ((with_reducible first | apply i_T | apply g_T); (focus (simp -dsimp -implicitDefEqProofs (disch := first | omega | (simp <;> omega) | fail); done))) | ((with_reducible first | apply i_F | apply g_F); (focus (simp -dsimp -implicitDefEqProofs (disch := first | omega | (simp <;> omega) | fail); done))))
    refine m_app (xs := []) (tk := .zero) (ys := ps.map fun n => .p n 0) (t2 := tk0) (B := s) (N := s.n) (by simp) (by simp) (Grows.refl s) (Nat.le_refl _) (Nat.le_refl _) trivial (by simp) (List.all_eq_true.2 fun x hx => by obtain ⟨n, _, rfl⟩ := List.mem_map.1 hx; rfl) (by simp; omega) (by simp; omega) ?_
    intro s' tk2 hg hm _ _
    repeat (first | simp -dsimp -implicitDefEqProofs (disch := first | omega | (simp <;> omega) | fail) | ((with_reducible first | apply m_1 | apply m_0); (focus ((conv => lhs; simp -dsimp -implicitDefEqProofs (disch := first | omega | (simp <;> omega) | fail)); done))) | ((with_reducible first | apply i_T | apply g_T); (focus (simp -dsimp -implicitDefEqProofs (disch := first | omega | (simp <;> omega) | fail); done))) | ((with_reducible first | apply i_F | apply g_F); (focus (simp -dsimp -implicitDefEqProofs (disch := first | omega | (simp <;> omega) | fail); done))))
    exact ret_ok rfl ⟨tk2, by simp [retVal], hg⟩
  · have : ps = [] := by simpa using hne
    subst this
    cases b
    · refine st0 ?_
      exact ret_ok rfl ⟨_, rfl, Grows.refl _⟩
    · refine st0 ?_
      exact ret_ok rfl ⟨_, rfl, Grows.refl _⟩
theorem rn_replay_Replay_Ledgers {b : Nat} {L : List (List Fnd)} {Ms : List (List (Int × LogV))} {F : List Nat} {s : AState} (hR : RpAt s b L Ms F) (hk : L.length ≤ 64) :
    ∃ ps F', LedsAt s ps Ms F' ∧ (∀ x ∈ F', x ∈ F) ∧ Runs (compCode prog) prog F_replay_Replay_Ledgers [.p b 0] s (fun x s' => ∃ tk, x = .sl (ps.map fun n => .p n 0) tk ∧ Grows s s') := by
  obtain ⟨lb, cs, ps, tk, F', rfl, h1, h2, h3, h4, h5, h6, h7⟩ := hR
  have hpl := h5.len
  refine ⟨ps, F', h5, fun x hx => by simp [hx], runs_e h_replay_Replay_Ledgers (Nat.le_of_ble_eq_true rfl) ?_⟩
  have e : ps.map ptr = ps.map fun n => .p n 0 := rfl
  rw [e] at h1
  refine st1 h1 ?_
  refine rn0 (rn_slices_Clone_Ledger (ps := ps) (by omega)) ?_
  rintro _ s1 ⟨tk2, rfl, hg⟩
  refine st0 ?_
  exact ret_ok rfl ⟨tk2, rfl, hg⟩
end Go.Proofs.YtmpoeamfcienoaaGreat
end
section
namespace Go.Ab
set_option linter.unusedVariables false
set_option linter.unusedSimpArgs false
def fpl (l : List Fnd) : List (List Prt × Plc) := l.map fun f => (f.ps, ⟨f.sg, f.at_⟩)
def outs (L : List (List Fnd)) (Ms : List (List (Int × LogV))) : List (List (Int × LogV)) := (L.zip Ms).map fun x => runL x.2 (fpl x.1)
theorem outs_step {L : List (List Fnd)} {Ms : List (List (Int × LogV))} (h : L.length = Ms.length) (i : Int) : outs (stepL L i) (stepM L Ms i) = outs L Ms := by
  unfold stepL stepM
  cases hn : nextF L i with
  | none => rfl
  | some x =>
    obtain ⟨f, r⟩ := x
    unfold nextF at hn
    split at hn
    · cases hn
    split at hn
    case h_2 => cases hn
    case h_1 f' r' e =>
    cases hn
    obtain ⟨hm, e1⟩ := List.getElem?_eq_some_iff.1 e
    have hm2 : i.toNat < Ms.length := by omega
    refine List.ext_getElem (by simp [outs, h]) fun j h1 h2 => ?_
    simp only [outs, List.getElem_map, List.getElem_zip]
    by_cases hj : j = i.toNat
    · subst hj
      simp only [List.getElem_set_self, e1]
      rw [List.getD_eq_getElem?_getD, List.getElem?_eq_getElem hm2]
      rfl
    · rw [List.getElem_set_ne (fun e => hj e.symm), List.getElem_set_ne (fun e => hj e.symm)]
theorem outs_done {L : List (List Fnd)} {Ms : List (List (Int × LogV))} (h : L.length = Ms.length) (hL : ∀ l ∈ L, l = []) : outs L Ms = Ms := by
  refine List.ext_getElem (by simp [outs, h]) fun j h1 h2 => ?_
  simp only [outs, List.getElem_map, List.getElem_zip]
  rw [hL _ (List.getElem_mem (by omega))]; rfl
theorem next_cnt {L : List (List Fnd)} {i : Int} (h : (nextF L i).isSome = true) : cntL (stepL L i) + 1 = cntL L := by
  unfold stepL
  cases hn : nextF L i with
  | none => rw [hn] at h; cases h
  | some x =>
    obtain ⟨f, r⟩ := x
    unfold nextF at hn
    split at hn
    · cases hn
    split at hn
    case h_2 => cases hn
    case h_1 f' r' e =>
    cases hn
    obtain ⟨hm, e1⟩ := List.getElem?_eq_some_iff.1 e
    have key : ∀ (L : List (List Fnd)) (m : Nat) (hm : m < L.length), L[m] = f :: r → cntL (L.set m r) + 1 = cntL L := by
      intro L
      induction L with
      | nil => intro m hm; exact absurd hm (Nat.not_lt_zero _)
      | cons l L ih =>
        intro m hm e
        cases m with
        | zero =>
          simp only [List.getElem_cons_zero] at e
          subst e
          simp only [cntL, List.set_cons_zero, List.map_cons, List.sum_cons, List.length_cons]; omega
        | succ m =>
          have := ih m (by simpa using hm) (by simpa using e)
          simp only [cntL, List.set_cons_succ, List.map_cons, List.sum_cons] at this ⊢; omega
    exact key L _ hm e1
theorem next_none {L : List (List Fnd)} {i : Nat} (h : i < L.length) (hn : nextF L i = none) : L[i] = [] := by
  unfold nextF at hn
  rw [if_neg (by omega), show (i : Int).toNat = i from rfl, List.getElem?_eq_getElem h] at hn
  cases e : L[i] with
  | nil => rfl
  | cons f r => rw [e] at hn; cases hn
theorem step_none {L : List (List Fnd)} {i : Int} (h : nextF L i = none) : stepL L i = L := by unfold stepL; rw [h]
theorem step_other {L : List (List Fnd)} {i j : Nat} (h : j ≠ i) : (stepL L i)[j]? = L[j]? := by
  unfold stepL
  cases nextF L (i : Int) with
  | none => rfl
  | some x => exact List.getElem?_set_ne (by simpa using Ne.symm h)
structure RnI (s : AState) (b : Nat) (z : AV) (O : List (List (Int × LogV))) (k : Nat) (F : List Nat) (s' : AState) (L : List (List Fnd)) (Ms : List (List (Int × LogV))) (F' : List Nat) : Prop where
  b0 : s'.get s.n = .cells [.p b 0]
  b1 : s'.get (s.n + 1) = .cells [z]
  rp : RpAt s' b L Ms F'
  eq : outs L Ms = O
  ok : GsOk Ms
  few : FewL L
  len : L.length = k
  mt : Mut F F' s s'
  sep : ∀ x ∈ F', x < s.n ∨ s.n + 4 ≤ x
  n : s.n + 4 ≤ s'.n
theorem RpAt.len {s : AState} {b : Nat} {L : List (List Fnd)} {Ms : List (List (Int × LogV))} {F : List Nat} (h : RpAt s b L Ms F) : L.length = Ms.length := by
  obtain ⟨lb, cs, ps, tk, F', rfl, h1, h2, h3, h4, h5, h6, h7⟩ := h; exact h7.symm
theorem RnI.keep {s : AState} {b : Nat} {z : AV} {O : List (List (Int × LogV))} {k : Nat} {F : List Nat} {s' s2 : AState} {L : List (List Fnd)} {Ms : List (List (Int × LogV))} {F' : List Nat} (h : RnI s b z O k F s' L Ms F') (hn : s'.n ≤ s2.n)
    (hk : ∀ x, x < s'.n → x ≠ s.n + 3 → s2.get x = s'.get x) : RnI s b z O k F s2 L Ms F' := by
  obtain ⟨b0, b1, rp, eq, ok, few, len, mt, sep, n⟩ := h
  have hF := rp.lt
  refine ⟨(hk _ (by omega) (by omega)).trans b0, (hk _ (by omega) (by omega)).trans b1, rp.keep fun x hx => hk x (hF x hx) (by have := sep x hx; omega), eq, ok, few, len, ⟨by have := mt.n; omega, fun x hx hn => (hk x (by have := mt.n; omega) (by omega)).trans (mt.keep x hx hn), mt.own⟩, sep, by omega⟩
theorem RnI.step {s : AState} {b : Nat} {z : AV} {O : List (List (Int × LogV))} {k : Nat} {F : List Nat} {s' s2 : AState} {L : List (List Fnd)} {Ms : List (List (Int × LogV))} {F' F2 : List Nat} (h : RnI s b z O k F s' L Ms F') (i : Int)
    (g1 : RpAt s2 b (stepL L i) (stepM L Ms i) F2) (g2 : Mut F' F2 s' s2) : RnI s b z O k F s2 (stepL L i) (stepM L Ms i) F2 := by
  obtain ⟨b0, b1, rp, eq, ok, few, len, mt, sep, n⟩ := h
  have hn := g2.n
  have n0 : ∀ x, s.n ≤ x → x < s.n + 4 → x ∉ F' := fun x h1 h2 hm => by have := sep x hm; omega
  refine ⟨(g2.keep _ (by omega) (n0 _ (by omega) (by omega))).trans b0, (g2.keep _ (by omega) (n0 _ (by omega) (by omega))).trans b1, g1, by rw [outs_step rp.len, eq], ok.step i, few.step i, by rw [stepL_len, len], mt.trans g2, fun x hx => ?_, by omega⟩
  rcases g2.own x hx with h1 | h1
  · exact sep x h1
  · exact .inr (by omega)
end Go.Ab
namespace Go.Proofs.YtmpoeamfcienoaaGreat
open Go.Ab
set_option linter.unusedVariables false
set_option linter.unusedSimpArgs false
set_option maxRecDepth 100000
set_option maxHeartbeats 1000000
theorem rn_replay_Replay_Run {b : Nat} {L : List (List Fnd)} {Ms : List (List (Int × LogV))} {F : List Nat} {sc : List Int} {s : AState} (hR : RpAt s b L Ms F) (hM : GsOk Ms) (hf : FewL L) (h0 : 0 < L.length) (hsc : sc.length ≤ 1000000) :
    Runs (compCode prog) prog F_replay_Replay_Run [.p b 0, .sl (sc.map fun n => .v (.int .u8 n)) .no] s (fun _ s' => ∃ F', RpAt s' b (L.map fun _ => []) (outs L Ms) F' ∧ Mut F F' s s') := by
  have hlt := hR.lt
  have hk := hf.k
  refine runs_e h_replay_Replay_Run (Nat.le_of_ble_eq_true rfl) ?_
  refine st0 ?_
  refine m_scope ?_
  refine st0 ?_
  refine gv (ct_slices_Values_uint8 (xs := sc.map fun n => .v (.int .u8 n))) ?_
  refine st0 ?_
  have hit := it_slices_Values_uint8 (sc.map fun n => .v (.int .u8 n)) (.ints _) (s.n + 1) (by simp; omega)
  have hsn : ((s.alloc (.cells [.p b 0])).alloc (.cells [.sl (sc.map fun n => .v (.int .u8 n)) .no])).n = s.n + 2 := by simp
  refine w_rangeS (m := sc.length) (by simp) hit (by intro x hx; obtain ⟨p, _, rfl⟩ := List.mem_map.1 hx; rfl) (by simp) (fun k s' => ∃ L' Ms' F', RnI s b (.sl (sc.map fun n => .v (.int .u8 n)) .no) (outs L Ms) L.length F s' L' Ms' F') (fun _ _ => False) ?_ ?_ ?_ ?_ ?_ ?_ ?_
  · intro LR
    exact ⟨L, Ms, F, dz0, dz0, hR.keep fun x hx => by have := hlt x hx; simp (disch := first | omega | (simp <;> omega) | fail), rfl, hM, hf, rfl, .grows (((((Grows.refl s).alloc _).alloc _).alloc _).alloc _), fun x hx => .inl (hlt x hx), by simp⟩
  · rintro k s' ⟨L', Ms', F', h⟩; exact h.b1
  · rintro k s' o hn ⟨L', Ms', F', h⟩; exact ⟨L', Ms', F', h.keep (by simp) fun x hx _ => get_alloc_ne (by omega)⟩
  · intro j s' o hn h; exact h
  · rintro LR LB LJ hLB hLR k hkk s' hdd hLL hln ⟨L', Ms', F', hI⟩
    have hk' : k < sc.length := by simpa using hkk
    simp only [hsn, List.getElem_map, List.zip_cons_cons, List.zip_nil_right, List.reverse_cons, List.reverse_nil, List.nil_append, List.cons_append] at hdd hLL hln ⊢
    have hI2 : RnI s b (.sl (sc.map fun n => .v (.int .u8 n)) .no) (outs L Ms) L.length F (s'.set (s.n + 2 + 1) LB) L' Ms' F' := hI.keep (by simp) fun x hx hn => dz1 hn
    have hb0 := hI.b0
    obtain ⟨lb, cs, ps, tk, F'', hFe, hc1, -⟩ := hI.rp
    have hb3 : b ≠ s.n + 2 + 1 := by have := hI.sep b (by simp [hFe]); omega
    have k2 : (s'.set (s.n + 2 + 1) LB).get (s.n + 2 + 1) = LB := dz0
    have k4 : (s'.set (s.n + 2 + 1) LB).get (s.n + 2) = .defd := dz1 hdd
    have hl0 : ¬ L' = [] := fun e => by have := hI.len; rw [e] at this; simp at this; omega
    refine st4 hLL hb0 hc1 hl0 ?_
    clear hI hLL hdd hln hb0 hc1
    generalize s'.set (s.n + 2 + 1) LB = s4 at k2 k4 hI2 ⊢
    refine rn0 (rn_replay_Replay_Step hI2.rp hI2.ok hI2.few) ?_
    rintro _ s5 ⟨F5, rfl, g1, g2⟩
    have hI3 := hI2.step _ g1 g2
    have hn5 := g2.n
    have n0 : ∀ x, s.n ≤ x → x < s.n + 4 → x ∉ F' := fun x h1 h2 hm => by have := hI2.sep x hm; omega
    have hn4 := hI2.n
    refine st1 ((g2.keep _ (by omega) (n0 (s.n + 2 + 1) (by omega) (by omega))).trans k2) ?_
    refine fins_n (fun d hd => by cases hd; rw [AState.get_set_ne _ _ (by omega)]; exact (g2.keep _ (by omega) (n0 _ (by omega) (by omega))).trans k4) (dz0) ⟨_, _, _, hI3.keep (by simp) fun x hx hn => dz1 hn⟩
  · rintro s' hdd hln ⟨L', Ms', F', hI⟩
    simp only [hsn] at hdd hln ⊢
    have hI2 : RnI s b (.sl (sc.map fun n => .v (.int .u8 n)) .no) (outs L Ms) L.length F (s'.set (s.n + 2 + 1) .dead) L' Ms' F' := hI.keep (by simp) fun x hx hn => dz1 hn
    have k4 : (s'.set (s.n + 2 + 1) .dead).get (s.n + 2) = .defd := dz1 hdd
    clear hI hdd hln
    generalize s'.set (s.n + 2 + 1) .dead = s4 at k4 hI2 ⊢
    refine st0 ?_
    refine loop_ok [2, 5] (fun r a s1 => ∃ (i : Nat) (L' : List (List Fnd)) (Ms' : List (List (Int × LogV))) (F' : List Nat), (L.length - i) + cntL L' = r ∧ i ≤ L.length ∧ RnI s b (.sl (sc.map fun n => .v (.int .u8 n)) .no) (outs L Ms) L.length F s1 L' Ms' F' ∧ s1.get (s.n + 2) = .defd ∧
      (∀ j, j < i → L'[j]? = some []) ∧ a = { t := den 31 [(2, .p s.n 0), (5, .v (.int .i64 i))], d := [s.n + 2] }) (L.length + cntL L') ?_ ?_
    · exact ⟨0, L', Ms', F', by omega, by omega, hI2, k4, fun j h => absurd h (Nat.not_lt_zero _), by simp⟩
    clear hI2 k4
    rintro r a s1 ⟨i, L', Ms', F', hr, hi, hI, hd, hz, rfl⟩
    have hb0 := hI.b0
    have hll := hI.len
    have n0 : ∀ x, s.n ≤ x → x < s.n + 4 → x ∉ F' := fun x h1 h2 hm => by have := hI.sep x hm; omega
    have hn4 := hI.n
    obtain ⟨lb, cs, ps, tk, F'', hFe, hc1, -⟩ := hI.rp
    by_cases hlt2 : i < L'.length
    · have w3 : IntKind.wrap .i64 ((i : Int) + 1) = (i : Int) + 1 := wrap_i64 (by omega) (by omega)
      refine st3 hb0 hc1 hlt2 ?_
      refine rn0 (rn_replay_Replay_Step (i := i) hI.rp hI.ok hI.few) ?_
      rintro _ s5 ⟨F5, rfl, g1, g2⟩
      have hI3 := hI.step _ g1 g2
      have hd5 := (g2.keep _ (by omega) (n0 (s.n + 2) (by omega) (by omega))).trans hd
      cases hn : nextF L' i with
      | some x =>
        have hc := next_cnt (L := L') (i := i) (by rw [hn]; rfl)
        refine st0 ?_
        exact ⟨r - 1, by omega, i, _, _, F5, by omega, hi, hI3, hd5, fun j hj => by rw [step_other (by omega)]; exact hz j hj, by simp⟩
      | none =>
        have hs := step_none hn
        have hz' := next_none hlt2 hn
        refine st0 ?_
        refine ⟨r - 1, by omega, i + 1, _, _, F5, ?_, by omega, hI3, hd5, fun j hj => ?_, by simp [w3]⟩
        · rw [hs]; omega
        · rw [hs]
          by_cases e : j = i
          · subst e; rw [List.getElem?_eq_getElem hlt2, hz']
          · exact hz j (by omega)
    · have hie : i = L.length := by omega
      have hem : ∀ l ∈ L', l = [] := fun l hl => by
        obtain ⟨j, hj, rfl⟩ := List.getElem_of_mem hl
        have := hz j (by omega)
        rw [List.getElem?_eq_getElem hj] at this
        exact Option.some.inj this
      have hL' : L' = L.map fun _ => [] := List.ext_getElem (by simp [hll]) fun j h1 h2 => by rw [hem _ (List.getElem_mem h1)]; simp
      have hMs := outs_done hI.rp.len hem
      rw [hI.eq] at hMs
      refine st3 hb0 hc1 hlt2 ?_
      have hF := hI.rp.lt
      refine end_okD (by simpa using hd) (by simp) rfl ⟨F', ?_, ?_⟩
      · rw [← hL', hMs]
        exact hI.rp.keep fun x hx => by
          have := hI.sep x hx
          simp only [killAll, List.foldl]
          rw [AState.get_set_ne _ _ (by omega)]
      · refine ⟨by simp [killAll]; omega, fun x hx hn => ?_, hI.mt.own⟩
        simp only [killAll, List.foldl]
        rw [AState.get_set_ne _ _ (by omega)]
        exact hI.mt.keep x hx hn
  · intro j s' _ _ h; exact h.elim
end Go.Proofs.YtmpoeamfcienoaaGreat
end
section
namespace Go.Proofs.YtmpoeamfcienoaaGreat
open Go.Ab
set_option linter.unusedVariables false
set_option linter.unusedSimpArgs false
set_option maxRecDepth 100000
set_option maxHeartbeats 1000000
theorem fewFound_len {l : List Fnd} (h : fewFound l = true) : l.length ≤ 30 ∧ (∀ f ∈ l, f.ps.length ≤ 6) ∧ (∀ f ∈ l, ∀ p ∈ f.ps, p.es.length ≤ 8) := by
  simp only [fewFound, Bool.and_eq_true, decide_eq_true_eq, List.all_eq_true, List.mem_range] at h
  have key : ∀ x ∈ l, fewParts x.ps = true := fun x hx => by
    obtain ⟨j, hj, rfl⟩ := List.getElem_of_mem hx
    have := h.1 j hj
    rwa [List.getD_eq_getElem?_getD, List.getElem?_eq_getElem hj] at this
  exact ⟨by omega, fun x hx => (fewParts_len (key x hx)).1, fun x hx => (fewParts_len (key x hx)).2⟩
theorem splitI_mem {l : List Fnd} {i n : Int} {f : Fnd} (h : f ∈ splitI l i n) : ∃ f' ∈ l, f = pickF i n f' := by
  obtain ⟨h1, h2⟩ := List.mem_filter.1 h
  obtain ⟨f', h3, rfl⟩ := List.mem_map.1 h1
  exact ⟨f', h3, rfl⟩
theorem few_split {l : List Fnd} (n : Int) (h : fewFound l = true) : FewL (split l n) := by
  obtain ⟨h1, h2, h3⟩ := fewFound_len h
  have hh := held_pos n
  have key : ∀ m ∈ split l n, ∃ i : Int, m = splitI l i n := fun m hm => by obtain ⟨i, _, rfl⟩ := List.mem_map.1 hm; exact ⟨i, rfl⟩
  refine ⟨by simp only [split, List.length_map, List.length_range]; omega, fun m hm => ?_, fun m hm f hf => ?_, fun m hm f hf p hp => ?_⟩ <;> obtain ⟨i, rfl⟩ := key m hm
  · have := splitI_len l i n; omega
  · obtain ⟨f', h4, rfl⟩ := splitI_mem hf
    exact Nat.le_trans (List.length_filter_le _ _) (h2 f' h4)
  · obtain ⟨f', h4, rfl⟩ := splitI_mem hf
    exact h3 f' h4 p (List.mem_filter.1 hp).1
theorem split_length (l : List Fnd) (n : Int) : (split l n).length = (held n).toNat := by simp [split]
theorem gs_new (k : Nat) : GsOk (List.replicate k []) := fun M hM => by obtain rfl := List.eq_of_mem_replicate hM; exact .nil'
theorem gs_outs {L : List (List Fnd)} {Ms : List (List (Int × LogV))} (h : GsOk Ms) : GsOk (outs L Ms) := fun M hM => by
  obtain ⟨x, hx, rfl⟩ := List.mem_map.1 hM
  exact (h x.2 (List.of_mem_zip hx).2).runL _
def rl0 : List Fnd := [⟨4, [⟨1, 2, [], 0, 0, 0, 0, 0, false, false⟩, ⟨2, 2, [], 0, 0, 0, 0, 0, false, false⟩], 3, 16⟩]
def rL0 : List (List Fnd) := split rl0 2
def rM0 : List (List (Int × LogV)) := List.replicate (held 2).toNat []
def rL1 : List (List Fnd) := stepL rL0 1
def rM1 : List (List (Int × LogV)) := stepM rL0 rM0 1
def rL2 : List (List Fnd) := stepL rL1 1
def rM2 : List (List (Int × LogV)) := stepM rL1 rM1 1
def rL3 : List (List Fnd) := stepL rL2 2
def rM3 : List (List (Int × LogV)) := stepM rL2 rM2 2
def rM4 : List (List (Int × LogV)) := outs rL3 rM3
theorem rs : (spotsM (rM4.getD 1 [])).length = 1 := by kernel_rfl
end Go.Proofs.YtmpoeamfcienoaaGreat
end
section
namespace Go.Proofs.YtmpoeamfcienoaaGreat
open Go.Ab
set_option linter.unusedVariables false
set_option linter.unusedSimpArgs false
set_option maxRecDepth 100000
set_option maxHeartbeats 1000000
theorem rem_u8 {n m : Int} (hn : 0 ≤ n) (hm : 0 < m) : 0 ≤ n.tmod m ∧ n.tmod m < m := ⟨Int.tmod_nonneg _ hn, Int.tmod_lt_of_pos _ hm⟩
theorem held_id {k : Int} (h : 1 ≤ k ∧ k ≤ 64) : held k = k := by unfold held; rw [if_neg (by omega), if_neg (by omega)]
theorem runL_sp {l : List (List Prt × Plc)} (h : ∀ x ∈ l, x.1.length ≤ 6 ∧ ∀ p ∈ x.1, p.es.length ≤ 8) : ∀ {M : List (Int × LogV)}, MOk M → (spotsM (runL M l)).length ≤ (spotsM M).length + 60 * l.length := by
  induction l with
  | nil => intro M _; simp [runL]
  | cons x l ih =>
    intro M hM
    have h1 := ih (fun y hy => h y (by simp [hy])) (hM.doL x.1 x.2)
    have h2 := spots_doL hM x.1 x.2
    have h3 := wt_few (h x (by simp)).1 (h x (by simp)).2
    have e : runL M (x :: l) = runL (doL M x.1 x.2) l := rfl
    rw [e, List.length_cons]; omega
theorem outs_sp {L : List (List Fnd)} {k : Nat} (hf : FewL L) : ∀ M ∈ outs L (List.replicate k []), MOk M ∧ (spotsM M).length ≤ 1800 := fun M hM => by
  obtain ⟨x, hx, rfl⟩ := List.mem_map.1 hM
  have h1 := (List.of_mem_zip hx).1
  obtain h2 := List.eq_of_mem_replicate (List.of_mem_zip hx).2
  rw [h2]
  refine ⟨MOk.nil'.runL _, ?_⟩
  have h3 := runL_sp (l := fpl x.1) (fun y hy => by obtain ⟨f, hf', rfl⟩ := List.mem_map.1 hy; exact ⟨hf.p _ h1 f hf', hf.e _ h1 f hf'⟩) MOk.nil'
  have h4 : (fpl x.1).length = x.1.length := by simp [fpl]
  have h5 := hf.n _ h1
  have h6 : (spotsM []).length = 0 := rfl
  omega
end Go.Proofs.YtmpoeamfcienoaaGreat
end
section
namespace Go.Ab
set_option linter.unusedVariables false
def bln (b : Bool) : AV := .v (.bool b)
def idsM (M : List (Int × LogV)) : List Int := (grpsL M).map Grp.id
def idsA (Ms : List (List (Int × LogV))) : List Int := Ms.flatMap idsM
structure AptI (s : AState) (z : AV) (P : List Int) (s' : AState) : Prop where
  mp : ∃ A : List (Int × Bool), s'.get (s.n + 1) = .map (encM bln A) ∧ ∀ i, lk A i = if i ∈ P then some true else none
  c0 : s'.get s.n = .cells [.v (.bool false)]
  c2 : s'.get (s.n + 2) = .cells [.m (s.n + 1)]
  c3 : s'.get (s.n + 3) = .cells [z]
  nd : P.Nodup
  n : s.n + 6 ≤ s'.n
  old : ∀ x, x < s.n → s'.get x = s.get x
theorem AptI.keep {s : AState} {z : AV} {P : List Int} {s' s2 : AState} (h : AptI s z P s') (hn : s'.n ≤ s2.n) (hk : ∀ x, x < s'.n → x ≠ s.n + 5 → s2.get x = s'.get x) : AptI s z P s2 := by
  obtain ⟨⟨A, m1, m2⟩, c0, c2, c3, nd, n, old⟩ := h
  exact ⟨⟨A, (hk _ (by omega) (by omega)).trans m1, m2⟩, (hk _ (by omega) (by omega)).trans c0, (hk _ (by omega) (by omega)).trans c2, (hk _ (by omega) (by omega)).trans c3, nd, by omega, fun x hx => (hk _ (by omega) (by omega)).trans (old x hx)⟩
structure AptJ (s : AState) (Ms : List (List (Int × LogV))) (j : AJump) (s' : AState) : Prop where
  j : j = .ret
  c0 : s'.get s.n = .cells [.v (.bool false)]
  nd : ¬ (idsA Ms).Nodup
  n : s.n + 6 ≤ s'.n
  old : ∀ x, x < s.n → s'.get x = s.get x
theorem AptJ.keep {s : AState} {Ms : List (List (Int × LogV))} {j : AJump} {s' s2 : AState} (h : AptJ s Ms j s') (hn : s'.n ≤ s2.n) (hk : ∀ x, x ≤ s.n → s2.get x = s'.get x) : AptJ s Ms j s2 := by
  obtain ⟨e, c0, nd, n, old⟩ := h
  exact ⟨e, (hk _ (Nat.le_refl _)).trans c0, nd, by omega, fun x hx => (hk _ (by omega)).trans (old x hx)⟩
structure AptK (s : AState) (z : AV) (P : List Int) (c : Nat) (zc : AV) (LB : AObj) (s' : AState) : Prop where
  i : AptI s z P s'
  cc : s'.get c = .cells [zc]
  l : s'.get (s.n + 5) = LB
  d : s'.get (s.n + 4) = .defd
  n : c + 1 < s'.n
structure AptL (s : AState) (Ms : List (List (Int × LogV))) (LB : AObj) (j : AJump) (s' : AState) : Prop where
  i : AptJ s Ms j s'
  l : s'.get (s.n + 5) = LB
  d : s'.get (s.n + 4) = .defd
theorem idsA_split {Ms : List (List (Int × LogV))} {k m : Nat} (hk : k < Ms.length) (hm : m < (idsM Ms[k]).length) : ∃ R, idsA Ms = (idsA (Ms.take k) ++ (idsM Ms[k]).take m) ++ (idsM Ms[k])[m] :: R := by
  have e : Ms = Ms.take k ++ Ms[k] :: Ms.drop (k + 1) := by rw [List.getElem_cons_drop]; simp
  have e2 : idsM Ms[k] = (idsM Ms[k]).take m ++ (idsM Ms[k])[m] :: (idsM Ms[k]).drop (m + 1) := by rw [List.getElem_cons_drop]; simp
  refine ⟨(idsM Ms[k]).drop (m + 1) ++ idsA (Ms.drop (k + 1)), ?_⟩
  have e3 : idsA Ms = idsA (Ms.take k) ++ (idsM Ms[k] ++ idsA (Ms.drop (k + 1))) := by
    have := congrArg idsA e
    rw [this]; simp only [idsA, List.flatMap_append, List.flatMap_cons]
  rw [e3, List.append_assoc]
  congr 1
  exact (congrArg (· ++ idsA (Ms.drop (k + 1))) e2).trans (by rw [List.append_assoc, List.cons_append])
theorem idsA_snoc {Ms : List (List (Int × LogV))} {k : Nat} (h : k < Ms.length) : idsA (Ms.take (k + 1)) = idsA (Ms.take k) ++ idsM Ms[k] := by
  have e : Ms.take (k + 1) = Ms.take k ++ [Ms[k]] := (List.take_append_getElem h).symm
  rw [e]; simp only [idsA, List.flatMap_append, List.flatMap_cons, List.flatMap_nil, List.append_nil]
end Go.Ab
namespace Go.Proofs.YtmpoeamfcienoaaGreat
open Go.Ab
set_option linter.unusedVariables false
set_option linter.unusedSimpArgs false
set_option maxRecDepth 100000
set_option maxHeartbeats 1000000
theorem ct_join_Apart {bs : List Nat} {Ms : List (List (Int × LogV))} {s : AState} (hB : LedsAll s bs Ms) (hM : ∀ M ∈ Ms, MOk M) (hsm : ∀ M ∈ Ms, Small M) (hl : bs.length ≤ 1000000) :
    Gives prog F_join_Apart [.sl (bs.map fun n => .p n 0) .no] s (.v (.bool (decide (idsA Ms).Nodup))) s := by
  refine Runs.gives (runs_e h_join_Apart (Nat.le_of_ble_eq_true rfl) ?_) (.v _)
  refine st0 ?_
  refine gv (ct_slices_Values_Ledger (xs := bs.map fun n => .p n 0)) ?_
  refine st0 ?_
  have hit := it_slices_Values_Ledger (bs.map fun n => .p n 0) (.ptrs _) (s.n + 3) (by simp; omega)
  have hlB := hB.1
  have hsn : ((((s.alloc (.cells [.v (.bool false)])).alloc (.map [])).alloc (.cells [.m (s.n + 1)])).alloc (.cells [.sl (bs.map fun n => .p n 0) .no])).n = s.n + 4 := by simp
  refine w_rangeS (m := bs.length) (by simp) hit (by intro x hx; obtain ⟨p, _, rfl⟩ := List.mem_map.1 hx; rfl) (by simp) (fun k s' => AptI s (.sl (bs.map fun n => .p n 0) .no) (idsA (Ms.take k)) s') (fun j s' => AptJ s Ms j s') ?_ ?_ ?_ ?_ ?_ ?_ ?_
  · intro LR
    exact ⟨⟨[], by simp (disch := first | omega | (simp <;> omega) | fail) [encM], fun i => by simp [idsA, lk]⟩, dz0, dz0, dz0, by simp [idsA], by simp, fun x hx => dz0⟩
  · intro k s' h; exact h.c3
  · intro k s' o hn h; exact h.keep (by simp) fun x hx _ => get_alloc_ne (by omega)
  · intro j s' o hn h; exact h.keep (by simp) fun x hx => get_alloc_ne (by have := h.n; omega)
  · intro LR LB LJ hLB hLR k hkk s' hdd hLL hln hI
    have hk : k < bs.length := by simpa using hkk
    have hkM : k < Ms.length := by omega
    rw [idsA_snoc hkM]
    have hspl := fun m hm => idsA_split (m := m) hkM hm
    generalize idsA (Ms.take k) = P at hI hspl ⊢
    simp only [hsn, List.getElem_map, List.zip_cons_cons, List.zip_nil_right, List.reverse_cons, List.reverse_nil, List.nil_append, List.cons_append] at hdd hLL hln ⊢
    obtain ⟨Fs, hs1, hs2⟩ := hB.2 k hk hkM
    have oM := hM _ (List.getElem_mem hkM)
    have sM := hsm _ (List.getElem_mem hkM)
    have hlen := sM.len
    have hI2 : AptI s (.sl (bs.map fun n => .p n 0) .no) P (s'.set (s.n + 4 + 1) LB) := hI.keep (by simp) fun x hx hn => dz1 hn
    have k2 : (s'.set (s.n + 4 + 1) LB).get (s.n + 4 + 1) = LB := dz0
    have k4 : (s'.set (s.n + 4 + 1) LB).get (s.n + 4) = .defd := dz1 hdd
    refine st1 hLL ?_
    clear hI hLL hdd hln
    generalize s'.set (s.n + 4 + 1) LB = s4 at k2 k4 hI2 ⊢
    refine gv (ct_ledger_Ledger_Groups (hs1.keep fun x hx => hI2.old x (hs2 x hx)) oM sM) ?_
    refine st0 ?_
    refine gv (ct_slices_Values_Group (xs := (grpsL Ms[k]).map Grp.av)) ?_
    refine st0 ?_
    have hn4 := hI2.n
    have hgl : (grpsL Ms[k]).length < 9223372036854775808 := by simp only [grpsL, List.length_map]; omega
    have hit2 := it_slices_Values_Group (grpsL Ms[k]) s4.n hgl
    have hil : (idsM Ms[k]).length = (grpsL Ms[k]).length := by simp [idsM]
    refine w_rangeSI (l0 := s.n + 4 + 1) (LO := LB) (dz1 k2) hLB (m := (grpsL Ms[k]).length) (by simp) hit2 (by intro x hx; obtain ⟨p, _, rfl⟩ := List.mem_map.1 hx; rfl) (by simp)
      (fun m s2 => AptK s (.sl (bs.map fun n => .p n 0) .no) (P ++ (idsM Ms[k]).take m) s4.n (.sl ((grpsL Ms[k]).map Grp.av) .no) LB s2) (fun j s2 => AptL s Ms LB j s2) ?_ ?_ ?_ ?_ ?_ ?_ ?_
    · intro LR2
      exact ⟨by rw [List.take_zero, List.append_nil]; exact hI2.keep (by simp; omega) fun x hx hn => dz0, dz0, dz1 k2, dz1 k4, by simp⟩
    · intro m s2 h; exact h.cc
    · rintro m s2 o hn ⟨h1, h2, h3, h4, h5⟩
      exact ⟨h1.keep (by simp) fun x hx _ => get_alloc_ne (by omega), by rw [get_alloc_ne (by omega)]; exact h2, by rw [get_alloc_ne (by omega)]; exact h3, by rw [get_alloc_ne (by omega)]; exact h4, by simp; omega⟩
    · rintro j s2 o hn ⟨h1, h2, h3⟩
      have := h1.n
      exact ⟨h1.keep (by simp) fun x hx => get_alloc_ne (by omega), by rw [get_alloc_ne (by omega)]; exact h2, by rw [get_alloc_ne (by omega)]; exact h3⟩
    · intro LR2 LB2 LJ2 hLB2 hLR2 m hmm s2 hLL2 hln2 hK
      have hm : m < (grpsL Ms[k]).length := by simpa using hmm
      have hmi : m < (idsM Ms[k]).length := by omega
      obtain ⟨R, hR⟩ := hspl m hmi
      have hid : (idsM Ms[k])[m] = (grpsL Ms[k])[m].id := by simp [idsM]
      have htk : (idsM Ms[k]).take (m + 1) = (idsM Ms[k]).take m ++ [(grpsL Ms[k])[m].id] := by rw [← hid]; exact (List.take_append_getElem hmi).symm
      rw [hid] at hR
      rw [htk, ← List.append_assoc]
      generalize P ++ (idsM Ms[k]).take m = P2 at hK hR ⊢
      have hc5 : s4.n + 1 < s2.n := hK.n
      simp only [List.getElem_map, AState.n_alloc, List.zip_cons_cons, List.zip_nil_right, List.reverse_cons, List.reverse_nil, List.nil_append, List.cons_append] at hLL2 hln2 ⊢
      obtain ⟨⟨⟨A, a1, a2⟩, c0, c2, c3, nd, n, old⟩, cc, kl, kd, kn⟩ := hK
      refine st2 hLL2 c2 ?_
      generalize hg : (grpsL Ms[k])[m] = g at hR ⊢
      have q0 : ((s2.set (s4.n + 1) LB2).alloc (.cells g.cells)).get s.n = _ := (by simp (disch := first | omega | (simp <;> omega) | fail) : _ = s2.get s.n).trans c0
      have q1 : ((s2.set (s4.n + 1) LB2).alloc (.cells g.cells)).get (s.n + 1) = _ := (by simp (disch := first | omega | (simp <;> omega) | fail) : _ = s2.get (s.n + 1)).trans a1
      have q2 : ((s2.set (s4.n + 1) LB2).alloc (.cells g.cells)).get (s.n + 2) = _ := (by simp (disch := first | omega | (simp <;> omega) | fail) : _ = s2.get (s.n + 2)).trans c2
      have q3 : ((s2.set (s4.n + 1) LB2).alloc (.cells g.cells)).get (s.n + 3) = _ := (by simp (disch := first | omega | (simp <;> omega) | fail) : _ = s2.get (s.n + 3)).trans c3
      have q4 : ((s2.set (s4.n + 1) LB2).alloc (.cells g.cells)).get (s.n + 4) = _ := (by simp (disch := first | omega | (simp <;> omega) | fail) : _ = s2.get (s.n + 4)).trans kd
      have q5 : ((s2.set (s4.n + 1) LB2).alloc (.cells g.cells)).get (s.n + 5) = _ := (by simp (disch := first | omega | (simp <;> omega) | fail) : _ = s2.get (s.n + 5)).trans kl
      have q6 : ((s2.set (s4.n + 1) LB2).alloc (.cells g.cells)).get s4.n = _ := (by simp (disch := first | omega | (simp <;> omega) | fail) : _ = s2.get s4.n).trans cc
      have q7 : ((s2.set (s4.n + 1) LB2).alloc (.cells g.cells)).get (s4.n + 1) = LB2 := dz0
      have q8 : ((s2.set (s4.n + 1) LB2).alloc (.cells g.cells)).get s2.n = .cells g.cells := dz0
      have q9 : ∀ x, x < s.n → ((s2.set (s4.n + 1) LB2).alloc (.cells g.cells)).get x = s.get x := fun x hx => (by simp (disch := first | omega | (simp <;> omega) | fail) : _ = s2.get x).trans (old x hx)
      have qn : ((s2.set (s4.n + 1) LB2).alloc (.cells g.cells)).n = s2.n + 1 := by simp
      generalize (s2.set (s4.n + 1) LB2).alloc (.cells g.cells) = s3 at q0 q1 q2 q3 q4 q5 q6 q7 q8 q9 qn ⊢
      refine m_look (κ := Int) (A := A) (k := g.id) (b := s.n + 1) (enc := bln) (by simp) q1 (by simp; rfl) ?_
      have hlv : lkV bln A g.id (.v (.bool false)) false = .v (.bool (decide (g.id ∈ P2))) := by
        unfold lkV; rw [a2]
        by_cases h : g.id ∈ P2 <;> simp [h, bln]
      rw [hlv]
      by_cases hin : g.id ∈ P2
      · have hnd : ¬ (idsA Ms).Nodup := fun h => by
          rw [hR] at h
          exact (List.nodup_append.1 h).2.2 _ hin _ (by simp) rfl
        refine st3 hin q0 q7 ?_
        refine fins_j (fun d hd => by cases hd) (dz0) ⟨⟨rfl, dz1 q0, hnd, by simp; omega, fun x hx => dz1 (q9 x hx)⟩, dz1 q5, dz1 q4⟩
      · refine st3 hin q2 q8 ?_
        refine m_mset (κ := Int) (A := A) (k := g.id) (v := true) (b := s.n + 1) (enc := bln) (by simp) q1 (by simp; rfl) (by simp [bln]) ?_
        refine st1 q7 ?_
        refine fins_n (fun d hd => by cases hd) (dz0) ⟨⟨⟨setM A g.id true, dz0, fun i => ?_⟩, dz1 q0, dz1 q2, dz1 q3, ?_, by simp; omega, fun x hx => dz1 (q9 x hx)⟩, dz1 q6, dz1 q5, dz1 q4, by simp; omega⟩
        · rw [lk_setM, a2]
          by_cases e : i = g.id
          · simp [e]
          · simp [e]
        · rw [List.nodup_append]
          exact ⟨nd, by simp, fun a ha b hb e => by simp at hb; rw [e, hb] at ha; exact hin ha⟩
    · intro s2 hln2 hK
      rw [List.take_of_length_le (by omega)] at hK
      obtain ⟨h1, h2, h3, h4, h5⟩ := hK
      refine st1 h3 ?_
      have hn1 := h1.n
      refine fins_n (fun d hd => by cases hd; simp (disch := first | omega | (simp <;> omega) | fail) [h4]) (dz0) ?_
      obtain ⟨⟨A, a1, a2⟩, c0, c2, c3, nd, n, old⟩ := h1
      exact ⟨⟨A, dz1 a1, a2⟩, dz1 c0, dz1 c2, dz1 c3, nd, by simpa using n, fun x hx => dz1 (old x hx)⟩
    · rintro j s2 hln2 ⟨h1, h2, h3⟩
      obtain ⟨rfl, c0, nd, n, old⟩ := h1
      simp only [AJump.exitOf]
      refine st1 h2 ?_
      refine fins_j (fun d hd => by cases hd; simp (disch := first | omega | (simp <;> omega) | fail) [h3]) (dz0) ⟨rfl, dz1 c0, nd, by simpa using n, fun x hx => dz1 (old x hx)⟩
  · rintro s' hdd hln hI
    rw [List.take_of_length_le (by omega)] at hI
    simp only [hsn] at hdd hln ⊢
    obtain ⟨⟨A, a1, a2⟩, c0, c2, c3, nd, n, old⟩ := hI
    refine st1 c0 ?_
    refine ret_okD (dz1 hdd) (by simp) (by simp (disch := first | omega | (simp <;> omega) | fail) [killAll]; rfl) ⟨⟨by simp [killAll]; omega, fun x hx => .inl ?_⟩, ?_⟩
    · simp (disch := first | omega | (simp <;> omega) | fail) [killAll, old x hx]
    · simp [retVal, nd]; exact .refl _
  · rintro j s' hdd hln hJ
    obtain ⟨rfl, c0, nd, n, old⟩ := hJ
    simp only [hsn, AJump.exitOf] at hdd hln ⊢
    refine st1 c0 ?_
    refine ret_okD (dz1 hdd) (by simp) (by simp (disch := first | omega | (simp <;> omega) | fail) [killAll, c0]; rfl) ⟨⟨by simp [killAll]; omega, fun x hx => .inl ?_⟩, ?_⟩
    · simp (disch := first | omega | (simp <;> omega) | fail) [killAll, old x hx]
    · simp [retVal, nd]; exact .refl _
end Go.Proofs.YtmpoeamfcienoaaGreat
end
section
namespace Go.Ab
set_option linter.unusedVariables false
set_option linter.unusedSimpArgs false
def jA : List Prt := [⟨4, 2, [], 1, 0, 0, 0, 0, false, false⟩]
def jB : List Prt := [⟨2, 2, [], 0, 0, 0, 0, 0, false, false⟩]
def jM : List (Int × LogV) := doL [] jA ⟨1, 0⟩
def jN : List (Int × LogV) := doL [] jB ⟨2, 0⟩
theorem jM_ok : MOk jM := MOk.nil'.doL _ _
theorem jN_ok : MOk jN := MOk.nil'.doL _ _
theorem jJ_sp : spotsM (joinL [jM, jN]) = [⟨2, -1, 2, 0⟩, ⟨4, -1, 1, 0⟩] := by kernel_rfl
theorem jJ_g : (grpsL (joinL [jM, jN])).length = 2 := by kernel_rfl
theorem jM_sp : (spotsM jM).length = 1 := by kernel_rfl
theorem jN_sp : (spotsM jN).length = 1 := by kernel_rfl
theorem jAp : decide (idsA [jM, jN]).Nodup = true := by kernel_rfl
theorem jAq : decide (idsA [jM, jM]).Nodup = false := by kernel_rfl
theorem LedsAll.of2 {s : AState} {a b : Nat} {M N : List (Int × LogV)} {F G : List Nat} (h : LedAt s a M F) (k : LedAt s b N G) : LedsAll s [a, b] [M, N] := by
  refine ⟨rfl, fun i h1 h2 => ?_⟩
  match i, h1 with
  | 0, _ => exact ⟨F, h, h.lt⟩
  | 1, _ => exact ⟨G, k, k.lt⟩
end Go.Ab
namespace Go.Proofs.YtmpoeamfcienoaaGreat
open Go.Ab
set_option linter.unusedVariables false
set_option linter.unusedSimpArgs false
set_option maxRecDepth 100000
set_option maxHeartbeats 1000000
theorem ct_ladelaw20_known {s : AState} : Gives prog F_ladelaw20_known [] s (.v (.bool true)) s := by
  refine Runs.gives (runs_e h_ladelaw20_known (Nat.le_of_ble_eq_true rfl) ?_) (.v _)
  repeat (first | simp -dsimp -implicitDefEqProofs (disch := first | omega | (simp <;> omega) | fail) | ((with_reducible first | apply m_1 | apply m_0); (focus ((conv => lhs; simp -dsimp -implicitDefEqProofs (disch := first | omega | (simp <;> omega) | fail)); done))) | ((with_reducible first | apply i_T | apply g_T); (focus (simp -dsimp -implicitDefEqProofs (disch := first | omega | (simp <;> omega) | fail); done))) | ((with_reducible first | apply i_F | apply g_F); (focus (simp -dsimp -implicitDefEqProofs (disch := first | omega | (simp <;> omega) | fail); done))))
  refine run (rn_ledger_New) (by first | (simp; done) | rfl | (simp; rfl)) ?_
  rintro _ s1 ⟨a, F, rfl, h1, h2, h3⟩
  repeat (first | simp -dsimp -implicitDefEqProofs (disch := first | omega | (simp <;> omega) | fail) | ((with_reducible first | apply m_1 | apply m_0); (focus ((conv => lhs; simp -dsimp -implicitDefEqProofs (disch := first | omega | (simp <;> omega) | fail)); done))) | ((with_reducible first | apply i_T | apply g_T); (focus (simp -dsimp -implicitDefEqProofs (disch := first | omega | (simp <;> omega) | fail); done))) | ((with_reducible first | apply i_F | apply g_F); (focus (simp -dsimp -implicitDefEqProofs (disch := first | omega | (simp <;> omega) | fail); done))))
  refine run (rn_ledger_New) (by first | (simp; done) | rfl | (simp; rfl)) ?_
  rintro _ s2 ⟨b, G, rfl, k1, k2, k3⟩
  have hGF : ∀ x ∈ G, x ∉ F := fun x hx hm => by have := k3 x hx; have := h1.lt x hm; omega
  have h1' := h1.keep fun x hx => k2.get (h1.lt x hx)
  repeat (first | simp -dsimp -implicitDefEqProofs (disch := first | omega | (simp <;> omega) | fail) | ((with_reducible first | apply m_1 | apply m_0); (focus ((conv => lhs; simp -dsimp -implicitDefEqProofs (disch := first | omega | (simp <;> omega) | fail)); done))) | ((with_reducible first | apply i_T | apply g_T); (focus (simp -dsimp -implicitDefEqProofs (disch := first | omega | (simp <;> omega) | fail); done))) | ((with_reducible first | apply i_F | apply g_F); (focus (simp -dsimp -implicitDefEqProofs (disch := first | omega | (simp <;> omega) | fail); done))))
  refine runS (rn_ledger_Ledger_Do (l := jA) (at_ := ⟨1, 0⟩) h1' MOk.nil'.gok (by decide) (by decide)) ?_
  rintro _ s3 ⟨F3, h4, m3⟩
  have k1' := k1.keep (m3.get hGF k1.lt)
  have hGF3 := m3.apart hGF k1.lt
  repeat (first | simp -dsimp -implicitDefEqProofs (disch := first | omega | (simp <;> omega) | fail) | ((with_reducible first | apply m_1 | apply m_0); (focus ((conv => lhs; simp -dsimp -implicitDefEqProofs (disch := first | omega | (simp <;> omega) | fail)); done))) | ((with_reducible first | apply i_T | apply g_T); (focus (simp -dsimp -implicitDefEqProofs (disch := first | omega | (simp <;> omega) | fail); done))) | ((with_reducible first | apply i_F | apply g_F); (focus (simp -dsimp -implicitDefEqProofs (disch := first | omega | (simp <;> omega) | fail); done))))
  refine runS (rn_ledger_Ledger_Do (l := jB) (at_ := ⟨2, 0⟩) k1' MOk.nil'.gok (by decide) (by decide)) ?_
  rintro _ s4 ⟨G4, k4, m4⟩
  have h4' := h4.keep (m4.get (fun x hx hm => hGF3 x hm hx) h4.lt)
  have all4 : LedsAll s4 [a, b] [jM, jN] := .of2 h4' k4
  repeat (first | simp -dsimp -implicitDefEqProofs (disch := first | omega | (simp <;> omega) | fail) | ((with_reducible first | apply m_1 | apply m_0); (focus ((conv => lhs; simp -dsimp -implicitDefEqProofs (disch := first | omega | (simp <;> omega) | fail)); done))) | ((with_reducible first | apply i_T | apply g_T); (focus (simp -dsimp -implicitDefEqProofs (disch := first | omega | (simp <;> omega) | fail); done))) | ((with_reducible first | apply i_F | apply g_F); (focus (simp -dsimp -implicitDefEqProofs (disch := first | omega | (simp <;> omega) | fail); done))))
  refine runS (rn_join_Of all4 (by intro M hM; simp at hM; rcases hM with rfl | rfl; exact jM_ok; exact jN_ok) (by simp)) ?_
  rintro _ s5 ⟨c, H, rfl, j1, m5⟩
  have oJ : MOk (joinL [jM, jN]) := MOk.joinL (by intro M hM; simp at hM; rcases hM with rfl | rfl; exact jM_ok; exact jN_ok)
  have smJ : Small (joinL [jM, jN]) := oJ.small (by rw [jJ_sp]; simp)
  repeat (first | simp -dsimp -implicitDefEqProofs (disch := first | omega | (simp <;> omega) | fail) | ((with_reducible first | apply m_1 | apply m_0); (focus ((conv => lhs; simp -dsimp -implicitDefEqProofs (disch := first | omega | (simp <;> omega) | fail)); done))) | ((with_reducible first | apply i_T | apply g_T); (focus (simp -dsimp -implicitDefEqProofs (disch := first | omega | (simp <;> omega) | fail); done))) | ((with_reducible first | apply i_F | apply g_F); (focus (simp -dsimp -implicitDefEqProofs (disch := first | omega | (simp <;> omega) | fail); done))))
  refine giv (ct_ledger_Ledger_Spots j1 oJ smJ) (by first | (simp; done) | rfl | (simp; rfl)) ?_
  rw [jJ_sp]
  repeat (first | simp -dsimp -implicitDefEqProofs (disch := first | omega | (simp <;> omega) | fail) | ((with_reducible first | apply m_1 | apply m_0); (focus ((conv => lhs; simp -dsimp -implicitDefEqProofs (disch := first | omega | (simp <;> omega) | fail)); done))) | ((with_reducible first | apply i_T | apply g_T); (focus (simp -dsimp -implicitDefEqProofs (disch := first | omega | (simp <;> omega) | fail); done))) | ((with_reducible first | apply i_F | apply g_F); (focus (simp -dsimp -implicitDefEqProofs (disch := first | omega | (simp <;> omega) | fail); done))))
  refine runS (rn_join_Of (bs := []) (Ms := []) ⟨rfl, fun i h => absurd h (Nat.not_lt_zero _)⟩ (by simp) (by simp)) ?_
  rintro _ s6 ⟨d, I, rfl, i1, m6⟩
  have j1' := j1.keep (m6.get (by simp) j1.lt)
  repeat (first | simp -dsimp -implicitDefEqProofs (disch := first | omega | (simp <;> omega) | fail) | ((with_reducible first | apply m_1 | apply m_0); (focus ((conv => lhs; simp -dsimp -implicitDefEqProofs (disch := first | omega | (simp <;> omega) | fail)); done))) | ((with_reducible first | apply i_T | apply g_T); (focus (simp -dsimp -implicitDefEqProofs (disch := first | omega | (simp <;> omega) | fail); done))) | ((with_reducible first | apply i_F | apply g_F); (focus (simp -dsimp -implicitDefEqProofs (disch := first | omega | (simp <;> omega) | fail); done))))
  refine giv (ct_ledger_Ledger_Groups j1' oJ smJ) (by first | (simp; done) | rfl | (simp; rfl)) ?_
  repeat (first | simp -dsimp -implicitDefEqProofs (disch := first | omega | (simp <;> omega) | fail) [jJ_g] | ((with_reducible first | apply m_1 | apply m_0); (focus ((conv => lhs; simp -dsimp -implicitDefEqProofs (disch := first | omega | (simp <;> omega) | fail) [jJ_g]); done))) | ((with_reducible first | apply i_T | apply g_T); (focus (simp -dsimp -implicitDefEqProofs (disch := first | omega | (simp <;> omega) | fail) [jJ_g]; done))) | ((with_reducible first | apply i_F | apply g_F); (focus (simp -dsimp -implicitDefEqProofs (disch := first | omega | (simp <;> omega) | fail) [jJ_g]; done))))
  have oE : MOk (joinL []) := MOk.nil'
  have smE : Small (joinL []) := oE.small (by simp [joinL, spotsM])
  refine giv (ct_ledger_Ledger_Groups i1 oE smE) (by first | (simp; done) | rfl | (simp; rfl)) ?_
  have all5 : LedsAll s6 [a, b] [jM, jN] := (all4.keep m5.n fun x hx => m5.keep x hx (by simp)).keep m6.n fun x hx => m6.keep x hx (by simp)
  have all6 : LedsAll s6 [a, a] [jM, jM] := by
    obtain ⟨Fa, ha, -⟩ := all5.2 0 (by simp) (by simp)
    exact .of2 ha ha
  have sM : Small jM := jM_ok.small (by rw [jM_sp]; omega)
  have sN : Small jN := jN_ok.small (by rw [jN_sp]; omega)
  have hE : (grpsL (joinL [])).length = 0 := rfl
  repeat (first | simp -dsimp -implicitDefEqProofs (disch := first | omega | (simp <;> omega) | fail) [hE] | ((with_reducible first | apply m_1 | apply m_0); (focus ((conv => lhs; simp -dsimp -implicitDefEqProofs (disch := first | omega | (simp <;> omega) | fail) [hE]); done))) | ((with_reducible first | apply i_T | apply g_T); (focus (simp -dsimp -implicitDefEqProofs (disch := first | omega | (simp <;> omega) | fail) [hE]; done))) | ((with_reducible first | apply i_F | apply g_F); (focus (simp -dsimp -implicitDefEqProofs (disch := first | omega | (simp <;> omega) | fail) [hE]; done))))
  refine gv (ct_join_Apart all5 (by intro M hM; simp at hM; rcases hM with rfl | rfl; exact jM_ok; exact jN_ok) (by intro M hM; simp at hM; rcases hM with rfl | rfl; exact sM; exact sN) (by simp)) ?_
  rw [jAp]
  refine st0 ?_
  refine gv (ct_join_Apart all6 (by intro M hM; simp at hM; subst hM; exact jM_ok) (by intro M hM; simp at hM; subst hM; exact sM) (by simp)) ?_
  rw [jAq]
  refine st0 ?_
  have mt : Mut [] [] s s6 := by
    have e1 := (Mut.new h2 h3).trans (by simpa using (Mut.new k2 k3).more F : Mut F (G ++ F) s1 s2)
    have e2 := (e1.trans (m3.moreL G)).trans (m4.more F3)
    exact ((e2.sub (by simp)).trans (m5.sub (by simp))).trans (m6.sub (by simp))
  exact ret_ok rfl ⟨⟨mt.n, fun x hx => .inl (mt.keep x hx (by simp)).symm⟩, .refl _⟩
end Go.Proofs.YtmpoeamfcienoaaGreat
end
section
namespace Go.Proofs.YtmpoeamfcienoaaGreat
open Go.Ab
set_option linter.unusedVariables false
set_option linter.unusedSimpArgs false
theorem flat_split (l : List Fnd) (i n : Int) : flatP (fpl (splitI l i n)) = (flatP (fpl l)).filter fun x => mineP i n x.1 := by
  induction l with
  | nil => rfl
  | cons f l ih =>
    have e1 : flatP (fpl (f :: l)) = (f.ps.map fun p => (p, (⟨f.sg, f.at_⟩ : Plc))) ++ flatP (fpl l) := rfl
    have e2 : (f.ps.map fun p => (p, (⟨f.sg, f.at_⟩ : Plc))).filter (fun x => mineP i n x.1) = (f.ps.filter (mineP i n)).map fun p => (p, (⟨f.sg, f.at_⟩ : Plc)) := by rw [List.filter_map]; rfl
    rw [e1, List.filter_append, e2, ← ih]
    cases h : f.ps.filter (mineP i n) with
    | nil =>
      have : splitI (f :: l) i n = splitI l i n := by
        unfold splitI
        rw [List.map_cons, List.filter_cons_of_neg (by simp [pickF, h])]
      rw [this]; rfl
    | cons p ps =>
      have : splitI (f :: l) i n = pickF i n f :: splitI l i n := by
        unfold splitI
        rw [List.map_cons, List.filter_cons_of_pos (by simp [pickF, h])]
      rw [this, ← h]; rfl
theorem lk_split (l : List Fnd) (i n g : Int) : lk (runL [] (fpl (splitI l i n))) g = if ofG g n = i then lk (runL [] (fpl l)) g else none := by
  rw [lk_runL, flat_split]
  by_cases h : ofG g n = i
  · rw [if_pos h, fold_filter g _ fun x hx => by simp [mineP, hx, h], lk_runL]
  · rw [if_neg h, fold_none]
    · rfl
    · intro x hx e
      have := (List.mem_filter.1 hx).2
      simp only [mineP, decide_eq_true_eq, e] at this
      exact h this
theorem outs_eq (l : List Fnd) (n : Int) : outs (split l n) (List.replicate (held n).toNat []) = (List.range (held n).toNat).map fun i : Nat => runL [] (fpl (splitI l i n)) :=
  List.ext_getElem (by simp [outs, split]) fun j h1 h2 => by simp [outs, split]
theorem outs_ok (l : List Fnd) (n : Int) : ∀ M ∈ outs (split l n) (List.replicate (held n).toNat []), MOk M := gs_outs (gs_new _)
theorem ofG_rng (g n : Int) : 0 ≤ ofG g n ∧ ofG g n < held n := by
  have hh := held_pos n
  unfold ofG
  exact ⟨Int.tmod_nonneg _ (by split <;> omega), Int.tmod_lt_of_pos _ (by omega)⟩
theorem join_all (l : List Fnd) (n : Int) : joinL (outs (split l n) (List.replicate (held n).toNat [])) = runL [] (fpl l) := by
  refine (MOk.joinL (outs_ok l n)).1.ext (MOk.nil'.runL (fpl l)).1 fun g => ?_
  rw [lk_joinL g (outs_ok l n), outs_eq]
  have hr := ofG_rng g n
  obtain ⟨i, hi⟩ : ∃ i : Nat, (i : Int) = ofG g n := ⟨(ofG g n).toNat, by omega⟩
  have hmem : runL [] (fpl (splitI l i n)) ∈ (List.range (held n).toNat).map fun i : Nat => runL [] (fpl (splitI l i n)) := List.mem_map.2 ⟨i, List.mem_range.2 (by omega), rfl⟩
  cases hf : (((List.range (held n).toNat).map fun i : Nat => runL [] (fpl (splitI l i n))).findSome? fun M => lk M g) with
  | none =>
    have := List.findSome?_eq_none_iff.1 hf _ hmem
    rw [lk_split, if_pos hi.symm] at this
    exact this.symm
  | some v =>
    obtain ⟨M, hM, e⟩ := List.exists_of_findSome?_eq_some hf
    obtain ⟨j, _, rfl⟩ := List.mem_map.1 hM
    rw [lk_split] at e
    split at e
    · exact e.symm
    · cases e
theorem idsM_keys {M : List (Int × LogV)} (h : MOk M) : idsM M = M.map (·.1) := by
  unfold idsM grpsL
  rw [List.map_map]
  exact List.map_congr_left fun x hx => (h.2 x hx).id
theorem apart_all (l : List Fnd) (n : Int) : (idsA (outs (split l n) (List.replicate (held n).toNat []))).Nodup := by
  have ok := outs_ok l n
  unfold idsA
  rw [List.Nodup, List.pairwise_flatMap]
  refine ⟨fun M hM => by rw [idsM_keys (ok M hM)]; exact (ok M hM).1.nodup, ?_⟩
  rw [outs_eq] at ok ⊢
  rw [List.pairwise_map]
  refine List.pairwise_iff_getElem.2 fun a b ha hb hab g h1 g' h2 e => ?_
  subst e
  simp only [List.getElem_range] at h1 h2
  have key : ∀ i : Nat, i < (held n).toNat → g ∈ idsM (runL [] (fpl (splitI l i n))) → ofG g n = i := fun i hi hg => by
    rw [idsM_keys (MOk.nil'.runL _)] at hg
    by_cases e : ofG g n = i
    · exact e
    · exact absurd hg (lk_none.1 (by rw [lk_split, if_neg e]))
  have e1 := key a (by simpa using ha) h1
  have e2 := key b (by simpa using hb) h2
  omega
end Go.Proofs.YtmpoeamfcienoaaGreat
end
section
namespace Go.Proofs.YtmpoeamfcienoaaGreat
open Go.Ab
set_option linter.unusedVariables false
set_option linter.unusedSimpArgs false
set_option maxRecDepth 100000
set_option maxHeartbeats 1000000
theorem runF_sp {l : List Fnd} (h : fewFound l = true) (j : Nat) : (spotsM (runL [] ((fpl l).take j))).length ≤ 60 * l.length := by
  obtain ⟨h1, h2, h3⟩ := fewFound_len h
  have := runL_sp (l := (fpl l).take j) (fun x hx => by obtain ⟨f, hf, rfl⟩ := List.mem_map.1 (List.mem_of_mem_take hx); exact ⟨h2 f hf, h3 f hf⟩) MOk.nil'
  have e : ((fpl l).take j).length ≤ l.length := by simp [fpl]; omega
  have e2 : (spotsM []).length = 0 := rfl
  omega
theorem rn_laderef18_All {l : List Fnd} {s : AState} (hf : fewFound l = true) :
    Runs (compCode prog) prog F_laderef18_All [.sl (l.map Fnd.av) .no] s (fun x s' => ∃ b, x = .p b 0 ∧ RefAt s' b (grpsL (runL [] (fpl l))) (spotsM (runL [] (fpl l))) ∧ Mut [] [b] s s') := by
  obtain ⟨f1, f2, f3⟩ := fewFound_len hf
  refine runs_e h_laderef18_All (Nat.le_of_ble_eq_true rfl) ?_
  refine st0 ?_
  have hfl : (fpl l).length = l.length := by simp [fpl]
  refine loop_ok [0, 3, 4] (fun r a s3 => ∃ j : Nat, j + r = l.length ∧ RefAt s3 s.n (grpsL (runL [] ((fpl l).take j))) (spotsM (runL [] ((fpl l).take j))) ∧ Mut [] [s.n] s s3 ∧
    a = { t := den 27 [(0, .sl (l.map Fnd.av) .no), (3, .p s.n 0), (4, .v (.int .i64 j))], d := [] }) l.length ?_ ?_
  · exact ⟨0, by simp, ⟨.zero, .zero, by simp [runL, grpsL, spotsM]⟩, ⟨by simp, fun x hx _ => get_alloc_ne (by omega), by simp⟩, by simp⟩
  rintro r a s3 ⟨j, hjr, ref, mt, rfl⟩
  by_cases hlt : j < l.length
  · have w3 : IntKind.wrap .i64 ((j : Int) + 1) = (j : Int) + 1 := wrap_i64 (by omega) (by omega)
    have ok : MOk (runL [] ((fpl l).take j)) := MOk.nil'.runL _
    have sp := runF_sp hf j
    have hlen := ok.len
    have h2 := f2 _ (List.getElem_mem hlt)
    have h3 := f3 _ (List.getElem_mem hlt)
    have hwt := wt_few h2 h3
    have hsn : runL [] ((fpl l).take (j + 1)) = doL (runL [] ((fpl l).take j)) l[j].ps ⟨l[j].sg, l[j].at_⟩ := by rw [runL_snoc (by omega)]; simp [fpl]
    repeat (first | simp -dsimp -implicitDefEqProofs (disch := first | omega | (simp <;> omega) | fail) [hlt] | ((with_reducible first | apply m_1 | apply m_0); (focus ((conv => lhs; simp -dsimp -implicitDefEqProofs (disch := first | omega | (simp <;> omega) | fail) [hlt]); done))) | ((with_reducible first | apply i_T | apply g_T); (focus (simp -dsimp -implicitDefEqProofs (disch := first | omega | (simp <;> omega) | fail) [hlt]; done))) | ((with_reducible first | apply i_F | apply g_F); (focus (simp -dsimp -implicitDefEqProofs (disch := first | omega | (simp <;> omega) | fail) [hlt]; done))))
    refine run (rn_laderef13_Ledger_Do (l := l[j].ps) (at_ := ⟨l[j].sg, l[j].at_⟩) ref (grps_spar ok) (by simp only [grpsL, List.length_map]; omega) (by omega)) (by simp [Plc.av, Plc.cells]) ?_
    rintro _ s4 ⟨r1, r2⟩
    rw [ref_doL ok, ← hsn] at r1
    refine st0 ?_
    exact ⟨r - 1, by omega, j + 1, by omega, r1, mt.trans r2, by simp [w3]⟩
  · have hje : j = l.length := by omega
    subst hje
    rw [List.take_of_length_le (by omega)] at ref
    refine st1 hlt ?_
    exact ret_ok rfl ⟨s.n, rfl, ref, mt⟩
theorem ct_ladelaw20_JoinOne {l : List Fnd} {n : Int} {x : List Int} {s : AState} (hl : (l.length : Int) < 9223372036854775808) (hps : ∀ f ∈ l, (f.ps.length : Int) < 9223372036854775808) (hes : ∀ f ∈ l, ∀ p ∈ f.ps, (p.es.length : Int) < 9223372036854775808)
    (hn : 0 ≤ n ∧ n < 256) (hx : (x.length : Int) < 9223372036854775808) :
    Gives prog F_ladelaw20_JoinOne [.sl (l.map Fnd.av) .no, .v (.int .u8 n), .sl (x.map fun n => .v (.int .u8 n)) .no] s (.v (.bool true)) s := by
  refine Runs.gives (runs_e h_ladelaw20_JoinOne (Nat.le_of_ble_eq_true rfl) ?_) (.v _)
  refine st0 ?_
  refine gv (ct_ladelaw20_known) ?_
  refine st0 ?_
  refine gv (ct_ladelaw20_fewFound hl hps hes) ?_
  cases hf : fewFound l with
  | false =>
    refine st0 ?_
    exact ret_ok rfl ⟨⟨Nat.le_refl _, fun x hx => .inl rfl⟩, .refl _⟩
  | true =>
  by_cases hx1 : (100 : Int) < x.length
  · refine st1 hx1 ?_
    exact ret_ok rfl ⟨⟨Nat.le_refl _, fun x hx => .inl rfl⟩, .refl _⟩
  refine st1 hx1 ?_
  have hr := rem_u8 hn.1 (show (0 : Int) < 64 by omega)
  obtain ⟨k, hk⟩ : ∃ k : Nat, (k : Int) = n.tmod 64 + 1 := ⟨(n.tmod 64 + 1).toNat, by omega⟩
  have hw : IntKind.wrap .i64 (IntKind.wrap .i64 (n.tmod 64) + 1) = k := by rw [wrap_i64 (n := n.tmod 64) (by omega) (by omega), wrap_i64 (by omega) (by omega), hk]
  rw [hw]
  obtain ⟨hl1, hps1, -⟩ := fewFound_len hf
  have few := few_split (k : Int) hf
  have few1 := few_split 1 hf
  have hhk : (held k).toNat = k := by rw [held_id (by omega)]; rfl
  have hh1 : (held 1).toNat = 1 := rfl
  have hsl := split_length l k
  have hsl1 := split_length l 1
  rw [hhk] at hsl
  rw [hh1] at hsl1
  have hsz : (l.length : Int) * 48 ≤ 140737488355328 := by omega
  have hpz : ∀ f ∈ l, (f.ps.length : Int) * 88 ≤ 140737488355328 := fun f hf => by have := hps1 f hf; omega
  have gs := gs_new k
  have gs1 := gs_new 1
  have osp := outs_sp (k := k) few
  have osp1 := outs_sp (k := 1) few1
  have hJ := join_all l k
  have hA := apart_all l k
  have hJ1 := join_all l 1
  rw [hhk] at hJ hA
  rw [hh1] at hJ1
  have okA : MOk (runL [] (fpl l)) := MOk.nil'.runL _
  have spA := runF_sp hf (fpl l).length
  rw [List.take_length] at spA
  have smA : Small (runL [] (fpl l)) := okA.small (by omega)
  refine run (rn_replay_New (l := l) (n := k) hsz hpz) (by simp) ?_
  rintro _ s1 ⟨a, F, rfl, h1, m1⟩
  rw [hhk] at h1
  refine st0 ?_
  refine run (rn_replay_Replay_Run (sc := x) h1 gs few (by omega) (by omega)) (by simp) ?_
  rintro _ s2 ⟨F2, h2, m2⟩
  refine st0 ?_
  obtain ⟨ps, Fp, l1, l2, R1⟩ := rn_replay_Replay_Ledgers h2 (by simp; omega)
  refine run R1 (by simp) ?_
  rintro _ s3 ⟨t3, rfl, hg3⟩
  have hol : (outs (split l k) (List.replicate k [])).length = k := by simp [outs, hsl]
  have hpl : ps.length = k := l1.len.trans hol
  have a3 := l1.all.keep hg3.n fun x hx => hg3.get hx
  refine st0 ?_
  refine runS (rn_join_Of a3 (fun M hM => (osp M hM).1) (by omega)) ?_
  rintro _ s4 ⟨c, H, rfl, j4, m4⟩
  rw [hJ] at j4
  have h3 := h2.keep (s' := s3) fun x hx => hg3.get (h2.lt x hx)
  have h4 := h3.keep (m4.get (by simp) h3.lt)
  refine st0 ?_
  obtain ⟨qs, Fq, l3, l4, R2⟩ := rn_replay_Replay_Ledgers h4 (by simp; omega)
  refine run R2 (by simp) ?_
  rintro _ s5 ⟨t5, rfl, hg5⟩
  have hql : qs.length = k := l3.len.trans hol
  have b5 := l3.all.keep hg5.n fun x hx => hg5.get hx
  have j5 := j4.keep fun x hx => hg5.get (j4.lt x hx)
  refine st0 ?_
  refine gv (ct_join_Apart b5 (fun M hM => (osp M hM).1) (fun M hM => (osp M hM).1.small (by have := (osp M hM).2; omega)) (by omega)) ?_
  rw [decide_eq_true hA]
  refine st0 ?_
  refine rn0 (rn_laderef18_All hf) ?_
  rintro _ s6 ⟨w, rfl, ref, m6⟩
  have j6 := j5.keep (m6.get (by simp) j5.lt)
  obtain ⟨u1, u2, ref⟩ := ref
  have hlg : ((grpsL (runL [] (fpl l))).length : Int) < 9223372036854775808 := by have := smA.len; simp only [grpsL, List.length_map]; omega
  have hes' : ∀ g ∈ grpsL (runL [] (fpl l)), (g.es.length : Int) < 9223372036854775808 := fun g hg => by
    have := (grps_spar okA g hg).len; have := MI_eq; omega
  refine sd1 ref ?_
  refine gv (ct_ledger_Ledger_Groups j6 okA smA) ?_
  refine sd1 ref ?_
  refine gv (ct_laderef6_SameAll (l := grpsL (runL [] (fpl l))) (m := grpsL (runL [] (fpl l))) hlg hes') ?_
  refine sd1 ref ?_
  refine gv (ct_ledger_Ledger_Spots j6 okA smA) ?_
  refine sd1 ref ?_
  refine gv (ct_laderef13_SameSpots (l := spotsM (runL [] (fpl l))) (m := spotsM (runL [] (fpl l))) (by omega)) ?_
  refine sd0 ?_
  refine st0 ?_
  refine run (rn_replay_New (l := l) (n := 1) hsz hpz) (by simp) ?_
  rintro _ s7 ⟨d, G, rfl, g7, m7⟩
  rw [hh1] at g7
  have j7 := j6.keep (m7.get (by simp) j6.lt)
  have hGH : ∀ z ∈ H, z ∉ G := fun z hz hm => by
    have h8 := j6.lt z hz
    rcases m7.own z hm with h9 | h9
    · cases h9
    · omega
  refine st0 ?_
  refine runS (rn_replay_Replay_Run (sc := []) g7 gs1 few1 (by omega) (by simp)) ?_
  rintro _ s8 ⟨G8, g8, m8⟩
  have j8 := j7.keep (m8.get hGH j7.lt)
  refine st0 ?_
  obtain ⟨vs, Fv, l5, l6, R3⟩ := rn_replay_Replay_Ledgers g8 (by simp; omega)
  refine run R3 (by simp) ?_
  rintro _ s9 ⟨t9, rfl, hg9⟩
  have hvl : vs.length = 1 := l5.len.trans (by simp [outs, hsl1])
  have c9 := l5.all.keep hg9.n fun x hx => hg9.get hx
  have j9 := j8.keep fun x hx => hg9.get (j8.lt x hx)
  refine st0 ?_
  refine runS (rn_join_Of c9 (fun M hM => (osp1 M hM).1) (by omega)) ?_
  rintro _ sA ⟨e, I, rfl, jA, mA⟩
  rw [hJ1] at jA
  have j10 := j9.keep (mA.get (by simp) j9.lt)
  refine st0 ?_
  refine gv (ct_ledger_Same j10 jA okA okA smA smA) ?_
  refine st0 ?_
  have mt : Mut [] [] s sA := by
    have e1 := ((m1.trans m2).sub (G := []) (by simp)).trans (.grows hg3)
    have e2 := (e1.trans (m4.sub (G := []) (by simp))).trans (.grows hg5)
    have e3 := (e2.trans (m6.sub (G := []) (by simp))).trans (m7.trans m8)
    exact ((e3.sub (G := []) (by simp)).trans (.grows hg9)).trans (mA.sub (by simp))
  exact ret_ok rfl ⟨⟨mt.n, fun x hx => .inl (mt.keep x hx (by simp)).symm⟩, .refl _⟩
end Go.Proofs.YtmpoeamfcienoaaGreat
end
