/- Going on. -/
import Derived.Test.YtmfhchaoijiodaaKCL16
section
namespace Go.Ab
set_option linter.unusedVariables false
theorem chk0 {g : Grp} {p : Prt} (h : chkG g p = 0) : isPart p = true ∧ ¬ p.kd = 6 ∧ ¬ p.kd = 5 ∧ p.gr = g.id := by
  unfold chkG at h
  split at h
  · cases h
  · next hc =>
    simp only [not_or, Bool.not_eq_false, Decidable.not_not] at hc
    exact hc
theorem atS_mem {l : List Ent} {i : Int} {e : Ent} (h : atS l i = some e) : e ∈ l ∧ e.ix = i := by
  unfold atS at h
  have := List.mem_of_head? h
  obtain ⟨h1, h2⟩ := List.mem_filter.1 this
  simp [inR] at h2
  exact ⟨h1, by omega⟩
theorem runG_spar {g : Grp} (h : Spar g) (p : Prt) : Spar (runG g p) := by
  unfold runG
  split
  case isFalse => exact h
  next hc =>
  obtain ⟨hp, h6, h5, hg⟩ := chk0 hc
  have h0 := okHead_iff.1 h.hd
  unfold doG
  have gone : ∀ {g : Grp}, Spar g → ∀ {i t : Int}, (1 ≤ i ∧ i ≤ MI) → (0 ≤ t ∧ t ≤ MI) → Spar (goneG g i t) := fun {g} h {i t} hi ht => by
    have h0 := okHead_iff.1 h.hd
    refine ⟨?_, fun e he => h.ok e (List.mem_filter.1 he).1, fun e he => ?_, h.srt.filter _⟩
    · rw [okHead_iff]; exact ⟨h0.1, ⟨by show 1 ≤ i + 1; omega, by show i + 1 ≤ MI + 1; omega⟩, ht, h0.2.2.2⟩
    · have := (List.mem_filter.1 he).2
      simp [inR] at this
      exact this.1
  split
  · next k1 =>
    obtain ⟨b1, b2, b3, b4, b5⟩ := firstP_bd hp k1
    have hp' := hp
    simp only [isPart, Bool.and_eq_true] at hp'
    obtain ⟨_, hk⟩ := hp'
    rw [if_pos k1] at hk
    simp only [Bool.and_eq_true] at hk
    obtain ⟨e1, e2, e3⟩ := rising_ok hk.2
    have hfi : g.fi ≤ firstP p := by
      unfold chkG at hc
      rw [if_neg (by simp [hp, h6, h5, hg]), if_pos k1] at hc
      split at hc
      · cases hc
      · omega
    have hall : ∀ e ∈ p.es, firstP p ≤ e.ix := fun e he => by
      obtain ⟨j, hj, rfl⟩ := List.getElem_of_mem he
      have h3 : firstP p = p.es[0].ix := by rw [b5, List.getD_eq_getElem?_getD, List.getElem?_eq_getElem b1]; rfl
      by_cases hj0 : j = 0
      · subst hj0; omega
      · have := List.pairwise_iff_getElem.1 e2 0 j (by omega) hj (by omega); omega
    refine ⟨h.hd, fun e he => ?_, fun e he => ?_, ?_⟩
    · rcases List.mem_append.1 he with he | he
      · exact h.ok e (List.mem_filter.1 he).1
      · exact e1 e he
    · rcases List.mem_append.1 he with he | he
      · exact h.fi e (List.mem_filter.1 he).1
      · have := hall e he; show g.fi ≤ e.ix; omega
    · rw [List.pairwise_append]
      refine ⟨h.srt.filter _, e2, fun x hx y hy => ?_⟩
      have h2 : g.fi ≤ x.ix ∧ x.ix < firstP p := by simpa [inR] using (List.mem_filter.1 hx).2
      have := hall y hy
      omega
  split
  · next k1 k2 => exact ⟨by rw [okHead_iff]; exact ⟨h0.1, h0.2.1, h0.2.2.1, okHrd_of hp (.inl k2)⟩, h.ok, h.fi, h.srt⟩
  split
  · next k1 k2 k3 =>
    obtain ⟨b1, b2⟩ := mark_bd hp (.inl k3)
    refine gone h b1 ?_
    cases ha : atS g.es p.ix with
    | none => exact ⟨Int.le_refl _, by decide⟩
    | some e =>
      have := (okEnt_iff.1 (h.ok e (atS_mem ha).1)).2.1
      simp only [Option.getD_some]; omega
  split
  · next k1 k2 k3 k4 =>
    obtain ⟨b1, b2⟩ := mark_bd hp (.inr k4)
    refine gone ?_ b1 b2
    split
    · exact h
    · exact ⟨h.hd, by simp, by simp, by simp⟩
  · exact h
end Go.Ab
namespace Go.Proofs.Ytmfhchaoijiodaa
open Go.Ab
set_option linter.unusedVariables false
set_option linter.unusedSimpArgs false
set_option maxRecDepth 100000
set_option maxHeartbeats 1000000
theorem ct_group_Do {g : Grp} {p : Prt} {s : AState} (h : Spar g) (hgl : (g.es.length : Int) ≤ 1000000000000) (hp : (p.es.length : Int) < 9223372036854775808) :
    Gives prog F_group_Do [g.av, p.av] s (.tup [(runG g p).av, .v (.int .i64 (chkG g p))]) s := by
  have hMI := MI_eq
  refine Runs.gives' (runs_e h_group_Do (Nat.le_of_ble_eq_true rfl) ?_) (Flat.tup (by simp; exact ⟨(Grp.row _).flat, .v _⟩))
  repeat (first | simp -dsimp -implicitDefEqProofs (disch := first | omega | (simp <;> omega) | fail) | ((with_reducible first | apply m_1 | apply m_0); (focus ((conv => lhs; simp -dsimp -implicitDefEqProofs (disch := first | omega | (simp <;> omega) | fail)); done))) | ((with_reducible first | apply i_T | apply g_T); (focus (simp -dsimp -implicitDefEqProofs (disch := first | omega | (simp <;> omega) | fail); done))) | ((with_reducible first | apply i_F | apply g_F); (focus (simp -dsimp -implicitDefEqProofs (disch := first | omega | (simp <;> omega) | fail); done))))
  refine giv (ct_group_Check h hp) (by first | (simp; done) | rfl | (simp; rfl)) ?_
  unfold runG
  by_cases hc : chkG g p = 0
  case neg =>
    rw [if_neg hc]
    repeat (first | simp -dsimp -implicitDefEqProofs (disch := first | omega | (simp <;> omega) | fail) [hc] | ((with_reducible first | apply m_1 | apply m_0); (focus ((conv => lhs; simp -dsimp -implicitDefEqProofs (disch := first | omega | (simp <;> omega) | fail) [hc]); done))) | ((with_reducible first | apply i_T | apply g_T); (focus (simp -dsimp -implicitDefEqProofs (disch := first | omega | (simp <;> omega) | fail) [hc]; done))) | ((with_reducible first | apply i_F | apply g_F); (focus (simp -dsimp -implicitDefEqProofs (disch := first | omega | (simp <;> omega) | fail) [hc]; done))))
    refine ret_ok (by simp; rfl) ⟨?_, ?_⟩
    · repeat (first | exact Grows.refl _ | with_reducible apply Grows.alloc | refine Grows.set ?_ _ (by omega) (by simp; omega))
    · simp [retVal]; exact .refl _
  rw [if_pos hc]
  obtain ⟨hip, k6, k5, kg⟩ := chk0 hc
  rw [hc]
  unfold doG
  by_cases k1 : p.kd = 1
  · obtain ⟨b1, b2, b3, b4, b5⟩ := firstP_bd hip k1
    have hf : p.es[0].ix = firstP p := by rw [b5, List.getD_eq_getElem?_getD, List.getElem?_eq_getElem b1]; rfl
    have hfl := List.length_filter_le (inR g.fi (firstP p)) g.es
    rw [if_pos k1]
    repeat (first | simp -dsimp -implicitDefEqProofs (disch := first | omega | (simp <;> omega) | fail) [k1, b1, hf] | (with_reducible apply m_draw) | ((with_reducible refine ⟨m_op ?_, ?_⟩); (focus (simp -dsimp -implicitDefEqProofs (disch := first | omega | (simp <;> omega) | fail) [k1, b1, hf]; done))) | ((with_reducible first | apply m_d1 rfl | apply m_dE | apply m_dE0); (focus ((conv => lhs; simp -dsimp -implicitDefEqProofs (disch := first | omega | (simp <;> omega) | fail) [k1, b1, hf]); done))) | ((with_reducible first | apply m_1 | apply m_0); (focus ((conv => lhs; simp -dsimp -implicitDefEqProofs (disch := first | omega | (simp <;> omega) | fail) [k1, b1, hf]); done))) | ((with_reducible first | apply i_T | apply g_T | apply h_T); (focus (simp -dsimp -implicitDefEqProofs (disch := first | omega | (simp <;> omega) | fail) [k1, b1, hf]; done))) | ((with_reducible first | apply i_F | apply g_F | apply h_F); (focus (simp -dsimp -implicitDefEqProofs (disch := first | omega | (simp <;> omega) | fail) [k1, b1, hf]; done))))
    refine giv (ct_group_Within (g := g) (lo := g.fi) (hi := firstP p)) (by first | (simp; done) | rfl | (simp; rfl)) ?_
    refine ⟨m_ext (Grows.ext (by repeat (first | exact Grows.refl _ | with_reducible apply Grows.alloc))), ?_⟩
    repeat (first | simp -dsimp -implicitDefEqProofs (disch := first | omega | (simp <;> omega) | fail) | (with_reducible apply m_draw) | ((with_reducible refine ⟨m_op ?_, ?_⟩); (focus (simp -dsimp -implicitDefEqProofs (disch := first | omega | (simp <;> omega) | fail); done))) | ((with_reducible first | apply m_d1 rfl | apply m_dE | apply m_dE0); (focus ((conv => lhs; simp -dsimp -implicitDefEqProofs (disch := first | omega | (simp <;> omega) | fail)); done))) | ((with_reducible first | apply m_1 | apply m_0); (focus ((conv => lhs; simp -dsimp -implicitDefEqProofs (disch := first | omega | (simp <;> omega) | fail)); done))) | ((with_reducible first | apply i_T | apply g_T | apply h_T); (focus (simp -dsimp -implicitDefEqProofs (disch := first | omega | (simp <;> omega) | fail); done))) | ((with_reducible first | apply i_F | apply g_F | apply h_F); (focus (simp -dsimp -implicitDefEqProofs (disch := first | omega | (simp <;> omega) | fail); done))))
    refine run (rn_slices_Collect_Entry (it_group_Within (g := g) (lo := g.fi) (hi := firstP p) (b1 := s.n + 3) (b2 := s.n + 4) (b3 := s.n + 5) (by omega)) (fun s' h => ⟨(h.get (by simp)).trans (by simp (disch := first | omega | (simp <;> omega) | fail)), (h.get (by simp)).trans (by simp (disch := first | omega | (simp <;> omega) | fail)), (h.get (by simp)).trans (by simp (disch := first | omega | (simp <;> omega) | fail))⟩) (by omega)) (by simp) ?_
    rintro _ s4 ⟨tk, rfl, may, hg⟩
    refine ⟨m_ext hg.ext, ?_⟩
    have c2 : s4.get s.n = .cells g.cells := (hg.get (by simp <;> omega)).trans (by simp (disch := first | omega | (simp <;> omega) | fail))
    have c3 : s4.get (s.n + 1) = .cells p.cells := (hg.get (by simp <;> omega)).trans (by simp (disch := first | omega | (simp <;> omega) | fail))
    have c4 : s4.get (s.n + 2) = .cells [.v (.int .i64 0), .v (.int .i64 0), .v (.int .i64 0), .v (.int .i64 0), .v (.int .i64 0), .v (.int .i64 0), .sl [] .zero] := (hg.get (by simp <;> omega)).trans (by simp (disch := first | omega | (simp <;> omega) | fail))
    have hn4 := hg.n
    simp at hn4
    repeat (first | simp -dsimp -implicitDefEqProofs (disch := first | omega | (simp <;> omega) | fail) [c2, c3] | (with_reducible apply m_draw) | ((with_reducible refine ⟨m_op ?_, ?_⟩); (focus (simp -dsimp -implicitDefEqProofs (disch := first | omega | (simp <;> omega) | fail) [c2, c3]; done))) | ((with_reducible first | apply m_d1 rfl | apply m_dE | apply m_dE0); (focus ((conv => lhs; simp -dsimp -implicitDefEqProofs (disch := first | omega | (simp <;> omega) | fail) [c2, c3]); done))) | ((with_reducible first | apply m_1 | apply m_0); (focus ((conv => lhs; simp -dsimp -implicitDefEqProofs (disch := first | omega | (simp <;> omega) | fail) [c2, c3]); done))) | ((with_reducible first | apply i_T | apply g_T | apply h_T); (focus (simp -dsimp -implicitDefEqProofs (disch := first | omega | (simp <;> omega) | fail) [c2, c3]; done))) | ((with_reducible first | apply i_F | apply g_F | apply h_F); (focus (simp -dsimp -implicitDefEqProofs (disch := first | omega | (simp <;> omega) | fail) [c2, c3]; done))))
    refine q_app (xs := (g.es.filter (inR g.fi (firstP p))).map Ent.av) (tk := tk) (ys := p.es.map Ent.av) (t2 := .no) (N := s.n + 6) (by simp) (by simp) hg (by simp) (by omega) (by simpa using may) (head_map Ent.row _) (by simp) (by simp; omega) (by simp; omega) ?_
    intro s5 tk5 hg5 hm5 hlow _
    have d2 := (hlow s.n (by omega)).trans c2
    have d4 := (hlow (s.n + 2) (by omega)).trans c4
    have hn5 := hg5.n
    simp at hn5
    unfold Grp.cells at d2
    repeat (first | simp -dsimp -implicitDefEqProofs (disch := first | omega | (simp <;> omega) | fail) [d2] | (with_reducible apply m_draw) | ((with_reducible refine ⟨m_op ?_, ?_⟩); (focus (simp -dsimp -implicitDefEqProofs (disch := first | omega | (simp <;> omega) | fail) [d2]; done))) | ((with_reducible first | apply m_d1 rfl | apply m_dE | apply m_dE0); (focus ((conv => lhs; simp -dsimp -implicitDefEqProofs (disch := first | omega | (simp <;> omega) | fail) [d2]); done))) | ((with_reducible first | apply m_1 | apply m_0); (focus ((conv => lhs; simp -dsimp -implicitDefEqProofs (disch := first | omega | (simp <;> omega) | fail) [d2]); done))) | ((with_reducible first | apply i_T | apply g_T | apply h_T); (focus (simp -dsimp -implicitDefEqProofs (disch := first | omega | (simp <;> omega) | fail) [d2]; done))) | ((with_reducible first | apply i_F | apply g_F | apply h_F); (focus (simp -dsimp -implicitDefEqProofs (disch := first | omega | (simp <;> omega) | fail) [d2]; done))))
    repeat (first | simp -dsimp -implicitDefEqProofs (disch := first | omega | (simp <;> omega) | fail) [d2, d4] | ((with_reducible first | apply m_1 | apply m_0); (focus ((conv => lhs; simp -dsimp -implicitDefEqProofs (disch := first | omega | (simp <;> omega) | fail) [d2, d4]); done))) | ((with_reducible first | apply i_T | apply g_T); (focus (simp -dsimp -implicitDefEqProofs (disch := first | omega | (simp <;> omega) | fail) [d2, d4]; done))) | ((with_reducible first | apply i_F | apply g_F); (focus (simp -dsimp -implicitDefEqProofs (disch := first | omega | (simp <;> omega) | fail) [d2, d4]; done))))
    refine ret_ok (by simp (disch := first | omega | (simp <;> omega) | fail); rfl) ⟨?_, ?_⟩
    · have hG : Grows s s5 := Grows.trans (by repeat (first | exact Grows.refl _ | with_reducible apply Grows.alloc)) hg5
      repeat (first | exact hG | with_reducible apply Grows.alloc | refine Grows.set ?_ _ (by omega) (by first | omega | (simp; omega)))
    · simp only [retVal]
      refine AV.le_tup rfl fun j => ?_
      match j with
      | 0 => exact (AV.le_strip _).trans (by simp [Grp.av, Grp.cells]; exact .refl _)
      | 1 => exact .refl _
      | j + 2 => exact .refl _
  rw [if_neg k1]
  by_cases k2 : p.kd = 2
  · rw [if_pos k2]
    refine st2 k1 k2 ?_
    refine ret_ok (by simp; rfl) ⟨?_, ?_⟩
    · repeat (first | exact Grows.refl _ | with_reducible apply Grows.alloc | refine Grows.set ?_ _ (by omega) (by simp; omega))
    · simp [retVal, Grp.av, Grp.cells]; exact .refl _
  rw [if_neg k2]
  by_cases k3 : p.kd = 3
  · obtain ⟨q1, q2⟩ := mark_bd hip (.inl k3)
    rw [if_pos k3]
    refine st3 k1 k2 k3 ?_
    refine gv (ct_group_at (g := g) (i := p.ix) (by omega) (by omega)) ?_
    refine st0 ?_
    refine gv (ct_group_gone (g := g) (i := p.ix) (t := ((atS g.es p.ix).getD zeroE).tm) (by omega) (by omega)) ?_
    refine st0 ?_
    refine ret_ok (by simp; rfl) ⟨?_, ?_⟩
    · repeat (first | exact Grows.refl _ | with_reducible apply Grows.alloc | refine Grows.set ?_ _ (by omega) (by simp; omega))
    · simp [retVal]; exact .refl _
  rw [if_neg k3]
  by_cases k4 : p.kd = 4
  · obtain ⟨q1, q2⟩ := mark_bd hip (.inr k4)
    rw [if_pos k4]
    refine st4 k1 k2 k3 k4 ?_
    refine gv (ct_group_fits (g := g) (i := p.ix) (t := p.tm) (by omega) (by omega)) ?_
    cases hft : fitsG g p.ix p.tm with
    | true =>
      refine st0 ?_
      refine gv (ct_group_gone (g := g) (i := p.ix) (t := p.tm) (by omega) (by omega)) ?_
      refine st0 ?_
      refine ret_ok (by simp; rfl) ⟨?_, ?_⟩
      · repeat (first | exact Grows.refl _ | with_reducible apply Grows.alloc | refine Grows.set ?_ _ (by omega) (by simp; omega))
      · simp [retVal]; exact .refl _
    | false =>
      refine st0 ?_
      refine gv (ct_group_gone (g := { g with es := [] }) (i := p.ix) (t := p.tm) (by simp) (by omega)) ?_
      refine st0 ?_
      refine ret_ok (by simp; rfl) ⟨?_, ?_⟩
      · repeat (first | exact Grows.refl _ | with_reducible apply Grows.alloc | refine Grows.set ?_ _ (by omega) (by simp; omega))
      · simp [retVal]; exact .refl _
  · rw [if_neg k4]
    refine st4 k1 k2 k3 k4 ?_
    refine ret_ok (by simp; rfl) ⟨?_, ?_⟩
    · repeat (first | exact Grows.refl _ | with_reducible apply Grows.alloc | refine Grows.set ?_ _ (by omega) (by simp; omega))
    · simp [retVal]; exact .refl _
end Go.Proofs.Ytmfhchaoijiodaa
end
section
namespace Go.Ab
set_option linter.unusedVariables false
def numAt (p : Prt) (o : Nat) : Int := if o = 3 then p.ht else if o = 4 then p.hv else if o = 5 then p.hc else if o = 6 then p.ix else p.tm
end Go.Ab
namespace Go.Proofs.Ytmfhchaoijiodaa
open Go.Ab
set_option linter.unusedVariables false
set_option linter.unusedSimpArgs false
set_option maxRecDepth 100000
set_option maxHeartbeats 1000000
def pb0 (p : Prt) : ByteArray := putS p.gr ++ putS p.kd
def pb1 (p : Prt) : ByteArray := if p.kd = 6 then pb0 p ++ putS (flagsS p) else pb0 p
def pb2 (p : Prt) (k : Nat) : ByteArray := ((numsP p.kd p.mr p.he).take k).foldl (fun s o => s ++ putS (numAt p o)) (pb1 p)
def pb3 (p : Prt) : ByteArray :=
  if p.kd = 1 then pb2 p 9 ++ (putS (p.es.length : Nat) ++ putS (firstP p)) else if p.kd = 6 then pb2 p 9 ++ putS (p.es.length : Nat) else pb2 p 9
def pbE (kd : Int) (s : ByteArray) (e : Ent) : ByteArray := (if kd = 6 then s ++ putS e.ix else s) ++ (putS e.tm ++ textS e.da)
def partS (p : Prt) : ByteArray := p.es.foldl (pbE p.kd) (pb3 p)
structure OkP (p : Prt) : Prop where
  gr : 0 ≤ p.gr ∧ p.gr ≤ 999
  kd : 1 ≤ p.kd ∧ p.kd ≤ 6
  len : p.es.length ≤ 6
  es : ∀ e ∈ p.es, okEnt e = true
  ht : 0 ≤ p.ht ∧ p.ht ≤ MI
  hv : 0 ≤ p.hv ∧ p.hv ≤ MI
  hc : 0 ≤ p.hc ∧ p.hc ≤ MI
  ix : 0 ≤ p.ix ∧ p.ix ≤ MI
  tm : 0 ≤ p.tm ∧ p.tm ≤ MI
  one : p.kd = 1 → 0 < p.es.length
theorem okP {p : Prt} (h : isPart p = true) : OkP p := by
  have hMI := MI_eq
  have hc := h
  simp only [isPart, Bool.and_eq_true, btw, decide_eq_true_eq] at hc
  obtain ⟨⟨hg, hcore⟩, hk⟩ := hc
  have hr : ∀ {d}, rising p.es d = true → p.es.length ≤ 6 ∧ ∀ e ∈ p.es, okEnt e = true := fun h => ⟨by have := (rising_ok h).2.2; omega, (rising_ok h).1⟩
  have hnil : p.es = [] → p.es.length ≤ 6 ∧ ∀ e ∈ p.es, okEnt e = true := fun h => by rw [h]; simp
  have hH : okHrd p.ht p.hv p.hc = true → (0 ≤ p.ht ∧ p.ht ≤ MI) ∧ (0 ≤ p.hv ∧ p.hv ≤ MI) ∧ (0 ≤ p.hc ∧ p.hc ≤ MI) := fun h => by
    simp only [okHrd, btw, Bool.and_eq_true, decide_eq_true_eq] at h; omega
  have hM : ∀ {l}, okMrk p.ix p.tm l = true → 0 ≤ l → (0 ≤ p.ix ∧ p.ix ≤ MI) ∧ (0 ≤ p.tm ∧ p.tm ≤ MI) := fun h hl => by
    simp only [okMrk, btw, Bool.and_eq_true, decide_eq_true_eq] at h; omega
  have key : ∀ {o : Prt}, p = o → p.es = o.es ∧ p.ht = o.ht ∧ p.hv = o.hv ∧ p.hc = o.hc ∧ p.ix = o.ix ∧ p.tm = o.tm := fun h => by rw [← h]; simp
  obtain ⟨k1, k2, k3, k4, k5, k6⟩ := key hcore
  by_cases c1 : p.kd = 1
  · simp only [core, c1, if_true] at k2 k3 k4 k5 k6
    rw [if_pos c1] at hk
    obtain ⟨hne, hri⟩ := Bool.and_eq_true_iff.1 hk
    obtain ⟨a1, a2⟩ := hr hri
    refine ⟨hg, by omega, a1, a2, by omega, by omega, by omega, by omega, by omega, fun _ => ?_⟩
    cases he : p.es with
    | nil => rw [he] at hne; simp at hne
    | cons x l => simp
  rw [if_neg c1] at hk
  by_cases c2 : p.kd = 2
  · simp [core, c2] at k1 k5 k6
    rw [if_pos c2] at hk
    obtain ⟨a1, a2⟩ := hnil k1
    obtain ⟨b1, b2, b3⟩ := hH hk
    exact ⟨hg, by omega, a1, a2, b1, b2, b3, by omega, by omega, fun h => absurd h c1⟩
  rw [if_neg c2] at hk
  by_cases c3 : p.kd = 3 ∨ p.kd = 4
  · simp only [core, c1, c2, c3, if_false, if_true] at k1 k2 k3 k4
    obtain ⟨a1, a2⟩ := hnil k1
    obtain ⟨b1, b2⟩ : (0 ≤ p.ix ∧ p.ix ≤ MI) ∧ (0 ≤ p.tm ∧ p.tm ≤ MI) := by
      rcases c3 with c3 | c3
      · rw [if_pos c3] at hk; exact hM hk (by omega)
      · rw [if_neg (by omega), if_pos c3] at hk; exact hM hk (by omega)
    exact ⟨hg, by omega, a1, a2, by omega, by omega, by omega, b1, b2, fun h => absurd h c1⟩
  rw [if_neg (by omega), if_neg (by omega)] at hk
  by_cases c6 : p.kd = 6
  · rw [if_pos c6] at hk
    simp only [core, c1, c2, c3, c6, if_false, if_true] at k2 k3 k4 k5 k6
    simp only [Bool.and_eq_true] at hk
    obtain ⟨⟨⟨_, hri⟩, hm⟩, hh⟩ := hk
    obtain ⟨a1, a2⟩ := hr hri
    obtain ⟨b1, b2, b3⟩ := hH hh
    obtain ⟨d1, d2⟩ : (0 ≤ p.ix ∧ p.ix ≤ MI) ∧ (0 ≤ p.tm ∧ p.tm ≤ MI) := by
      cases hmr : p.mr with
      | false => rw [hmr] at k5 k6; simp at k5 k6; omega
      | true => rw [hmr] at hm; exact hM (by simpa using hm) (by omega)
    exact ⟨hg, by omega, a1, a2, b1, b2, b3, d1, d2, fun h => absurd h c1⟩
  · rw [if_neg c6, decide_eq_true_eq] at hk
    simp only [core, c1, c2, c3, c6, if_false] at k1 k2 k3 k4 k5 k6
    obtain ⟨a1, a2⟩ := hnil k1
    exact ⟨hg, by omega, a1, a2, by omega, by omega, by omega, by omega, by omega, fun h => absurd h c1⟩
theorem numAt_bd {p : Prt} (h : OkP p) (o : Nat) : 0 ≤ numAt p o ∧ numAt p o ≤ MI := by
  unfold numAt
  repeat' split
  all_goals first | exact h.ht | exact h.hv | exact h.hc | exact h.ix | exact h.tm
theorem putZ {n : Int} (h0 : 0 ≤ n) (h : n ≤ MI) : (putS n).size ≤ 8 := putS_size (by have := MI_eq; omega)
theorem flags_bd (p : Prt) : 0 ≤ flagsS p ∧ flagsS p ≤ 3 := by unfold flagsS; repeat' split; all_goals omega
theorem nums_len (kd : Int) (mr he : Bool) : (numsP kd mr he).length ≤ 5 := by unfold numsP numsA numsB; repeat' split; all_goals simp
theorem ba_app2 (a b : ByteArray) : (a ++ b).size = a.size + b.size := by simp
theorem pb0_size {p : Prt} (h : OkP p) : (pb0 p).size ≤ 16 := by
  have hMI := MI_eq
  have h1 := putZ (n := p.gr) h.gr.1 (by have := h.gr; omega)
  have h2 := putZ (n := p.kd) (by have := h.kd; omega) (by have := h.kd; omega)
  unfold pb0; rw [ba_app2]; omega
theorem pb1_size {p : Prt} (h : OkP p) : (pb1 p).size ≤ 24 := by
  have hMI := MI_eq
  have h1 := pb0_size h
  have h2 := putZ (n := flagsS p) (flags_bd p).1 (by have := (flags_bd p).2; omega)
  unfold pb1; split
  · rw [ba_app2]; omega
  · omega
theorem pb2_size {p : Prt} (h : OkP p) (k : Nat) : (pb2 p k).size ≤ 24 + 8 * k := by
  have key : ∀ (l : List Nat) (s : ByteArray), (l.foldl (fun s o => s ++ putS (numAt p o)) s).size ≤ s.size + 8 * l.length := by
    intro l
    induction l with
    | nil => intro s; simp
    | cons o l ih =>
      intro s
      have h1 := ih (s ++ putS (numAt p o))
      have h2 := putZ (numAt_bd h o).1 (numAt_bd h o).2
      rw [List.foldl_cons, List.length_cons]
      rw [ba_app2] at h1
      omega
  have h1 := key ((numsP p.kd p.mr p.he).take k) (pb1 p)
  have h2 := pb1_size h
  have h3 : ((numsP p.kd p.mr p.he).take k).length ≤ k := by rw [List.length_take]; omega
  unfold pb2; omega
theorem pb2_all (p : Prt) {k : Nat} (h : 5 ≤ k) : pb2 p k = pb2 p 5 := by
  have := nums_len p.kd p.mr p.he
  unfold pb2
  rw [List.take_of_length_le (by omega), List.take_of_length_le (by omega)]
theorem firstP_ok {p : Prt} (h : OkP p) (hk : p.kd = 1) : 0 ≤ firstP p ∧ firstP p ≤ MI := by
  have hl := h.one hk
  unfold firstP
  rw [List.getD_eq_getElem?_getD, List.getElem?_eq_getElem hl]
  have := (okEnt_iff.1 (h.es _ (List.getElem_mem hl))).1
  simp only [Option.getD_some]; omega
theorem pb3_size {p : Prt} (h : OkP p) : (pb3 p).size ≤ 80 := by
  have hMI := MI_eq
  have h1 := pb2_size h 5
  have h2 := putZ (n := (p.es.length : Nat)) (by omega) (by have := h.len; omega)
  have e9 := pb2_all p (k := 9) (by omega)
  unfold pb3
  rw [e9]
  repeat' split
  · next hk =>
    have h3 := putZ (firstP_ok h hk).1 (firstP_ok h hk).2
    rw [ba_app2, ba_app2]; omega
  · rw [ba_app2]; omega
  · omega
theorem pbE_size {kd : Int} {s : ByteArray} {e : Ent} (h : okEnt e = true) : (pbE kd s e).size ≤ s.size + 64 := by
  have hMI := MI_eq
  obtain ⟨h1, h2, h3⟩ := okEnt_iff.1 h
  have z1 := putZ (n := e.ix) (by omega) h1.2
  have z2 := putZ (n := e.tm) (by omega) h2.2
  have z3 := textS_size (b := e.da) (by omega)
  unfold pbE
  split
  · rw [ba_app2, ba_app2, ba_app2]; omega
  · rw [ba_app2, ba_app2]; omega
theorem pbl_size {kd : Int} : ∀ (l : List Ent) (s : ByteArray), (∀ e ∈ l, okEnt e = true) → (l.foldl (pbE kd) s).size ≤ s.size + 64 * l.length := by
  intro l
  induction l with
  | nil => intro s _; simp
  | cons e l ih =>
    intro s h
    have h1 := ih (pbE kd s e) fun x hx => h x (by simp [hx])
    have h2 := pbE_size (kd := kd) (s := s) (h e (by simp))
    rw [List.foldl_cons, List.length_cons]; omega
theorem partS_size {p : Prt} (h : OkP p) : (partS p).size ≤ 464 := by
  have h1 := pb3_size h
  have h2 := pbl_size (kd := p.kd) p.es (pb3 p) h.es
  have := h.len
  unfold partS; omega
end Go.Proofs.Ytmfhchaoijiodaa
end
section
namespace Go.Proofs.Ytmfhchaoijiodaa
open Go.Ab
set_option linter.unusedVariables false
set_option linter.unusedSimpArgs false
set_option maxRecDepth 100000
set_option maxHeartbeats 1000000
def pbT4 : ACode := A_part_Bytes.body.nx.nx.nx
def pbT5 : ACode := pbT4.nx
def pbT6 : ACode := pbT5.nx
def pbT7 : ACode := pbT6.nx
structure PbI (s : AState) (p : Prt) (a c : Nat) (b : ByteArray) (D : List Nat) (s1 : AState) : Prop where
  pa : s1.get a = .cells p.cells
  pc : s1.get c = .cells [.v (.string b)]
  pg : Grows s s1
  a0 : s.n ≤ a
  c0 : s.n ≤ c
  ac : a ≠ c
  pd : Dfs s.n s1 D
  cd : c ∉ D
theorem PbI.alloc {s : AState} {p : Prt} {a c : Nat} {b : ByteArray} {D : List Nat} {s1 : AState} (h : PbI s p a c b D s1) (o : AObj) : PbI s p a c b D (s1.alloc o) := by
  obtain ⟨h1, h2, h3, h4, h5, h6, h7, h8⟩ := h
  have n1 := AState.lt_of_get h1 (by simp)
  have n2 := AState.lt_of_get h2 (by simp)
  exact ⟨by simp (disch := first | omega | (simp <;> omega) | fail) [h1], by simp (disch := first | omega | (simp <;> omega) | fail) [h2], h3.alloc _, h4, h5, h6, h7.ext (AState.ext_alloc _ _), h8⟩
theorem PbI.set {s : AState} {p : Prt} {a c : Nat} {b b' : ByteArray} {D : List Nat} {s1 : AState} (h : PbI s p a c b D s1) : PbI s p a c b' D (s1.set c (.cells [.v (.string b')])) := by
  obtain ⟨h1, h2, h3, h4, h5, h6, h7, h8⟩ := h
  have n1 := AState.lt_of_get h1 (by simp)
  have n2 := AState.lt_of_get h2 (by simp)
  exact ⟨by simp (disch := first | omega | (simp <;> omega) | fail) [h1], dz0, h3.set _ h5 n2, h4, h5, h6, ⟨fun z hz => ⟨(h7.1 z hz).1, (AState.get_set_ne _ _ (fun (e : z = c) => h8 (by rw [← e]; exact hz))).trans (h7.1 z hz).2⟩, h7.2⟩, h8⟩
theorem pbl_snoc {p : Prt} {j : Nat} (h : j < p.es.length) : (p.es.take (j + 1)).foldl (pbE p.kd) (pb3 p) = pbE p.kd ((p.es.take j).foldl (pbE p.kd) (pb3 p)) p.es[j] := by
  have e : p.es.take (j + 1) = p.es.take j ++ [p.es[j]] := (List.take_append_getElem h).symm
  rw [e, List.foldl_append]; rfl
theorem pb_L {p : Prt} (hp : OkP p) {s s1 : AState} {e : List (Nat × AV)} {a c : Nat} {D : List Nat} (g1 : Ab.get e 1 = .p a 0) (g4 : Ab.get e 4 = .p c 0) (hI : PbI s p a c (pb3 p) D s1) :
    wp prog none pbT7 (fnQ [.tmp 2, .tmp 3] (fun x s' => Grows s s' ∧ x.le (.tup [.v (.string (partS p)), .v (.int .i64 0)]))) { t := den 85 e, d := D } s1 := by
  have hMI := MI_eq
  simp only [pbT7, pbT6, pbT5, pbT4, A_part_Bytes, ACode.nx]
  have hlen := hp.len
  have i1 := hI.pa
  repeat (first | simp -dsimp -implicitDefEqProofs (disch := first | omega | (simp <;> omega) | fail) [g1, g4, i1] | ((with_reducible first | apply m_1 | apply m_0); (focus ((conv => lhs; simp -dsimp -implicitDefEqProofs (disch := first | omega | (simp <;> omega) | fail) [g1, g4, i1]); done))) | ((with_reducible first | apply i_T | apply g_T); (focus (simp -dsimp -implicitDefEqProofs (disch := first | omega | (simp <;> omega) | fail) [g1, g4, i1]; done))) | ((with_reducible first | apply i_F | apply g_F); (focus (simp -dsimp -implicitDefEqProofs (disch := first | omega | (simp <;> omega) | fail) [g1, g4, i1]; done))))
  refine loop_ok [1, 4, 60, 61, 62] (fun m x s2 => ∃ j : Nat, j + m = p.es.length ∧ PbI s p a c ((p.es.take j).foldl (pbE p.kd) (pb3 p)) D s2 ∧
    x = { t := den 85 [(1, .p a 0), (4, .p c 0), (60, .sl (p.es.map Ent.av) .no), (61, .v (.int .i64 p.es.length)), (62, .v (.int .i64 j))], d := D }) p.es.length ?_ ?_
  · exact ⟨0, by simp, by simpa using hI, by simp [g1, g4]⟩
  rintro m x s2 ⟨j, hjm, hJ, rfl⟩
  have j1 := hJ.pa
  have j2 := hJ.pc
  by_cases hlt : j < p.es.length
  · have hw : IntKind.wrap .i64 ((j : Int) + 1) = (j : Int) + 1 := wrap_i64 (by omega) (by omega)
    have hok := okEnt_iff.1 (hp.es _ (List.getElem_mem hlt))
    have hsn := pbl_snoc hlt
    have hsz := pbl_size (kd := p.kd) (p.es.take j) (pb3 p) fun e he => hp.es e (List.mem_of_mem_take he)
    have hsz3 := pb3_size hp
    have htl : (p.es.take j).length ≤ 6 := by rw [List.length_take]; omega
    generalize (p.es.take j).foldl (pbE p.kd) (pb3 p) = b at hsn hsz j2 hJ
    have n1 := AState.lt_of_get j1 (by simp)
    have n2 := AState.lt_of_get j2 (by simp)
    have z1 := putZ (n := p.es[j].ix) (by omega) (by omega)
    have z2 := putZ (n := p.es[j].tm) (by omega) (by omega)
    have z3 := textS_size (b := p.es[j].da) (by omega)
    have fa : (b.size : Int) + ((putS p.es[j].ix).size : Int) ≤ 9223372036854775807 := by omega
    have fb : ((putS p.es[j].tm).size : Int) + ((textS p.es[j].da).size : Int) ≤ 9223372036854775807 := by omega
    have fc : (b.size : Int) + ((putS p.es[j].tm).size + (textS p.es[j].da).size : Int) ≤ 9223372036854775807 := by omega
    have fd : (b.size : Int) + ((putS p.es[j].ix).size : Int) + ((putS p.es[j].tm).size + (textS p.es[j].da).size : Int) ≤ 9223372036854775807 := by omega
    have hK := (hJ.set (b' := pbE p.kd b p.es[j])).alloc (.cells p.es[j].cells)
    by_cases hk : p.kd = 6
    · repeat (first | simp -dsimp -implicitDefEqProofs (disch := first | omega | (simp <;> omega) | fail) [hlt, j1, j2, hk] | (with_reducible apply m_draw) | ((with_reducible refine ⟨m_op ?_, ?_⟩); (focus (simp -dsimp -implicitDefEqProofs (disch := first | omega | (simp <;> omega) | fail) [hlt, j1, j2, hk]; done))) | ((with_reducible first | apply m_d1 rfl | apply m_dE | apply m_dE0); (focus ((conv => lhs; simp -dsimp -implicitDefEqProofs (disch := first | omega | (simp <;> omega) | fail) [hlt, j1, j2, hk]); done))) | ((with_reducible first | apply m_1 | apply m_0); (focus ((conv => lhs; simp -dsimp -implicitDefEqProofs (disch := first | omega | (simp <;> omega) | fail) [hlt, j1, j2, hk]); done))) | ((with_reducible first | apply i_T | apply g_T | apply h_T); (focus (simp -dsimp -implicitDefEqProofs (disch := first | omega | (simp <;> omega) | fail) [hlt, j1, j2, hk]; done))) | ((with_reducible first | apply i_F | apply g_F | apply h_F); (focus (simp -dsimp -implicitDefEqProofs (disch := first | omega | (simp <;> omega) | fail) [hlt, j1, j2, hk]; done))))
      refine gv (ct_code_Put (n := p.es[j].ix) (by omega) (by omega)) ?_
      repeat (first | simp -dsimp -implicitDefEqProofs (disch := first | omega | (simp <;> omega) | fail) [j1, j2, fa] | (with_reducible apply m_draw) | ((with_reducible refine ⟨m_op ?_, ?_⟩); (focus (simp -dsimp -implicitDefEqProofs (disch := first | omega | (simp <;> omega) | fail) [j1, j2, fa]; done))) | ((with_reducible first | apply m_d1 rfl | apply m_dE | apply m_dE0); (focus ((conv => lhs; simp -dsimp -implicitDefEqProofs (disch := first | omega | (simp <;> omega) | fail) [j1, j2, fa]); done))) | ((with_reducible first | apply m_1 | apply m_0); (focus ((conv => lhs; simp -dsimp -implicitDefEqProofs (disch := first | omega | (simp <;> omega) | fail) [j1, j2, fa]); done))) | ((with_reducible first | apply i_T | apply g_T | apply h_T); (focus (simp -dsimp -implicitDefEqProofs (disch := first | omega | (simp <;> omega) | fail) [j1, j2, fa]; done))) | ((with_reducible first | apply i_F | apply g_F | apply h_F); (focus (simp -dsimp -implicitDefEqProofs (disch := first | omega | (simp <;> omega) | fail) [j1, j2, fa]; done))))
      refine gv (ct_code_Put (n := p.es[j].tm) (by omega) (by omega)) ?_
      repeat (first | simp -dsimp -implicitDefEqProofs (disch := first | omega | (simp <;> omega) | fail) [j1, j2] | (with_reducible apply m_draw) | ((with_reducible refine ⟨m_op ?_, ?_⟩); (focus (simp -dsimp -implicitDefEqProofs (disch := first | omega | (simp <;> omega) | fail) [j1, j2]; done))) | ((with_reducible first | apply m_d1 rfl | apply m_dE | apply m_dE0); (focus ((conv => lhs; simp -dsimp -implicitDefEqProofs (disch := first | omega | (simp <;> omega) | fail) [j1, j2]); done))) | ((with_reducible first | apply m_1 | apply m_0); (focus ((conv => lhs; simp -dsimp -implicitDefEqProofs (disch := first | omega | (simp <;> omega) | fail) [j1, j2]); done))) | ((with_reducible first | apply i_T | apply g_T | apply h_T); (focus (simp -dsimp -implicitDefEqProofs (disch := first | omega | (simp <;> omega) | fail) [j1, j2]; done))) | ((with_reducible first | apply i_F | apply g_F | apply h_F); (focus (simp -dsimp -implicitDefEqProofs (disch := first | omega | (simp <;> omega) | fail) [j1, j2]; done))))
      refine gv (ct_code_Text (b := p.es[j].da) (by omega)) ?_
      repeat (first | simp -dsimp -implicitDefEqProofs (disch := first | omega | (simp <;> omega) | fail) [j1, j2, hw, fb, fc, fd] | (with_reducible apply m_draw) | ((with_reducible refine ⟨m_op ?_, ?_⟩); (focus (simp -dsimp -implicitDefEqProofs (disch := first | omega | (simp <;> omega) | fail) [j1, j2, hw, fb, fc, fd]; done))) | ((with_reducible first | apply m_d1 rfl | apply m_dE | apply m_dE0); (focus ((conv => lhs; simp -dsimp -implicitDefEqProofs (disch := first | omega | (simp <;> omega) | fail) [j1, j2, hw, fb, fc, fd]); done))) | ((with_reducible first | apply m_1 | apply m_0); (focus ((conv => lhs; simp -dsimp -implicitDefEqProofs (disch := first | omega | (simp <;> omega) | fail) [j1, j2, hw, fb, fc, fd]); done))) | ((with_reducible first | apply i_T | apply g_T | apply h_T); (focus (simp -dsimp -implicitDefEqProofs (disch := first | omega | (simp <;> omega) | fail) [j1, j2, hw, fb, fc, fd]; done))) | ((with_reducible first | apply i_F | apply g_F | apply h_F); (focus (simp -dsimp -implicitDefEqProofs (disch := first | omega | (simp <;> omega) | fail) [j1, j2, hw, fb, fc, fd]; done))))
      refine ⟨m - 1, by omega, j + 1, by omega, ?_, by simp⟩
      rw [hsn]
      simp only [pbE, hk, if_true] at hK ⊢
      exact hK
    · repeat (first | simp -dsimp -implicitDefEqProofs (disch := first | omega | (simp <;> omega) | fail) [hlt, j1, j2, hk] | (with_reducible apply m_draw) | ((with_reducible refine ⟨m_op ?_, ?_⟩); (focus (simp -dsimp -implicitDefEqProofs (disch := first | omega | (simp <;> omega) | fail) [hlt, j1, j2, hk]; done))) | ((with_reducible first | apply m_d1 rfl | apply m_dE | apply m_dE0); (focus ((conv => lhs; simp -dsimp -implicitDefEqProofs (disch := first | omega | (simp <;> omega) | fail) [hlt, j1, j2, hk]); done))) | ((with_reducible first | apply m_1 | apply m_0); (focus ((conv => lhs; simp -dsimp -implicitDefEqProofs (disch := first | omega | (simp <;> omega) | fail) [hlt, j1, j2, hk]); done))) | ((with_reducible first | apply i_T | apply g_T | apply h_T); (focus (simp -dsimp -implicitDefEqProofs (disch := first | omega | (simp <;> omega) | fail) [hlt, j1, j2, hk]; done))) | ((with_reducible first | apply i_F | apply g_F | apply h_F); (focus (simp -dsimp -implicitDefEqProofs (disch := first | omega | (simp <;> omega) | fail) [hlt, j1, j2, hk]; done))))
      refine gv (ct_code_Put (n := p.es[j].tm) (by omega) (by omega)) ?_
      repeat (first | simp -dsimp -implicitDefEqProofs (disch := first | omega | (simp <;> omega) | fail) [j1, j2] | (with_reducible apply m_draw) | ((with_reducible refine ⟨m_op ?_, ?_⟩); (focus (simp -dsimp -implicitDefEqProofs (disch := first | omega | (simp <;> omega) | fail) [j1, j2]; done))) | ((with_reducible first | apply m_d1 rfl | apply m_dE | apply m_dE0); (focus ((conv => lhs; simp -dsimp -implicitDefEqProofs (disch := first | omega | (simp <;> omega) | fail) [j1, j2]); done))) | ((with_reducible first | apply m_1 | apply m_0); (focus ((conv => lhs; simp -dsimp -implicitDefEqProofs (disch := first | omega | (simp <;> omega) | fail) [j1, j2]); done))) | ((with_reducible first | apply i_T | apply g_T | apply h_T); (focus (simp -dsimp -implicitDefEqProofs (disch := first | omega | (simp <;> omega) | fail) [j1, j2]; done))) | ((with_reducible first | apply i_F | apply g_F | apply h_F); (focus (simp -dsimp -implicitDefEqProofs (disch := first | omega | (simp <;> omega) | fail) [j1, j2]; done))))
      refine gv (ct_code_Text (b := p.es[j].da) (by omega)) ?_
      repeat (first | simp -dsimp -implicitDefEqProofs (disch := first | omega | (simp <;> omega) | fail) [j1, j2, hw, fb, fc, fd] | (with_reducible apply m_draw) | ((with_reducible refine ⟨m_op ?_, ?_⟩); (focus (simp -dsimp -implicitDefEqProofs (disch := first | omega | (simp <;> omega) | fail) [j1, j2, hw, fb, fc, fd]; done))) | ((with_reducible first | apply m_d1 rfl | apply m_dE | apply m_dE0); (focus ((conv => lhs; simp -dsimp -implicitDefEqProofs (disch := first | omega | (simp <;> omega) | fail) [j1, j2, hw, fb, fc, fd]); done))) | ((with_reducible first | apply m_1 | apply m_0); (focus ((conv => lhs; simp -dsimp -implicitDefEqProofs (disch := first | omega | (simp <;> omega) | fail) [j1, j2, hw, fb, fc, fd]); done))) | ((with_reducible first | apply i_T | apply g_T | apply h_T); (focus (simp -dsimp -implicitDefEqProofs (disch := first | omega | (simp <;> omega) | fail) [j1, j2, hw, fb, fc, fd]; done))) | ((with_reducible first | apply i_F | apply g_F | apply h_F); (focus (simp -dsimp -implicitDefEqProofs (disch := first | omega | (simp <;> omega) | fail) [j1, j2, hw, fb, fc, fd]; done))))
      refine ⟨m - 1, by omega, j + 1, by omega, ?_, by simp⟩
      rw [hsn]
      simp only [pbE, hk, if_false] at hK ⊢
      exact hK
  · have hj : j = p.es.length := by omega
    subst hj
    rw [List.take_length] at j2 hJ
    refine st1 j2 ?_
    refine ret_okD (fun x hx => (hJ.pd.1 x hx).2) hJ.pd.2 (xs := [.v (.string (partS p)), .v (.int .i64 0)]) (by simp [evRess, evRes, den, partS]) ⟨killAll_grows hJ.pg (Nat.le_refl _) hJ.pd, .refl _⟩
theorem pb_M {p : Prt} (hp : OkP p) {s s1 : AState} {e : List (Nat × AV)} {a c : Nat} {D : List Nat} (g1 : Ab.get e 1 = .p a 0) (g4 : Ab.get e 4 = .p c 0) (hI : PbI s p a c (pb2 p 9) D s1) :
    wp prog none pbT6 (fnQ [.tmp 2, .tmp 3] (fun x s' => Grows s s' ∧ x.le (.tup [.v (.string (partS p)), .v (.int .i64 0)]))) { t := den 85 e, d := D } s1 := by
  have hMI := MI_eq
  obtain ⟨T, hT⟩ : ∃ T, T = pbT7 := ⟨_, rfl⟩
  have hT2 := hT
  simp only [pbT7, pbT6, pbT5, pbT4, A_part_Bytes, ACode.nx] at hT2
  simp only [pbT6, pbT5, pbT4, A_part_Bytes, ACode.nx]
  rw [← hT2]
  clear hT2
  have hL := fun {s1 e} => pb_L hp (s := s) (s1 := s1) (e := e) (a := a) (c := c) (D := D)
  rw [← hT] at hL
  have i1 := hI.pa
  have i2 := hI.pc
  have hlen := hp.len
  have n1 := AState.lt_of_get i1 (by simp)
  have n2 := AState.lt_of_get i2 (by simp)
  have z0 : (pb2 p 9).size ≤ 64 := by rw [pb2_all p (by omega)]; have := pb2_size hp 5; omega
  have z1 := putZ (n := (p.es.length : Nat)) (by omega) (by omega)
  have h3 : pb3 p = if p.kd = 1 then pb2 p 9 ++ (putS (p.es.length : Nat) ++ putS (firstP p)) else if p.kd = 6 then pb2 p 9 ++ putS (p.es.length : Nat) else pb2 p 9 := rfl
  by_cases hk1 : p.kd = 1
  · have hl := hp.one hk1
    obtain ⟨b1, b2⟩ := firstP_ok hp hk1
    have z2 := putZ b1 b2
    have hf : firstP p = (p.es[0]).ix := by unfold firstP; rw [List.getD_eq_getElem?_getD, List.getElem?_eq_getElem hl]; rfl
    rw [hf] at z2 b1 b2 h3
    rw [if_pos hk1] at h3
    have fb : ((putS (p.es.length : Nat)).size : Int) + ((putS p.es[0].ix).size : Int) ≤ 9223372036854775807 := by omega
    have fc : ((pb2 p 9).size : Int) + ((putS (p.es.length : Nat)).size + (putS p.es[0].ix).size : Int) ≤ 9223372036854775807 := by omega
    repeat (first | simp -dsimp -implicitDefEqProofs (disch := first | omega | (simp <;> omega) | fail) [g1, g4, i1, i2, hk1, hl] | (with_reducible apply m_draw) | ((with_reducible refine ⟨m_op ?_, ?_⟩); (focus (simp -dsimp -implicitDefEqProofs (disch := first | omega | (simp <;> omega) | fail) [g1, g4, i1, i2, hk1, hl]; done))) | ((with_reducible first | apply m_d1 rfl | apply m_dE | apply m_dE0); (focus ((conv => lhs; simp -dsimp -implicitDefEqProofs (disch := first | omega | (simp <;> omega) | fail) [g1, g4, i1, i2, hk1, hl]); done))) | ((with_reducible first | apply m_1 | apply m_0); (focus ((conv => lhs; simp -dsimp -implicitDefEqProofs (disch := first | omega | (simp <;> omega) | fail) [g1, g4, i1, i2, hk1, hl]); done))) | ((with_reducible first | apply i_T | apply g_T | apply h_T); (focus (simp -dsimp -implicitDefEqProofs (disch := first | omega | (simp <;> omega) | fail) [g1, g4, i1, i2, hk1, hl]; done))) | ((with_reducible first | apply i_F | apply g_F | apply h_F); (focus (simp -dsimp -implicitDefEqProofs (disch := first | omega | (simp <;> omega) | fail) [g1, g4, i1, i2, hk1, hl]; done))))
    refine gv (ct_code_Put (n := ((p.es.length : Nat) : Int)) (by omega) (by omega)) ?_
    refine sd5 g1 g4 i1 i2 hl ?_
    refine gv (ct_code_Put (n := p.es[0].ix) (by omega) (by omega)) ?_
    repeat (first | simp -dsimp -implicitDefEqProofs (disch := first | omega | (simp <;> omega) | fail) [g1, g4, i1, i2, fb, fc] | (with_reducible apply m_draw) | ((with_reducible refine ⟨m_op ?_, ?_⟩); (focus (simp -dsimp -implicitDefEqProofs (disch := first | omega | (simp <;> omega) | fail) [g1, g4, i1, i2, fb, fc]; done))) | ((with_reducible first | apply m_d1 rfl | apply m_dE | apply m_dE0); (focus ((conv => lhs; simp -dsimp -implicitDefEqProofs (disch := first | omega | (simp <;> omega) | fail) [g1, g4, i1, i2, fb, fc]); done))) | ((with_reducible first | apply m_1 | apply m_0); (focus ((conv => lhs; simp -dsimp -implicitDefEqProofs (disch := first | omega | (simp <;> omega) | fail) [g1, g4, i1, i2, fb, fc]); done))) | ((with_reducible first | apply i_T | apply g_T | apply h_T); (focus (simp -dsimp -implicitDefEqProofs (disch := first | omega | (simp <;> omega) | fail) [g1, g4, i1, i2, fb, fc]; done))) | ((with_reducible first | apply i_F | apply g_F | apply h_F); (focus (simp -dsimp -implicitDefEqProofs (disch := first | omega | (simp <;> omega) | fail) [g1, g4, i1, i2, fb, fc]; done))))
    exact hL (by simp [g1]) (by simp [g4]) (h3 ▸ hI.set)
  · rw [if_neg hk1] at h3
    by_cases hk6 : p.kd = 6
    · rw [if_pos hk6] at h3
      have fc : ((pb2 p 9).size : Int) + ((putS (p.es.length : Nat)).size : Int) ≤ 9223372036854775807 := by omega
      repeat (first | simp -dsimp -implicitDefEqProofs (disch := first | omega | (simp <;> omega) | fail) [g1, g4, i1, i2, hk6] | (with_reducible apply m_draw) | ((with_reducible refine ⟨m_op ?_, ?_⟩); (focus (simp -dsimp -implicitDefEqProofs (disch := first | omega | (simp <;> omega) | fail) [g1, g4, i1, i2, hk6]; done))) | ((with_reducible first | apply m_d1 rfl | apply m_dE | apply m_dE0); (focus ((conv => lhs; simp -dsimp -implicitDefEqProofs (disch := first | omega | (simp <;> omega) | fail) [g1, g4, i1, i2, hk6]); done))) | ((with_reducible first | apply m_1 | apply m_0); (focus ((conv => lhs; simp -dsimp -implicitDefEqProofs (disch := first | omega | (simp <;> omega) | fail) [g1, g4, i1, i2, hk6]); done))) | ((with_reducible first | apply i_T | apply g_T | apply h_T); (focus (simp -dsimp -implicitDefEqProofs (disch := first | omega | (simp <;> omega) | fail) [g1, g4, i1, i2, hk6]; done))) | ((with_reducible first | apply i_F | apply g_F | apply h_F); (focus (simp -dsimp -implicitDefEqProofs (disch := first | omega | (simp <;> omega) | fail) [g1, g4, i1, i2, hk6]; done))))
      refine gv (ct_code_Put (n := ((p.es.length : Nat) : Int)) (by omega) (by omega)) ?_
      repeat (first | simp -dsimp -implicitDefEqProofs (disch := first | omega | (simp <;> omega) | fail) [g1, g4, i1, i2, fc] | (with_reducible apply m_draw) | ((with_reducible refine ⟨m_op ?_, ?_⟩); (focus (simp -dsimp -implicitDefEqProofs (disch := first | omega | (simp <;> omega) | fail) [g1, g4, i1, i2, fc]; done))) | ((with_reducible first | apply m_d1 rfl | apply m_dE | apply m_dE0); (focus ((conv => lhs; simp -dsimp -implicitDefEqProofs (disch := first | omega | (simp <;> omega) | fail) [g1, g4, i1, i2, fc]); done))) | ((with_reducible first | apply m_1 | apply m_0); (focus ((conv => lhs; simp -dsimp -implicitDefEqProofs (disch := first | omega | (simp <;> omega) | fail) [g1, g4, i1, i2, fc]); done))) | ((with_reducible first | apply i_T | apply g_T | apply h_T); (focus (simp -dsimp -implicitDefEqProofs (disch := first | omega | (simp <;> omega) | fail) [g1, g4, i1, i2, fc]; done))) | ((with_reducible first | apply i_F | apply g_F | apply h_F); (focus (simp -dsimp -implicitDefEqProofs (disch := first | omega | (simp <;> omega) | fail) [g1, g4, i1, i2, fc]; done))))
      exact hL (by simp [g1]) (by simp [g4]) (h3 ▸ hI.set)
    · rw [if_neg hk6] at h3
      repeat (first | simp -dsimp -implicitDefEqProofs (disch := first | omega | (simp <;> omega) | fail) [g1, g4, i1, i2, hk1, hk6] | (with_reducible apply m_draw) | ((with_reducible refine ⟨m_op ?_, ?_⟩); (focus (simp -dsimp -implicitDefEqProofs (disch := first | omega | (simp <;> omega) | fail) [g1, g4, i1, i2, hk1, hk6]; done))) | ((with_reducible first | apply m_d1 rfl | apply m_dE | apply m_dE0); (focus ((conv => lhs; simp -dsimp -implicitDefEqProofs (disch := first | omega | (simp <;> omega) | fail) [g1, g4, i1, i2, hk1, hk6]); done))) | ((with_reducible first | apply m_1 | apply m_0); (focus ((conv => lhs; simp -dsimp -implicitDefEqProofs (disch := first | omega | (simp <;> omega) | fail) [g1, g4, i1, i2, hk1, hk6]); done))) | ((with_reducible first | apply i_T | apply g_T | apply h_T); (focus (simp -dsimp -implicitDefEqProofs (disch := first | omega | (simp <;> omega) | fail) [g1, g4, i1, i2, hk1, hk6]; done))) | ((with_reducible first | apply i_F | apply g_F | apply h_F); (focus (simp -dsimp -implicitDefEqProofs (disch := first | omega | (simp <;> omega) | fail) [g1, g4, i1, i2, hk1, hk6]; done))))
      exact hL (by simp [g1]) (by simp [g4]) (h3 ▸ hI)
end Go.Proofs.Ytmfhchaoijiodaa
end
section
namespace Go.Proofs.Ytmfhchaoijiodaa
open Go.Ab
set_option linter.unusedVariables false
set_option linter.unusedSimpArgs false
set_option maxRecDepth 100000
set_option maxHeartbeats 1000000
theorem pb2_snoc {p : Prt} {k : Nat} (h : k < (numsP p.kd p.mr p.he).length) : pb2 p (k + 1) = pb2 p k ++ putS (numAt p (numsP p.kd p.mr p.he)[k]) := by
  have e : (numsP p.kd p.mr p.he).take (k + 1) = (numsP p.kd p.mr p.he).take k ++ [(numsP p.kd p.mr p.he)[k]] := (List.take_append_getElem h).symm
  unfold pb2; rw [e, List.foldl_append]; rfl
theorem nums_mem {kd : Int} {mr he : Bool} {o : Nat} (h : o ∈ numsP kd mr he) : o = 3 ∨ o = 4 ∨ o = 5 ∨ o = 6 ∨ o = 7 := by
  unfold numsP numsA numsB at h
  rcases List.mem_append.1 h with h | h <;> (split at h <;> simp at h <;> omega)
theorem PbI.other {s : AState} {p : Prt} {a c : Nat} {b : ByteArray} {D : List Nat} {s1 : AState} (h : PbI s p a c b D s1) {x : Nat} (o : AObj) (h0 : s.n ≤ x) (hx : x < s1.n) (xa : a ≠ x) (xc : c ≠ x) (xd : x ∉ D) : PbI s p a c b D (s1.set x o) :=
  ⟨(AState.get_set_ne _ _ xa).trans h.pa, (AState.get_set_ne _ _ xc).trans h.pc, h.pg.set _ h0 hx, h.a0, h.c0, h.ac, ⟨fun z hz => ⟨(h.pd.1 z hz).1, (AState.get_set_ne _ _ (fun (e : z = x) => xd (by rw [← e]; exact hz))).trans (h.pd.1 z hz).2⟩, h.pd.2⟩, h.cd⟩
theorem PbI.dfd {s : AState} {p : Prt} {a c : Nat} {b : ByteArray} {s1 : AState} (h : PbI s p a c b [] s1) {x : Nat} (h0 : s.n ≤ x) (hx : s1.get x = .defd) (xc : c ≠ x) : PbI s p a c b [x] s1 :=
  ⟨h.pa, h.pc, h.pg, h.a0, h.c0, h.ac, Dfs.cons (.nil _ _) h0 hx (by simp), by simpa using xc⟩
structure PnI (s : AState) (p : Prt) (a c : Nat) (D : List Nat) (s1 : AState) (k : Nat) (s' : AState) : Prop where
  i : PbI s p a c (pb2 p k) D s'
  b : s'.get s1.n = .cells [.p a 0]
  n : s1.n + 3 ≤ s'.n
theorem pb_N {p : Prt} (hp : OkP p) {s s1 : AState} {e : List (Nat × AV)} {a c : Nat} (g1 : Ab.get e 1 = .p a 0) (g4 : Ab.get e 4 = .p c 0) (hI : PbI s p a c (pb1 p) [] s1) :
    wp prog none pbT5 (fnQ [.tmp 2, .tmp 3] (fun x s' => Grows s s' ∧ x.le (.tup [.v (.string (partS p)), .v (.int .i64 0)]))) { t := den 85 e, d := [] } s1 := by
  have hMI := MI_eq
  obtain ⟨T, hT⟩ : ∃ T, T = pbT6 := ⟨_, rfl⟩
  have hT2 := hT
  simp only [pbT6, pbT5, pbT4, A_part_Bytes, ACode.nx] at hT2
  simp only [pbT5, pbT4, A_part_Bytes, ACode.nx]
  rw [← hT2]
  clear hT2
  have hM := fun {s1 e D} => pb_M hp (s := s) (s1 := s1) (e := e) (a := a) (c := c) (D := D)
  rw [← hT] at hM
  have i1 := hI.pa
  have i2 := hI.pc
  have n1 := AState.lt_of_get i1 (by simp)
  have n2 := AState.lt_of_get i2 (by simp)
  repeat (first | simp -dsimp -implicitDefEqProofs (disch := first | omega | (simp <;> omega) | fail) [g1, g4] | ((with_reducible first | apply m_1 | apply m_0); (focus ((conv => lhs; simp -dsimp -implicitDefEqProofs (disch := first | omega | (simp <;> omega) | fail) [g1, g4]); done))) | ((with_reducible first | apply i_T | apply g_T); (focus (simp -dsimp -implicitDefEqProofs (disch := first | omega | (simp <;> omega) | fail) [g1, g4]; done))) | ((with_reducible first | apply i_F | apply g_F); (focus (simp -dsimp -implicitDefEqProofs (disch := first | omega | (simp <;> omega) | fail) [g1, g4]; done))))
  refine gv (ct_part_numbers (a := a)) ?_
  repeat (first | simp -dsimp -implicitDefEqProofs (disch := first | omega | (simp <;> omega) | fail) | ((with_reducible first | apply m_1 | apply m_0); (focus ((conv => lhs; simp -dsimp -implicitDefEqProofs (disch := first | omega | (simp <;> omega) | fail)); done))) | ((with_reducible first | apply i_T | apply g_T); (focus (simp -dsimp -implicitDefEqProofs (disch := first | omega | (simp <;> omega) | fail); done))) | ((with_reducible first | apply i_F | apply g_F); (focus (simp -dsimp -implicitDefEqProofs (disch := first | omega | (simp <;> omega) | fail); done))))
  have hsn : (s1.alloc (.cells [.p a 0])).n = s1.n + 1 := by simp
  refine w_rangeS (m := (numsP p.kd p.mr p.he).length) (by simp) (it_part_numbers (b := s1.n) (a := a) (kd := p.kd) (mr := p.mr) (he := p.he)) (by intro x hx; obtain ⟨o, _, rfl⟩ := List.mem_map.1 hx; rfl) (by simp) (fun k s' => PnI s p a c [] s1 k s') (fun j s' => False) ?_ ?_ ?_ ?_ ?_ ?_ ?_
  · intro LR
    exact ⟨by simpa [pb2] using ((hI.alloc _).alloc _).alloc _, dz0, by simp⟩
  · rintro k s' ⟨h1, h2, h3⟩
    exact ⟨h2, _, _, _, _, _, _, _, h1.pa⟩
  · rintro k s' o hn ⟨h1, h2, h3⟩
    exact ⟨h1.alloc _, dz1 h2, by simp; omega⟩
  · intro j s' o hn h; exact h.elim
  · intro LR LB LJ hLB hLR k hk s' hd hLL hln hJ
    have hk' : k < (numsP p.kd p.mr p.he).length := by simpa using hk
    obtain ⟨h1, h2, h3⟩ := hJ
    have hsnoc := pb2_snoc hk'
    have hmem := nums_mem (List.getElem_mem hk')
    have hz := pb2_size hp k
    have hkl := nums_len p.kd p.mr p.he
    simp only [hsn, List.getElem_map, List.zip_cons_cons, List.zip_nil_right, List.reverse_cons, List.reverse_nil, List.nil_append, List.cons_append] at hd hLL hln ⊢
    generalize (numsP p.kd p.mr p.he)[k] = o at hsnoc hmem ⊢
    have j1 := h1.pa
    have j2 := h1.pc
    have hb := numAt_bd hp o
    have z1 := putZ hb.1 hb.2
    have fa : ((pb2 p k).size : Int) + ((putS (numAt p o)).size : Int) ≤ 9223372036854775807 := by omega
    have hgn := h1.pg.n
    have hgn1 := hI.pg.n
    have hcn : c ≠ s1.n + 1 + 1 := by omega
    have n1' := AState.lt_of_get j1 (by simp)
    have n2' := AState.lt_of_get j2 (by simp)
    rcases hmem with rfl | rfl | rfl | rfl | rfl
    all_goals (
      repeat (first | simp -dsimp -implicitDefEqProofs (disch := first | omega | (simp <;> omega) | fail) [hLL, g4, j1, j2] | (with_reducible apply m_draw) | ((with_reducible refine ⟨m_op ?_, ?_⟩); (focus (simp -dsimp -implicitDefEqProofs (disch := first | omega | (simp <;> omega) | fail) [hLL, g4, j1, j2]; done))) | ((with_reducible first | apply m_d1 rfl | apply m_dE | apply m_dE0); (focus ((conv => lhs; simp -dsimp -implicitDefEqProofs (disch := first | omega | (simp <;> omega) | fail) [hLL, g4, j1, j2]); done))) | ((with_reducible first | apply m_1 | apply m_0); (focus ((conv => lhs; simp -dsimp -implicitDefEqProofs (disch := first | omega | (simp <;> omega) | fail) [hLL, g4, j1, j2]); done))) | ((with_reducible first | apply i_T | apply g_T | apply h_T); (focus (simp -dsimp -implicitDefEqProofs (disch := first | omega | (simp <;> omega) | fail) [hLL, g4, j1, j2]; done))) | ((with_reducible first | apply i_F | apply g_F | apply h_F); (focus (simp -dsimp -implicitDefEqProofs (disch := first | omega | (simp <;> omega) | fail) [hLL, g4, j1, j2]; done))))
      refine gv (ct_code_Put (n := _) hb.1 (by omega)) ?_
      repeat (first | simp -dsimp -implicitDefEqProofs (disch := first | omega | (simp <;> omega) | fail) [hLL, g4, j1, j2, fa] | (with_reducible apply m_draw) | ((with_reducible refine ⟨m_op ?_, ?_⟩); (focus (simp -dsimp -implicitDefEqProofs (disch := first | omega | (simp <;> omega) | fail) [hLL, g4, j1, j2, fa]; done))) | ((with_reducible first | apply m_d1 rfl | apply m_dE | apply m_dE0); (focus ((conv => lhs; simp -dsimp -implicitDefEqProofs (disch := first | omega | (simp <;> omega) | fail) [hLL, g4, j1, j2, fa]); done))) | ((with_reducible first | apply m_1 | apply m_0); (focus ((conv => lhs; simp -dsimp -implicitDefEqProofs (disch := first | omega | (simp <;> omega) | fail) [hLL, g4, j1, j2, fa]); done))) | ((with_reducible first | apply i_T | apply g_T | apply h_T); (focus (simp -dsimp -implicitDefEqProofs (disch := first | omega | (simp <;> omega) | fail) [hLL, g4, j1, j2, fa]; done))) | ((with_reducible first | apply i_F | apply g_F | apply h_F); (focus (simp -dsimp -implicitDefEqProofs (disch := first | omega | (simp <;> omega) | fail) [hLL, g4, j1, j2, fa]; done))))
      refine fins_n (fun d hd' => by cases hd'; simp (disch := first | omega | (simp <;> omega) | fail) [hd]) (dz0) ⟨?_, dz1 h2, by simpa using h3⟩
      rw [hsnoc]
      exact ((h1.other LB (by omega) (by omega) (by omega) (by omega) (by simp)).set).other LR (by omega) (by simpa using hln) (by omega) (by omega) (by simp))
  · rintro s' hd hln ⟨h1, h2, h3⟩
    simp only [hsn] at hd hln ⊢
    have i1 := h1.pa
    have i2 := h1.pc
    have e9 : pb2 p (numsP p.kd p.mr p.he).length = pb2 p 9 := by
      have := nums_len p.kd p.mr p.he
      unfold pb2; rw [List.take_length, List.take_of_length_le (by omega)]
    rw [e9] at h1
    repeat (first | simp -dsimp -implicitDefEqProofs (disch := first | omega | (simp <;> omega) | fail) | ((with_reducible first | apply m_1 | apply m_0); (focus ((conv => lhs; simp -dsimp -implicitDefEqProofs (disch := first | omega | (simp <;> omega) | fail)); done))) | ((with_reducible first | apply i_T | apply g_T); (focus (simp -dsimp -implicitDefEqProofs (disch := first | omega | (simp <;> omega) | fail); done))) | ((with_reducible first | apply i_F | apply g_F); (focus (simp -dsimp -implicitDefEqProofs (disch := first | omega | (simp <;> omega) | fail); done))))
    have hgn1 := hI.pg.n
    refine hM (by simp [g1]) (by simp [g4]) ?_
    exact (h1.other .dead (by omega) (by omega) (by omega) (by omega) (by simp)).dfd (by omega) (by simp (disch := first | omega | (simp <;> omega) | fail) [hd]) (by omega)
  · intro j s' _ _ h; exact h.elim
theorem ct_part_Bytes {p : Prt} (h : isPart p = true) {s : AState} : Gives prog F_part_Bytes [p.av] s (.tup [.v (.string (partS p)), .v (.int .i64 0)]) s := by
  have hMI := MI_eq
  have hp := okP h
  refine Runs.gives' (runs_e h_part_Bytes (Nat.le_of_ble_eq_true rfl) ?_) (Flat.tup (by simp; exact ⟨.v _, .v _⟩))
  obtain ⟨T, hT⟩ : ∃ T, T = pbT5 := ⟨_, rfl⟩
  have hT2 := hT
  simp only [pbT5, pbT4, A_part_Bytes, ACode.nx] at hT2
  rw [← hT2]
  clear hT2
  have hN := fun {s1 e} => pb_N hp (s := s) (s1 := s1) (e := e) (a := s.n) (c := s.n + 1)
  rw [← hT] at hN
  have hl := hp.len
  have z1 := putZ (n := p.gr) hp.gr.1 (by have := hp.gr; omega)
  have z2 := putZ (n := p.kd) (by have := hp.kd; omega) (by have := hp.kd; omega)
  have z3 := putZ (n := flagsS p) (flags_bd p).1 (by have := (flags_bd p).2; omega)
  have f3 := flags_bd p
  have z0 := pb0_size hp
  have g0 := hp.gr
  have k0 := hp.kd
  have fa : ((putS p.gr).size : Int) + ((putS p.kd).size : Int) ≤ 9223372036854775807 := by omega
  have fb : ((putS p.gr).size : Int) + ((putS p.kd).size : Int) + ((putS (flagsS p)).size : Int) ≤ 9223372036854775807 := by omega
  repeat (first | simp -dsimp -implicitDefEqProofs (disch := first | omega | (simp <;> omega) | fail) | ((with_reducible first | apply m_1 | apply m_0); (focus ((conv => lhs; simp -dsimp -implicitDefEqProofs (disch := first | omega | (simp <;> omega) | fail)); done))) | ((with_reducible first | apply i_T | apply g_T); (focus (simp -dsimp -implicitDefEqProofs (disch := first | omega | (simp <;> omega) | fail); done))) | ((with_reducible first | apply i_F | apply g_F); (focus (simp -dsimp -implicitDefEqProofs (disch := first | omega | (simp <;> omega) | fail); done))))
  refine giv (ct_part_Is (p := p) (by omega)) (by first | (simp; done) | rfl | (simp; rfl)) ?_
  by_cases hk : p.kd = 6
  · have hI : PbI s p s.n (s.n + 1) (pb1 p) [] ((s.alloc (.cells p.cells)).alloc (.cells [.v (.string (pb1 p))])) :=
      ⟨by simp (disch := first | omega | (simp <;> omega) | fail), by simp (disch := first | omega | (simp <;> omega) | fail), ((Grows.refl s).alloc _).alloc _, Nat.le_refl _, by omega, by omega, .nil _ _, by simp⟩
    have e1 : pb1 p = putS p.gr ++ putS 6 ++ putS (flagsS p) := by rw [← hk]; exact if_pos hk
    rw [hk] at fa fb
    repeat (first | simp -dsimp -implicitDefEqProofs (disch := first | omega | (simp <;> omega) | fail) [h, fa, hk] | (with_reducible apply m_draw) | ((with_reducible refine ⟨m_op ?_, ?_⟩); (focus (simp -dsimp -implicitDefEqProofs (disch := first | omega | (simp <;> omega) | fail) [h, fa, hk]; done))) | ((with_reducible first | apply m_d1 rfl | apply m_dE | apply m_dE0); (focus ((conv => lhs; simp -dsimp -implicitDefEqProofs (disch := first | omega | (simp <;> omega) | fail) [h, fa, hk]); done))) | ((with_reducible apply givQ); (case hAR => ((conv => lhs; simp -dsimp -implicitDefEqProofs (disch := first | omega | (simp <;> omega) | fail) [h, fa, hk]); done)); (case hCT => intro _ _; (first | (apply ct_code_Put <;> first | assumption | omega | decide)))) | ((with_reducible first | apply m_1 | apply m_0); (focus ((conv => lhs; simp -dsimp -implicitDefEqProofs (disch := first | omega | (simp <;> omega) | fail) [h, fa, hk]); done))) | ((with_reducible apply giv); (case hAR => ((conv => lhs; simp -dsimp -implicitDefEqProofs (disch := first | omega | (simp <;> omega) | fail) [h, fa, hk]); done)); (case hCT => (first | (apply ct_code_Put <;> first | assumption | omega | decide)))) | ((with_reducible first | apply i_T | apply g_T | apply h_T); (focus (simp -dsimp -implicitDefEqProofs (disch := first | omega | (simp <;> omega) | fail) [h, fa, hk]; done))) | ((with_reducible first | apply i_F | apply g_F | apply h_F); (focus (simp -dsimp -implicitDefEqProofs (disch := first | omega | (simp <;> omega) | fail) [h, fa, hk]; done))))
    refine ⟨.of_ext (AState.ext_alloc _ _), ?_⟩
    repeat (first | simp -dsimp -implicitDefEqProofs (disch := first | omega | (simp <;> omega) | fail) [fa, hk] | (with_reducible apply m_draw) | ((with_reducible refine ⟨m_op ?_, ?_⟩); (focus (simp -dsimp -implicitDefEqProofs (disch := first | omega | (simp <;> omega) | fail) [fa, hk]; done))) | ((with_reducible first | apply m_d1 rfl | apply m_dE | apply m_dE0); (focus ((conv => lhs; simp -dsimp -implicitDefEqProofs (disch := first | omega | (simp <;> omega) | fail) [fa, hk]); done))) | ((with_reducible first | apply m_1 | apply m_0); (focus ((conv => lhs; simp -dsimp -implicitDefEqProofs (disch := first | omega | (simp <;> omega) | fail) [fa, hk]); done))) | ((with_reducible first | apply i_T | apply g_T | apply h_T); (focus (simp -dsimp -implicitDefEqProofs (disch := first | omega | (simp <;> omega) | fail) [fa, hk]; done))) | ((with_reducible first | apply i_F | apply g_F | apply h_F); (focus (simp -dsimp -implicitDefEqProofs (disch := first | omega | (simp <;> omega) | fail) [fa, hk]; done))))
    refine giv (ct_part_flags (p := p)) (by first | (simp; done) | rfl | (simp; rfl)) ?_
    refine sd2 fa hk ?_
    refine gv (ct_code_Put (n := flagsS p) (by omega) (by omega)) ?_
    repeat (first | simp -dsimp -implicitDefEqProofs (disch := first | omega | (simp <;> omega) | fail) [fa, fb] | (with_reducible apply m_draw) | ((with_reducible refine ⟨m_op ?_, ?_⟩); (focus (simp -dsimp -implicitDefEqProofs (disch := first | omega | (simp <;> omega) | fail) [fa, fb]; done))) | ((with_reducible first | apply m_d1 rfl | apply m_dE | apply m_dE0); (focus ((conv => lhs; simp -dsimp -implicitDefEqProofs (disch := first | omega | (simp <;> omega) | fail) [fa, fb]); done))) | ((with_reducible first | apply m_1 | apply m_0); (focus ((conv => lhs; simp -dsimp -implicitDefEqProofs (disch := first | omega | (simp <;> omega) | fail) [fa, fb]); done))) | ((with_reducible first | apply i_T | apply g_T | apply h_T); (focus (simp -dsimp -implicitDefEqProofs (disch := first | omega | (simp <;> omega) | fail) [fa, fb]; done))) | ((with_reducible first | apply i_F | apply g_F | apply h_F); (focus (simp -dsimp -implicitDefEqProofs (disch := first | omega | (simp <;> omega) | fail) [fa, fb]; done))))
    exact hN (by simp) (by simp) (e1 ▸ hI)
  · have hI : PbI s p s.n (s.n + 1) (pb1 p) [] ((s.alloc (.cells p.cells)).alloc (.cells [.v (.string (pb1 p))])) :=
      ⟨by simp (disch := first | omega | (simp <;> omega) | fail), by simp (disch := first | omega | (simp <;> omega) | fail), ((Grows.refl s).alloc _).alloc _, Nat.le_refl _, by omega, by omega, .nil _ _, by simp⟩
    have e1 : pb1 p = putS p.gr ++ putS p.kd := if_neg hk
    repeat (first | simp -dsimp -implicitDefEqProofs (disch := first | omega | (simp <;> omega) | fail) [h, fa, hk] | (with_reducible apply m_draw) | ((with_reducible refine ⟨m_op ?_, ?_⟩); (focus (simp -dsimp -implicitDefEqProofs (disch := first | omega | (simp <;> omega) | fail) [h, fa, hk]; done))) | ((with_reducible first | apply m_d1 rfl | apply m_dE | apply m_dE0); (focus ((conv => lhs; simp -dsimp -implicitDefEqProofs (disch := first | omega | (simp <;> omega) | fail) [h, fa, hk]); done))) | ((with_reducible apply givQ); (case hAR => ((conv => lhs; simp -dsimp -implicitDefEqProofs (disch := first | omega | (simp <;> omega) | fail) [h, fa, hk]); done)); (case hCT => intro _ _; (first | (apply ct_code_Put <;> first | assumption | omega | decide)))) | ((with_reducible first | apply m_1 | apply m_0); (focus ((conv => lhs; simp -dsimp -implicitDefEqProofs (disch := first | omega | (simp <;> omega) | fail) [h, fa, hk]); done))) | ((with_reducible apply giv); (case hAR => ((conv => lhs; simp -dsimp -implicitDefEqProofs (disch := first | omega | (simp <;> omega) | fail) [h, fa, hk]); done)); (case hCT => (first | (apply ct_code_Put <;> first | assumption | omega | decide)))) | ((with_reducible first | apply i_T | apply g_T | apply h_T); (focus (simp -dsimp -implicitDefEqProofs (disch := first | omega | (simp <;> omega) | fail) [h, fa, hk]; done))) | ((with_reducible first | apply i_F | apply g_F | apply h_F); (focus (simp -dsimp -implicitDefEqProofs (disch := first | omega | (simp <;> omega) | fail) [h, fa, hk]; done))))
    refine ⟨.of_ext (AState.ext_alloc _ _), ?_⟩
    refine sd2 fa hk ?_
    exact hN (by simp) (by simp) (e1 ▸ hI)
end Go.Proofs.Ytmfhchaoijiodaa
end
section
namespace Go.Ab
set_option linter.unusedVariables false
def fwdP (l : List Prt) : Bool := decide ((l.getD 0 default).kd = 6)
def goodR (l : List Prt) (p : Prt) : Bool := isPart p && (decide (p.kd = 6) == fwdP l)
def isRec (r : Rec) : Bool := decide (1 ≤ r.sq) && decide (r.sq ≤ 1125899906842624) && decide (1 ≤ r.ps.length) && decide (r.ps.length ≤ 4) && r.ps.all (goodR r.ps)
theorem isRec_iff {r : Rec} : isRec r = true ↔ 1 ≤ r.sq ∧ r.sq ≤ 1125899906842624 ∧ 1 ≤ r.ps.length ∧ r.ps.length ≤ 4 ∧ ∀ p ∈ r.ps, goodR r.ps p = true := by
  simp only [isRec, Bool.and_eq_true, decide_eq_true_eq, List.all_eq_true, and_assoc]
structure RisI (s : AState) (r : Rec) (l : Nat) (k : Nat) (s' : AState) : Prop where
  g : Grows s s'
  n : s.n + 6 ≤ s'.n
  f : s'.get (s.n + 1) = .cells [.v (.bool false)]
  b : s'.get l = .cells [.sl (r.ps.map Prt.av) .no]
  c : s'.get (s.n + 2) = .cells [.v (.bool (fwdP r.ps))]
  ok : ∀ p ∈ r.ps.take k, goodR r.ps p = true
structure RisJ (s : AState) (r : Rec) (l : Nat) (j : AJump) (s' : AState) : Prop where
  j : j = .ret
  g : Grows s s'
  n : s.n + 6 ≤ s'.n
  b : s'.get (s.n + 1) = .cells [.v (.bool false)]
  bad : isRec r = false
end Go.Ab
namespace Go.Proofs.Ytmfhchaoijiodaa
open Go.Ab
set_option linter.unusedVariables false
set_option linter.unusedSimpArgs false
set_option maxRecDepth 100000
set_option maxHeartbeats 1000000
theorem ct_record_Is {r : Rec} {s : AState} (hl : (r.ps.length : Int) < 9223372036854775808) (hes : ∀ p ∈ r.ps, (p.es.length : Int) < 9223372036854775808) : Gives prog F_record_Is [r.av] s (.v (.bool (isRec r))) s := by
  refine Runs.gives' (runs_e h_record_Is (Nat.le_of_ble_eq_true rfl) ?_) (.v _)
  have out : (r.sq < 1 ∨ 1125899906842624 < r.sq ∨ r.ps.length < 1 ∨ 4 < r.ps.length) → isRec r = false := fun h => by
    rw [Bool.eq_false_iff]; intro h'; have := isRec_iff.1 h'; omega
  by_cases c1 : r.sq < 1
  · have h0 := out (.inl c1)
    repeat (first | simp -dsimp -implicitDefEqProofs (disch := first | omega | (simp <;> omega) | fail) [c1] | ((with_reducible first | apply m_1 | apply m_0); (focus ((conv => lhs; simp -dsimp -implicitDefEqProofs (disch := first | omega | (simp <;> omega) | fail) [c1]); done))) | ((with_reducible first | apply i_T | apply g_T); (focus (simp -dsimp -implicitDefEqProofs (disch := first | omega | (simp <;> omega) | fail) [c1]; done))) | ((with_reducible first | apply i_F | apply g_F); (focus (simp -dsimp -implicitDefEqProofs (disch := first | omega | (simp <;> omega) | fail) [c1]; done))))
    refine ret_ok (by simp; rfl) ⟨((Grows.refl _).alloc _).alloc _, ?_⟩
    rw [h0]; simp [retVal]; exact .refl _
  by_cases c2 : 1125899906842624 < r.sq
  · have h0 := out (.inr (.inl c2))
    repeat (first | simp -dsimp -implicitDefEqProofs (disch := first | omega | (simp <;> omega) | fail) [c1, c2] | ((with_reducible first | apply m_1 | apply m_0); (focus ((conv => lhs; simp -dsimp -implicitDefEqProofs (disch := first | omega | (simp <;> omega) | fail) [c1, c2]); done))) | ((with_reducible first | apply i_T | apply g_T); (focus (simp -dsimp -implicitDefEqProofs (disch := first | omega | (simp <;> omega) | fail) [c1, c2]; done))) | ((with_reducible first | apply i_F | apply g_F); (focus (simp -dsimp -implicitDefEqProofs (disch := first | omega | (simp <;> omega) | fail) [c1, c2]; done))))
    refine ret_ok (by simp; rfl) ⟨((Grows.refl _).alloc _).alloc _, ?_⟩
    rw [h0]; simp [retVal]; exact .refl _
  by_cases c3 : (r.ps.length : Int) < 1
  · have h0 := out (.inr (.inr (.inl (by omega))))
    repeat (first | simp -dsimp -implicitDefEqProofs (disch := first | omega | (simp <;> omega) | fail) [c1, c2, c3] | ((with_reducible first | apply m_1 | apply m_0); (focus ((conv => lhs; simp -dsimp -implicitDefEqProofs (disch := first | omega | (simp <;> omega) | fail) [c1, c2, c3]); done))) | ((with_reducible first | apply i_T | apply g_T); (focus (simp -dsimp -implicitDefEqProofs (disch := first | omega | (simp <;> omega) | fail) [c1, c2, c3]; done))) | ((with_reducible first | apply i_F | apply g_F); (focus (simp -dsimp -implicitDefEqProofs (disch := first | omega | (simp <;> omega) | fail) [c1, c2, c3]; done))))
    refine ret_ok (by simp; rfl) ⟨((Grows.refl _).alloc _).alloc _, ?_⟩
    rw [h0]; simp [retVal]; exact .refl _
  by_cases c4 : (4 : Int) < r.ps.length
  · have h0 := out (.inr (.inr (.inr (by omega))))
    repeat (first | simp -dsimp -implicitDefEqProofs (disch := first | omega | (simp <;> omega) | fail) [c1, c2, c3, c4] | ((with_reducible first | apply m_1 | apply m_0); (focus ((conv => lhs; simp -dsimp -implicitDefEqProofs (disch := first | omega | (simp <;> omega) | fail) [c1, c2, c3, c4]); done))) | ((with_reducible first | apply i_T | apply g_T); (focus (simp -dsimp -implicitDefEqProofs (disch := first | omega | (simp <;> omega) | fail) [c1, c2, c3, c4]; done))) | ((with_reducible first | apply i_F | apply g_F); (focus (simp -dsimp -implicitDefEqProofs (disch := first | omega | (simp <;> omega) | fail) [c1, c2, c3, c4]; done))))
    refine ret_ok (by simp; rfl) ⟨((Grows.refl _).alloc _).alloc _, ?_⟩
    rw [h0]; simp [retVal]; exact .refl _
  have hlt : 0 < r.ps.length := by omega
  repeat (first | simp -dsimp -implicitDefEqProofs (disch := first | omega | (simp <;> omega) | fail) [c1, c2, c3, c4, hlt] | ((with_reducible first | apply m_1 | apply m_0); (focus ((conv => lhs; simp -dsimp -implicitDefEqProofs (disch := first | omega | (simp <;> omega) | fail) [c1, c2, c3, c4, hlt]); done))) | ((with_reducible first | apply i_T | apply g_T); (focus (simp -dsimp -implicitDefEqProofs (disch := first | omega | (simp <;> omega) | fail) [c1, c2, c3, c4, hlt]; done))) | ((with_reducible first | apply i_F | apply g_F); (focus (simp -dsimp -implicitDefEqProofs (disch := first | omega | (simp <;> omega) | fail) [c1, c2, c3, c4, hlt]; done))))
  refine gv (ct_slices_Values_Part (xs := r.ps.map Prt.av)) ?_
  repeat (first | simp -dsimp -implicitDefEqProofs (disch := first | omega | (simp <;> omega) | fail) | ((with_reducible first | apply m_1 | apply m_0); (focus ((conv => lhs; simp -dsimp -implicitDefEqProofs (disch := first | omega | (simp <;> omega) | fail)); done))) | ((with_reducible first | apply i_T | apply g_T); (focus (simp -dsimp -implicitDefEqProofs (disch := first | omega | (simp <;> omega) | fail); done))) | ((with_reducible first | apply i_F | apply g_F); (focus (simp -dsimp -implicitDefEqProofs (disch := first | omega | (simp <;> omega) | fail); done))))
  have hsn : ((((s.alloc (.cells r.cells)).alloc (.cells [.v (.bool false)])).alloc (.cells [.v (.bool (r.ps[0].kd == 6))])).alloc (.cells [.sl (r.ps.map Prt.av) .no])).n = s.n + 4 := by simp
  have hf : fwdP r.ps = (r.ps[0].kd == 6) := by
    unfold fwdP; rw [List.getD_eq_getElem?_getD, List.getElem?_eq_getElem hlt]; simp only [Option.getD_some]
    by_cases h : r.ps[0].kd = 6 <;> simp [h]
  refine w_rangeS (m := r.ps.length) (by simp) (it_slices_Values_Part r.ps (s.n + 3) (by omega)) (by intro x hx; obtain ⟨p, _, rfl⟩ := List.mem_map.1 hx; rfl) (by simp) (fun k s' => RisI s r (s.n + 3) k s') (fun j s' => RisJ s r (s.n + 3) j s') ?_ ?_ ?_ ?_ ?_ ?_ ?_
  · intro LR
    exact ⟨(((((((Grows.refl _).alloc _).alloc _).alloc _).alloc _).alloc _).alloc _), by simp, by simp (disch := first | omega | (simp <;> omega) | fail), by simp (disch := first | omega | (simp <;> omega) | fail), by simp (disch := first | omega | (simp <;> omega) | fail) [hf], by simp⟩
  · rintro k s' h; exact h.b
  · rintro k s' o hn ⟨g, n, f, b, c, ok⟩
    exact ⟨g.alloc _, by simp; omega, dz1 f, dz1 b, dz1 c, ok⟩
  · rintro j s' o hn ⟨j, g, n, b, bad⟩
    exact ⟨j, g.alloc _, by simp; omega, dz1 b, bad⟩
  · intro LR LB LJ hLB hLR k hk s' hd hLL hln hI
    have hk' : k < r.ps.length := by simpa using hk
    obtain ⟨g, n, f, b, c, ok⟩ := hI
    simp only [hsn, List.getElem_map, List.zip_cons_cons, List.zip_nil_right, List.reverse_cons, List.reverse_nil, List.nil_append, List.cons_append] at hd hLL hln ⊢
    have hp := hes _ (List.getElem_mem hk')
    have hsnoc : ∀ p ∈ r.ps.take (k + 1), p ∈ r.ps.take k ∨ p = r.ps[k] := fun p hp => by
      rw [← List.take_append_getElem hk'] at hp
      simpa only [List.mem_append, List.mem_singleton] using hp
    generalize hq : r.ps[k] = q at hp hsnoc ⊢
    have hqm : q ∈ r.ps := hq ▸ List.getElem_mem hk'
    repeat (first | simp -dsimp -implicitDefEqProofs (disch := first | omega | (simp <;> omega) | fail) [hLL, b, c] | ((with_reducible first | apply m_1 | apply m_0); (focus ((conv => lhs; simp -dsimp -implicitDefEqProofs (disch := first | omega | (simp <;> omega) | fail) [hLL, b, c]); done))) | ((with_reducible first | apply i_T | apply g_T); (focus (simp -dsimp -implicitDefEqProofs (disch := first | omega | (simp <;> omega) | fail) [hLL, b, c]; done))) | ((with_reducible first | apply i_F | apply g_F); (focus (simp -dsimp -implicitDefEqProofs (disch := first | omega | (simp <;> omega) | fail) [hLL, b, c]; done))))
    refine gv (ct_part_Is (p := q) hp) ?_
    have bad : goodR r.ps q = false → isRec r = false := fun h => by
      rw [Bool.eq_false_iff]; intro h'; have := (isRec_iff.1 h').2.2.2.2 q hqm; rw [h] at this; cases this
    cases h1 : isPart q with
    | false =>
      have hb := bad (by simp [goodR, h1])
      repeat (first | simp -dsimp -implicitDefEqProofs (disch := first | omega | (simp <;> omega) | fail) [hLL, b, c, f] | ((with_reducible first | apply m_1 | apply m_0); (focus ((conv => lhs; simp -dsimp -implicitDefEqProofs (disch := first | omega | (simp <;> omega) | fail) [hLL, b, c, f]); done))) | ((with_reducible first | apply i_T | apply g_T); (focus (simp -dsimp -implicitDefEqProofs (disch := first | omega | (simp <;> omega) | fail) [hLL, b, c, f]; done))) | ((with_reducible first | apply i_F | apply g_F); (focus (simp -dsimp -implicitDefEqProofs (disch := first | omega | (simp <;> omega) | fail) [hLL, b, c, f]; done))))
      refine fins_j (fun d hd' => by cases hd'; simp (disch := first | omega | (simp <;> omega) | fail) [hd]) (by simp (disch := first | omega | (simp <;> omega) | fail)) ⟨rfl, (((g.set _ (by omega) (by omega)).set _ (by omega) (by simp; omega)).set _ (by omega) (by simp; omega)).alloc _, by simp; omega, by simp (disch := first | omega | (simp <;> omega) | fail), hb⟩
    | true =>
      by_cases h2 : (q.kd == 6) = fwdP r.ps
      · repeat (first | simp -dsimp -implicitDefEqProofs (disch := first | omega | (simp <;> omega) | fail) [hLL, b, c, f, h2] | ((with_reducible first | apply m_1 | apply m_0); (focus ((conv => lhs; simp -dsimp -implicitDefEqProofs (disch := first | omega | (simp <;> omega) | fail) [hLL, b, c, f, h2]); done))) | ((with_reducible first | apply i_T | apply g_T); (focus (simp -dsimp -implicitDefEqProofs (disch := first | omega | (simp <;> omega) | fail) [hLL, b, c, f, h2]; done))) | ((with_reducible first | apply i_F | apply g_F); (focus (simp -dsimp -implicitDefEqProofs (disch := first | omega | (simp <;> omega) | fail) [hLL, b, c, f, h2]; done))))
        refine fins_n (fun d hd' => by cases hd'; simp (disch := first | omega | (simp <;> omega) | fail) [hd]) (dz0) ⟨(g.set _ (by omega) (by omega)).alloc _, by simp; omega, dz1 f, dz1 b, dz1 c, fun p hp => ?_⟩
        rcases hsnoc p hp with h | rfl
        · exact ok p h
        · simp only [goodR, h1, Bool.true_and, ← h2]; rw [beq_iff_eq, Bool.eq_iff_iff]; simp only [decide_eq_true_eq, beq_iff_eq]
      · have hb := bad (by
          simp only [goodR, h1, Bool.true_and]
          rw [beq_eq_false_iff_ne]
          intro h; apply h2; rw [← h]; by_cases h6 : q.kd = 6 <;> simp [h6])
        repeat (first | simp -dsimp -implicitDefEqProofs (disch := first | omega | (simp <;> omega) | fail) [hLL, b, c, f, h2] | ((with_reducible first | apply m_1 | apply m_0); (focus ((conv => lhs; simp -dsimp -implicitDefEqProofs (disch := first | omega | (simp <;> omega) | fail) [hLL, b, c, f, h2]); done))) | ((with_reducible first | apply i_T | apply g_T); (focus (simp -dsimp -implicitDefEqProofs (disch := first | omega | (simp <;> omega) | fail) [hLL, b, c, f, h2]; done))) | ((with_reducible first | apply i_F | apply g_F); (focus (simp -dsimp -implicitDefEqProofs (disch := first | omega | (simp <;> omega) | fail) [hLL, b, c, f, h2]; done))))
        refine fins_j (fun d hd' => by cases hd'; simp (disch := first | omega | (simp <;> omega) | fail) [hd]) (dz0) ⟨rfl, (((g.set _ (by omega) (by omega)).set _ (by omega) (by simp; omega)).set _ (by omega) (by simp; omega)).alloc _, by simp; omega, dz0, hb⟩
  · rintro s' hd hln ⟨g, n, f, b, c, ok⟩
    simp only [hsn] at hd hln ⊢
    have hall : isRec r = true := isRec_iff.2 ⟨by omega, by omega, by omega, by omega, by simpa using ok⟩
    repeat (first | simp -dsimp -implicitDefEqProofs (disch := first | omega | (simp <;> omega) | fail) [f] | ((with_reducible first | apply m_1 | apply m_0); (focus ((conv => lhs; simp -dsimp -implicitDefEqProofs (disch := first | omega | (simp <;> omega) | fail) [f]); done))) | ((with_reducible first | apply i_T | apply g_T); (focus (simp -dsimp -implicitDefEqProofs (disch := first | omega | (simp <;> omega) | fail) [f]; done))) | ((with_reducible first | apply i_F | apply g_F); (focus (simp -dsimp -implicitDefEqProofs (disch := first | omega | (simp <;> omega) | fail) [f]; done))))
    have hD : Dfs s.n ((s'.set (s.n + 4 + 1) .dead).set (s.n + 1) (.cells [.v (.bool true)])) [s.n + 4] := Dfs.cons (.nil _ _) (by omega) (by simp (disch := first | omega | (simp <;> omega) | fail) [hd]) (by simp)
    refine ret_okD (fun x hx => (hD.1 x hx).2) hD.2 (by simp (disch := first | omega | (simp <;> omega) | fail) [killAll]; rfl) ⟨killAll_grows ((g.set _ (by omega) (by omega)).set _ (by omega) (by simp; omega)) (Nat.le_refl _) hD, ?_⟩
    rw [hall]; simp [retVal]; exact .refl _
  · rintro j s' hd hln ⟨rfl, g, n, b, bad⟩
    simp only [hsn] at hd hln ⊢
    repeat (first | simp -dsimp -implicitDefEqProofs (disch := first | omega | (simp <;> omega) | fail) [AJump.exitOf, b] | ((with_reducible first | apply m_1 | apply m_0); (focus ((conv => lhs; simp -dsimp -implicitDefEqProofs (disch := first | omega | (simp <;> omega) | fail) [AJump.exitOf, b]); done))) | ((with_reducible first | apply i_T | apply g_T); (focus (simp -dsimp -implicitDefEqProofs (disch := first | omega | (simp <;> omega) | fail) [AJump.exitOf, b]; done))) | ((with_reducible first | apply i_F | apply g_F); (focus (simp -dsimp -implicitDefEqProofs (disch := first | omega | (simp <;> omega) | fail) [AJump.exitOf, b]; done))))
    have hD : Dfs s.n (s'.set (s.n + 4 + 1) .dead) [s.n + 4] := Dfs.cons (.nil _ _) (by omega) (by simp (disch := first | omega | (simp <;> omega) | fail) [hd]) (by simp)
    refine ret_okD (fun x hx => (hD.1 x hx).2) hD.2 (by simp (disch := first | omega | (simp <;> omega) | fail) [killAll, b]; rfl) ⟨killAll_grows (g.set _ (by omega) (by omega)) (Nat.le_refl _) hD, ?_⟩
    rw [bad]; simp [retVal]; exact .refl _
def heldL (s : ByteArray) (l : List Prt) : ByteArray := l.foldl (fun s p => s ++ partS p) s
def heldS (r : Rec) : ByteArray := heldL (putS r.sq ++ putS (r.ps.length : Nat)) r.ps
def recS (r : Rec) : ByteArray := wrapS (heldS r)
theorem heldL_size : ∀ (l : List Prt) (s : ByteArray), (∀ p ∈ l, isPart p = true) → (heldL s l).size ≤ s.size + 464 * l.length := by
  intro l
  induction l with
  | nil => intro s _; simp [heldL]
  | cons p l ih =>
    intro s h
    have h1 := ih (s ++ partS p) fun x hx => h x (by simp [hx])
    have h2 := partS_size (okP (h p (by simp)))
    rw [ba_app2] at h1
    show (heldL (s ++ partS p) l).size ≤ _
    rw [List.length_cons]; omega
theorem heldL_snoc {s : ByteArray} {l : List Prt} {k : Nat} (h : k < l.length) : heldL s (l.take (k + 1)) = heldL s (l.take k) ++ partS l[k] := by
  have e : l.take (k + 1) = l.take k ++ [l[k]] := (List.take_append_getElem h).symm
  unfold heldL; rw [e, List.foldl_append]; rfl
theorem putS_pos (n : Int) : 0 < (putS n).size := by unfold putS; rw [strOfNums_size]; simp [putN]
theorem heldS_size {r : Rec} (h : isRec r = true) : 0 < (heldS r).size ∧ (heldS r).size ≤ 1872 := by
  obtain ⟨h1, h2, h3, h4, h5⟩ := isRec_iff.1 h
  have hp : ∀ p ∈ r.ps, isPart p = true := fun p hp => by have := h5 p hp; simp only [goodR, Bool.and_eq_true] at this; exact this.1
  have a := heldL_size r.ps (putS r.sq ++ putS (r.ps.length : Nat)) hp
  have z1 := putS_size (n := r.sq) (by omega)
  have z2 := putS_size (n := (r.ps.length : Nat)) (by omega)
  have key : ∀ (l : List Prt) (s : ByteArray), s.size ≤ (heldL s l).size := by
    intro l
    induction l with
    | nil => intro s; exact Nat.le_refl _
    | cons p l ih => intro s; have := ih (s ++ partS p); rw [ba_app2] at this; show _ ≤ (heldL (s ++ partS p) l).size; omega
  have b := key r.ps (putS r.sq ++ putS (r.ps.length : Nat))
  have p1 := putS_pos r.sq
  rw [ba_app2] at a b
  unfold heldS; omega
structure HldI (s : AState) (r : Rec) (k : Nat) (s' : AState) : Prop where
  g : Grows s s'
  n : s.n + 5 ≤ s'.n
  b : s'.get (s.n + 2) = .cells [.sl (r.ps.map Prt.av) .no]
  c : s'.get (s.n + 1) = .cells [.v (.string (heldL (putS r.sq ++ putS (r.ps.length : Nat)) (r.ps.take k)))]
theorem ct_record_held {r : Rec} {s : AState} (h : isRec r = true) : Gives prog F_record_held [r.av] s (.v (.string (heldS r))) s := by
  refine Runs.gives' (runs_e h_record_held (Nat.le_of_ble_eq_true rfl) ?_) (.v _)
  obtain ⟨h1, h2, h3, h4, h5⟩ := isRec_iff.1 h
  have hp : ∀ p ∈ r.ps, isPart p = true := fun p hp => by have := h5 p hp; simp only [goodR, Bool.and_eq_true] at this; exact this.1
  have z1 := putS_size (n := r.sq) (by omega)
  have z2 := putS_size (n := (r.ps.length : Nat)) (by omega)
  have g0 : 0 ≤ r.sq ∧ r.sq < 9223372036854775808 := by omega
  have g2 : 0 ≤ ((r.ps.length : Nat) : Int) ∧ ((r.ps.length : Nat) : Int) < 9223372036854775808 := by omega
  have fa : ((putS r.sq).size : Int) + ((putS (r.ps.length : Nat)).size : Int) ≤ 9223372036854775807 := by omega
  have p1 : ∀ {s : AState}, Gives prog F_code_Put [.v (.int .i64 r.sq)] s (.v (.string (putS r.sq))) s := ct_code_Put (by omega) (by omega)
  have p2 : ∀ {s : AState}, Gives prog F_code_Put [.v (.int .i64 (r.ps.length : Nat))] s (.v (.string (putS (r.ps.length : Nat)))) s := ct_code_Put (by omega) (by omega)
  repeat (first | simp -dsimp -implicitDefEqProofs (disch := first | omega | (simp <;> omega) | fail) [fa] | (with_reducible apply m_draw) | ((with_reducible refine ⟨m_op ?_, ?_⟩); (focus (simp -dsimp -implicitDefEqProofs (disch := first | omega | (simp <;> omega) | fail) [fa]; done))) | ((with_reducible first | apply m_d1 rfl | apply m_dE | apply m_dE0); (focus ((conv => lhs; simp -dsimp -implicitDefEqProofs (disch := first | omega | (simp <;> omega) | fail) [fa]); done))) | ((with_reducible apply givQ); (case hAR => ((conv => lhs; simp -dsimp -implicitDefEqProofs (disch := first | omega | (simp <;> omega) | fail) [fa]); done)); (case hCT => intro _ _; (first | (apply p1 <;> first | assumption | omega | decide) | (apply p2 <;> first | assumption | omega | decide)))) | ((with_reducible first | apply m_1 | apply m_0); (focus ((conv => lhs; simp -dsimp -implicitDefEqProofs (disch := first | omega | (simp <;> omega) | fail) [fa]); done))) | ((with_reducible apply giv); (case hAR => ((conv => lhs; simp -dsimp -implicitDefEqProofs (disch := first | omega | (simp <;> omega) | fail) [fa]); done)); (case hCT => (first | (apply p1 <;> first | assumption | omega | decide) | (apply p2 <;> first | assumption | omega | decide)))) | ((with_reducible first | apply i_T | apply g_T | apply h_T); (focus (simp -dsimp -implicitDefEqProofs (disch := first | omega | (simp <;> omega) | fail) [fa]; done))) | ((with_reducible first | apply i_F | apply g_F | apply h_F); (focus (simp -dsimp -implicitDefEqProofs (disch := first | omega | (simp <;> omega) | fail) [fa]; done))))
  refine ⟨.of_ext (AState.ext_alloc _ _), ?_⟩
  repeat (first | simp -dsimp -implicitDefEqProofs (disch := first | omega | (simp <;> omega) | fail) [fa] | (with_reducible apply m_draw) | ((with_reducible refine ⟨m_op ?_, ?_⟩); (focus (simp -dsimp -implicitDefEqProofs (disch := first | omega | (simp <;> omega) | fail) [fa]; done))) | ((with_reducible first | apply m_d1 rfl | apply m_dE | apply m_dE0); (focus ((conv => lhs; simp -dsimp -implicitDefEqProofs (disch := first | omega | (simp <;> omega) | fail) [fa]); done))) | ((with_reducible first | apply m_1 | apply m_0); (focus ((conv => lhs; simp -dsimp -implicitDefEqProofs (disch := first | omega | (simp <;> omega) | fail) [fa]); done))) | ((with_reducible first | apply i_T | apply g_T | apply h_T); (focus (simp -dsimp -implicitDefEqProofs (disch := first | omega | (simp <;> omega) | fail) [fa]; done))) | ((with_reducible first | apply i_F | apply g_F | apply h_F); (focus (simp -dsimp -implicitDefEqProofs (disch := first | omega | (simp <;> omega) | fail) [fa]; done))))
  refine gv (ct_slices_Values_Part (xs := r.ps.map Prt.av)) ?_
  repeat (first | simp -dsimp -implicitDefEqProofs (disch := first | omega | (simp <;> omega) | fail) | ((with_reducible first | apply m_1 | apply m_0); (focus ((conv => lhs; simp -dsimp -implicitDefEqProofs (disch := first | omega | (simp <;> omega) | fail)); done))) | ((with_reducible first | apply i_T | apply g_T); (focus (simp -dsimp -implicitDefEqProofs (disch := first | omega | (simp <;> omega) | fail); done))) | ((with_reducible first | apply i_F | apply g_F); (focus (simp -dsimp -implicitDefEqProofs (disch := first | omega | (simp <;> omega) | fail); done))))
  have hsn : (((s.alloc (.cells r.cells)).alloc (.cells [.v (.string (putS r.sq ++ putS (r.ps.length : Nat)))])).alloc (.cells [.sl (r.ps.map Prt.av) .no])).n = s.n + 3 := by simp
  have hsz := fun k => heldL_size (r.ps.take k) (putS r.sq ++ putS (r.ps.length : Nat)) fun p h => hp p (List.mem_of_mem_take h)
  have hall : heldL (putS r.sq ++ putS (r.ps.length : Nat)) (r.ps.take r.ps.length) = heldS r := by rw [List.take_length]; rfl
  have h00 : (putS r.sq ++ putS (r.ps.length : Nat)).size ≤ 16 := by rw [ba_app2]; omega
  generalize hB : putS r.sq ++ putS (r.ps.length : Nat) = B at *
  refine w_rangeS (m := r.ps.length) (by simp) (it_slices_Values_Part r.ps (s.n + 2) (by omega)) (by intro x hx; obtain ⟨p, _, rfl⟩ := List.mem_map.1 hx; rfl) (by simp) (fun k s' => HldI s r k s') (fun j s' => False) ?_ ?_ ?_ ?_ ?_ ?_ ?_
  · intro LR
    exact ⟨((((((Grows.refl _).alloc _).alloc _).alloc _).alloc _).alloc _), by simp, dz0, by rw [hB]; simp (disch := first | omega | (simp <;> omega) | fail) [heldL]⟩
  · rintro k s' h; exact h.b
  · rintro k s' o hn ⟨g, n, b, c⟩
    exact ⟨g.alloc _, by simp; omega, dz1 b, dz1 c⟩
  · intro j s' o hn h; exact h.elim
  · intro LR LB LJ hLB hLR k hk s' hd hLL hln hI
    have hk' : k < r.ps.length := by simpa using hk
    obtain ⟨g, n, b, c⟩ := hI
    rw [hB] at c
    simp only [hsn, List.getElem_map, List.zip_cons_cons, List.zip_nil_right, List.reverse_cons, List.reverse_nil, List.nil_append, List.cons_append] at hd hLL hln ⊢
    have hq := hp _ (List.getElem_mem hk')
    have hqs := partS_size (okP hq)
    have hsn2 := heldL_snoc (s := B) hk'
    have hk2 := hsz k
    have htl : (r.ps.take k).length ≤ 4 := by rw [List.length_take]; omega
    generalize r.ps[k] = q at hq hqs hsn2 ⊢
    generalize heldL B (r.ps.take k) = h at c hk2 hsn2
    have fb : (h.size : Int) + (partS q).size ≤ 9223372036854775807 := by omega
    repeat (first | simp -dsimp -implicitDefEqProofs (disch := first | omega | (simp <;> omega) | fail) [hLL, c] | ((with_reducible first | apply m_1 | apply m_0); (focus ((conv => lhs; simp -dsimp -implicitDefEqProofs (disch := first | omega | (simp <;> omega) | fail) [hLL, c]); done))) | ((with_reducible first | apply i_T | apply g_T); (focus (simp -dsimp -implicitDefEqProofs (disch := first | omega | (simp <;> omega) | fail) [hLL, c]; done))) | ((with_reducible first | apply i_F | apply g_F); (focus (simp -dsimp -implicitDefEqProofs (disch := first | omega | (simp <;> omega) | fail) [hLL, c]; done))))
    refine gv (ct_part_Bytes hq) ?_
    repeat (first | simp -dsimp -implicitDefEqProofs (disch := first | omega | (simp <;> omega) | fail) [hLL, c, fb] | ((with_reducible first | apply m_1 | apply m_0); (focus ((conv => lhs; simp -dsimp -implicitDefEqProofs (disch := first | omega | (simp <;> omega) | fail) [hLL, c, fb]); done))) | ((with_reducible first | apply i_T | apply g_T); (focus (simp -dsimp -implicitDefEqProofs (disch := first | omega | (simp <;> omega) | fail) [hLL, c, fb]; done))) | ((with_reducible first | apply i_F | apply g_F); (focus (simp -dsimp -implicitDefEqProofs (disch := first | omega | (simp <;> omega) | fail) [hLL, c, fb]; done))))
    refine fins_n (fun d hd' => by cases hd'; simp (disch := first | omega | (simp <;> omega) | fail) [hd]) (dz0) ⟨?_, by simp; omega, dz1 b, by rw [hB, hsn2]; simp (disch := first | omega | (simp <;> omega) | fail)⟩
    first
      | exact (((g.set _ (by omega) (by omega)).set _ (by omega) (by simp; omega)).alloc _).set _ (by omega) (by simp; omega)
      | exact (((g.set _ (by omega) (by omega)).set _ (by omega) (by simp; omega)).set _ (by omega) (by simp; omega)).alloc _
      | exact ((g.set _ (by omega) (by omega)).set _ (by omega) (by simp; omega)).alloc _
  · rintro s' hd hln ⟨g, n, b, c⟩
    rw [hB, hall] at c
    simp only [hsn] at hd hln ⊢
    repeat (first | simp -dsimp -implicitDefEqProofs (disch := first | omega | (simp <;> omega) | fail) [c] | ((with_reducible first | apply m_1 | apply m_0); (focus ((conv => lhs; simp -dsimp -implicitDefEqProofs (disch := first | omega | (simp <;> omega) | fail) [c]); done))) | ((with_reducible first | apply i_T | apply g_T); (focus (simp -dsimp -implicitDefEqProofs (disch := first | omega | (simp <;> omega) | fail) [c]; done))) | ((with_reducible first | apply i_F | apply g_F); (focus (simp -dsimp -implicitDefEqProofs (disch := first | omega | (simp <;> omega) | fail) [c]; done))))
    have hD : Dfs s.n (s'.set (s.n + 3 + 1) .dead) [s.n + 3] := Dfs.cons (.nil _ _) (by omega) (by simp (disch := first | omega | (simp <;> omega) | fail) [hd]) (by simp)
    exact ret_okD (fun x hx => (hD.1 x hx).2) hD.2 (xs := [.v (.string (heldS r))]) (by simp [evRess, evRes, den]) ⟨killAll_grows (g.set _ (by omega) (by omega)) (Nat.le_refl _) hD, .refl _⟩
  · rintro j s' _ _ h; exact h.elim
theorem ct_record_Bytes {r : Rec} {s : AState} (hl : (r.ps.length : Int) < 9223372036854775808) (hes : ∀ p ∈ r.ps, (p.es.length : Int) < 9223372036854775808) :
    Gives prog F_record_Bytes [r.av] s (.tup [.v (.string (if isRec r = true then recS r else ⟨#[]⟩)), .v (.int .i64 (if isRec r = true then 0 else 11))]) s := by
  refine Runs.gives' (runs_e h_record_Bytes (Nat.le_of_ble_eq_true rfl) ?_) (Flat.tup (by simp; exact ⟨.v _, .v _⟩))
  repeat (first | simp -dsimp -implicitDefEqProofs (disch := first | omega | (simp <;> omega) | fail) | ((with_reducible first | apply m_1 | apply m_0); (focus ((conv => lhs; simp -dsimp -implicitDefEqProofs (disch := first | omega | (simp <;> omega) | fail)); done))) | ((with_reducible first | apply i_T | apply g_T); (focus (simp -dsimp -implicitDefEqProofs (disch := first | omega | (simp <;> omega) | fail); done))) | ((with_reducible first | apply i_F | apply g_F); (focus (simp -dsimp -implicitDefEqProofs (disch := first | omega | (simp <;> omega) | fail); done))))
  refine gv (ct_record_Is (r := r) hl hes) ?_
  by_cases h : isRec r = true
  · rw [if_pos h, if_pos h]
    obtain ⟨b1, b2⟩ := heldS_size h
    repeat (first | simp -dsimp -implicitDefEqProofs (disch := first | omega | (simp <;> omega) | fail) [h] | ((with_reducible first | apply m_1 | apply m_0); (focus ((conv => lhs; simp -dsimp -implicitDefEqProofs (disch := first | omega | (simp <;> omega) | fail) [h]); done))) | ((with_reducible first | apply i_T | apply g_T); (focus (simp -dsimp -implicitDefEqProofs (disch := first | omega | (simp <;> omega) | fail) [h]; done))) | ((with_reducible first | apply i_F | apply g_F); (focus (simp -dsimp -implicitDefEqProofs (disch := first | omega | (simp <;> omega) | fail) [h]; done))))
    refine gv (ct_record_held h) ?_
    repeat (first | simp -dsimp -implicitDefEqProofs (disch := first | omega | (simp <;> omega) | fail) | ((with_reducible first | apply m_1 | apply m_0); (focus ((conv => lhs; simp -dsimp -implicitDefEqProofs (disch := first | omega | (simp <;> omega) | fail)); done))) | ((with_reducible first | apply i_T | apply g_T); (focus (simp -dsimp -implicitDefEqProofs (disch := first | omega | (simp <;> omega) | fail); done))) | ((with_reducible first | apply i_F | apply g_F); (focus (simp -dsimp -implicitDefEqProofs (disch := first | omega | (simp <;> omega) | fail); done))))
    refine gv (ct_frame_Wrap (b := heldS r) b1 (by omega)) ?_
    repeat (first | simp -dsimp -implicitDefEqProofs (disch := first | omega | (simp <;> omega) | fail) | ((with_reducible first | apply m_1 | apply m_0); (focus ((conv => lhs; simp -dsimp -implicitDefEqProofs (disch := first | omega | (simp <;> omega) | fail)); done))) | ((with_reducible first | apply i_T | apply g_T); (focus (simp -dsimp -implicitDefEqProofs (disch := first | omega | (simp <;> omega) | fail); done))) | ((with_reducible first | apply i_F | apply g_F); (focus (simp -dsimp -implicitDefEqProofs (disch := first | omega | (simp <;> omega) | fail); done))))
    exact ret_ok rfl ⟨(Grows.refl _).alloc _, .refl _⟩
  · rw [if_neg h, if_neg h]
    have h' : isRec r = false := by simpa using h
    repeat (first | simp -dsimp -implicitDefEqProofs (disch := first | omega | (simp <;> omega) | fail) [h'] | ((with_reducible first | apply m_1 | apply m_0); (focus ((conv => lhs; simp -dsimp -implicitDefEqProofs (disch := first | omega | (simp <;> omega) | fail) [h']); done))) | ((with_reducible first | apply i_T | apply g_T); (focus (simp -dsimp -implicitDefEqProofs (disch := first | omega | (simp <;> omega) | fail) [h']; done))) | ((with_reducible first | apply i_F | apply g_F); (focus (simp -dsimp -implicitDefEqProofs (disch := first | omega | (simp <;> omega) | fail) [h']; done))))
    exact ret_ok rfl ⟨(Grows.refl _).alloc _, .refl _⟩
end Go.Proofs.Ytmfhchaoijiodaa
end
section
namespace Go.Ab
open Go.Proofs.Ytmfhchaoijiodaa
set_option linter.unusedVariables false
def dl : Int → List Ent → Prop
  | _, [] => True
  | f, e :: l => e.ix = f ∧ dl (f + 1) l
theorem dl_get {f : Int} {l : List Ent} : dl f l ↔ ∀ (j : Nat) (h : j < l.length), l[j].ix = f + j := by
  induction l generalizing f with
  | nil => simp [dl]
  | cons e l ih =>
    simp only [dl, ih]
    constructor
    · rintro ⟨h1, h2⟩ j hj
      cases j with
      | zero => simpa using h1
      | succ j => have := h2 j (by simpa using hj); simp only [List.getElem_cons_succ]; omega
    · intro h
      refine ⟨by have := h 0 (by simp); simp only [List.getElem_cons_zero] at this; omega, fun j hj => ?_⟩
      have := h (j + 1) (by simpa using hj)
      simp only [List.getElem_cons_succ] at this; omega
theorem dense_dl {g : Grp} : dense g = true ↔ dl g.fi g.es := by
  rw [dl_get]
  simp only [dense, List.all_eq_true, List.mem_range, decide_eq_true_eq]
  constructor
  · intro h j hj
    have := h j hj
    rw [List.getD_eq_getElem?_getD, List.getElem?_eq_getElem hj] at this
    exact this
  · intro h j hj
    rw [List.getD_eq_getElem?_getD, List.getElem?_eq_getElem hj]
    exact h j hj
theorem dl_append {f : Int} {a b : List Ent} : dl f (a ++ b) ↔ dl f a ∧ dl (f + a.length) b := by
  induction a generalizing f with
  | nil => simp [dl]
  | cons e a ih => simp only [List.cons_append, dl, ih, List.length_cons, and_assoc, show f + 1 + (a.length : Int) = f + ((a.length + 1 : Nat) : Int) by omega]
theorem dl_lo {f x : Int} {l : List Ent} (h : dl f l) : l.filter (fun e => decide (e.ix < x)) = l.take (x - f).toNat := by
  induction l generalizing f with
  | nil => simp
  | cons e l ih =>
    obtain ⟨h1, h2⟩ := h
    by_cases hx : f < x
    · rw [List.filter_cons_of_pos (by simp; omega), ih h2, show (x - f).toNat = (x - (f + 1)).toNat + 1 by omega]; rfl
    · rw [show (x - f).toNat = 0 by omega, List.take_zero, List.filter_eq_nil_iff]
      intro a ha
      have := dl_get.1 (show dl f (e :: l) from ⟨h1, h2⟩)
      obtain ⟨j, hj, rfl⟩ := List.getElem_of_mem ha
      have := this j hj
      simp; omega
theorem dl_hi {f x : Int} {l : List Ent} (h : dl f l) : l.filter (fun e => decide (x ≤ e.ix)) = l.drop (x - f).toNat := by
  induction l generalizing f with
  | nil => simp
  | cons e l ih =>
    obtain ⟨h1, h2⟩ := h
    by_cases hx : f < x
    · rw [List.filter_cons_of_neg (by simp; omega), ih h2, show (x - f).toNat = (x - (f + 1)).toNat + 1 by omega]; rfl
    · rw [show (x - f).toNat = 0 by omega, List.drop_zero, List.filter_eq_self]
      intro a ha
      have := dl_get.1 (show dl f (e :: l) from ⟨h1, h2⟩)
      obtain ⟨j, hj, rfl⟩ := List.getElem_of_mem ha
      have := this j hj
      simp; omega
theorem dl_drop {f : Int} {l : List Ent} (h : dl f l) (k : Nat) : dl (f + k) (l.drop k) := by
  rw [dl_get] at h ⊢
  intro j hj
  rw [List.getElem_drop]
  have := h (k + j) (by simp at hj; omega)
  omega
theorem dl_take {f : Int} {l : List Ent} (h : dl f l) (k : Nat) : dl f (l.take k) := by
  rw [dl_get] at h ⊢
  intro j hj
  rw [List.getElem_take]
  exact h j (by simp at hj; omega)
theorem in_lo {g : Grp} (h : Spar g) (x : Int) : g.es.filter (inR g.fi x) = g.es.filter fun e => decide (e.ix < x) :=
  List.filter_congr fun e he => by have := h.fi e he; simp [inR, this]
theorem in_hi {g : Grp} (h : Spar g) (x : Int) : g.es.filter (inR x (MI + 1)) = g.es.filter fun e => decide (x ≤ e.ix) :=
  List.filter_congr fun e he => by
    have := (okEnt_iff.1 (h.ok e he)).1
    have h2 : e.ix < MI + 1 := by omega
    simp only [inR, h2, decide_true, Bool.and_true]
theorem rise_dl {l : List Ent} (h : rising l true = true) (hl : 0 < l.length) : dl ((l.getD 0 default).ix) l := by
  have h0 : ∀ j, j < l.length → riseAt l true j = true := by
    simp only [rising, Bool.and_eq_true, List.all_eq_true, List.mem_range] at h; exact h.1
  rw [dl_get]
  intro j
  induction j with
  | zero => intro hj; rw [List.getD_eq_getElem?_getD, List.getElem?_eq_getElem hj]; simp
  | succ j ih =>
    intro hj
    have h1 := h0 (j + 1) hj
    have h2 := ih (by omega)
    simp only [riseAt, Bool.and_eq_true, Bool.not_eq_true', Bool.and_eq_false_iff, Bool.or_eq_false_iff, decide_eq_false_iff_not, Bool.not_eq_false', decide_eq_true_eq] at h1
    have h3 := h1.2.resolve_left (by omega)
    simp only [List.getD_eq_getElem?_getD, List.getElem?_eq_getElem hj, List.getElem?_eq_getElem (show j + 1 - 1 < l.length by omega), Option.getD_some] at h3
    obtain ⟨_, h4⟩ := h3
    have h5 : l[j + 1].ix = l[j].ix + 1 := by
      rcases h4 with h4 | h4
      · cases h4
      · simpa using h4
    omega
structure Grp.Ok (g : Grp) : Prop where
  s : Spar g
  d : dl g.fi g.es
theorem newG_ok {i : Int} (h : 0 ≤ i ∧ i ≤ 999) : (newG i).Ok := ⟨newG_spar h, trivial⟩
theorem last_dense {g : Grp} (h : g.Ok) : lastG g = g.fi + g.es.length - 1 := by
  unfold lastG
  split
  · next hl => rw [hl]; omega
  · next hl =>
    rw [List.getD_eq_getElem?_getD, List.getElem?_eq_getElem (by omega)]
    have := dl_get.1 h.d (g.es.length - 1) (by omega)
    simp only [Option.getD_some]; omega
theorem chk1 {g : Grp} {p : Prt} (h : chkG g p = 0) (k : p.kd = 1) : g.fi ≤ firstP p ∧ firstP p - 1 ≤ lastG g := by
  obtain ⟨a, b, c, d⟩ := chk0 h
  unfold chkG at h
  rw [if_neg (by simp [a, b, c, d]), if_pos k] at h
  split at h
  · cases h
  · split at h
    · cases h
    · omega
theorem chk3 {g : Grp} {p : Prt} (h : chkG g p = 0) (k : p.kd = 3) : g.fi ≤ p.ix ∧ p.ix ≤ lastG g ∧ (p.tm = 0 ∨ fitsG g p.ix p.tm = true) := by
  obtain ⟨a, b, c, d⟩ := chk0 h
  unfold chkG at h
  rw [if_neg (by simp [a, b, c, d]), if_neg (by omega), if_pos k] at h
  split at h
  · cases h
  split at h
  · cases h
  split at h
  · cases h
  · next h1 => refine ⟨by omega, by omega, ?_⟩
               by_cases h0 : p.tm = 0
               · exact .inl h0
               · right; simpa [h0] using h1
theorem chk4 {g : Grp} {p : Prt} (h : chkG g p = 0) (k : p.kd = 4) : g.fi ≤ p.ix := by
  obtain ⟨a, b, c, d⟩ := chk0 h
  unfold chkG at h
  rw [if_neg (by simp [a, b, c, d]), if_neg (by omega), if_neg (by omega), if_pos k] at h
  split at h
  · cases h
  · omega
theorem gone_dl {g : Grp} (h : g.Ok) {i t : Int} (hi : g.fi ≤ i) : dl (goneG g i t).fi (goneG g i t).es := by
  show dl (i + 1) (g.es.filter (inR (i + 1) (MI + 1)))
  rw [in_hi h.s, dl_hi h.d]
  have := dl_drop h.d (i + 1 - g.fi).toNat
  rwa [show g.fi + ((i + 1 - g.fi).toNat : Int) = i + 1 by omega] at this
theorem doG_dl {g : Grp} {p : Prt} (h : g.Ok) (hc : chkG g p = 0) : dl (doG g p).fi (doG g p).es := by
  obtain ⟨hp, k6, k5, hg⟩ := chk0 hc
  unfold doG
  split
  · next k1 =>
    obtain ⟨h1, h2⟩ := chk1 hc k1
    obtain ⟨b1, b2, b3, b4, b5⟩ := firstP_bd hp k1
    have hr : rising p.es true = true := by
      have hp' := hp
      simp only [isPart, Bool.and_eq_true] at hp'
      obtain ⟨_, hk⟩ := hp'
      rw [if_pos k1] at hk
      exact (Bool.and_eq_true_iff.1 hk).2
    have hd := rise_dl hr b1
    rw [← b5] at hd
    rw [last_dense h] at h2
    show dl g.fi (g.es.filter (inR g.fi (firstP p)) ++ p.es)
    rw [in_lo h.s, dl_lo h.d, dl_append]
    refine ⟨dl_take h.d _, ?_⟩
    rw [List.length_take, show g.fi + ((min (firstP p - g.fi).toNat g.es.length : Nat) : Int) = firstP p by omega]
    exact hd
  split
  · exact h.d
  split
  · next k3 => exact gone_dl h (chk3 hc k3).1
  split
  · next k4 =>
    split
    · exact gone_dl h (chk4 hc k4)
    · exact (trivial : dl (p.ix + 1) [])
  · exact h.d
theorem runG_ok {g : Grp} (h : g.Ok) (p : Prt) : (runG g p).Ok := by
  refine ⟨runG_spar h.s p, ?_⟩
  unfold runG
  split
  · next hc => exact doG_dl h hc
  · exact h.d
theorem doG_id {g : Grp} {p : Prt} : (doG g p).id = g.id := by
  unfold doG goneG
  repeat' split
  all_goals rfl
theorem doG_len {g : Grp} {p : Prt} : (doG g p).es.length ≤ g.es.length + p.es.length := by
  have hf : ∀ q : Ent → Bool, (g.es.filter q).length ≤ g.es.length := fun q => List.length_filter_le _ _
  unfold doG goneG
  split
  · have := hf (inR g.fi (firstP p)); simp only [List.length_append]; omega
  split
  · show g.es.length ≤ _; omega
  split
  · have := hf (inR (p.ix + 1) (MI + 1)); show (g.es.filter _).length ≤ _; omega
  split
  · split
    · have := hf (inR (p.ix + 1) (MI + 1)); show (g.es.filter _).length ≤ _; omega
    · exact Nat.zero_le _
  · omega
def errM (M : List (Int × Grp)) (p : Prt) : Int :=
  match lk M p.gr with
  | none => if p.kd = 3 ∨ p.kd = 5 then 13 else chkG (newG p.gr) p
  | some g => if p.kd = 5 then 0 else chkG g p
def oneM (M : List (Int × Grp)) (p : Prt) : List (Int × Grp) :=
  match lk M p.gr with
  | none => if p.kd = 3 ∨ p.kd = 5 then M else if chkG (newG p.gr) p = 0 then putL M p.gr (doG (newG p.gr) p) else M
  | some g => if p.kd = 5 then delL M p.gr else if chkG g p = 0 then putL M p.gr (doG g p) else M
structure ManyOk (B : Nat) (M : List (Int × Grp)) : Prop where
  srt : Srt M
  ok : ∀ x ∈ M, x.2.Ok ∧ x.2.id = x.1
  len : ∀ x ∈ M, x.2.es.length ≤ B
theorem ManyOk.more {B C : Nat} {M : List (Int × Grp)} (h : ManyOk B M) (hb : B ≤ C) : ManyOk C M := ⟨h.srt, h.ok, fun x hx => by have := h.len x hx; omega⟩
theorem ManyOk.nil (B : Nat) : ManyOk B [] := ⟨.nil, by simp, by simp⟩
theorem ManyOk.rng {B : Nat} {M : List (Int × Grp)} (h : ManyOk B M) : ∀ x ∈ M, 0 ≤ x.1 ∧ x.1 ≤ 999 := fun x hx => by
  obtain ⟨h1, h2⟩ := h.ok x hx
  have := (okHead_iff.1 h1.s.hd).1
  omega
theorem srt_len3 : ∀ {M : List (Int × Grp)} {lo hi : Int}, Srt M → (∀ x ∈ M, lo ≤ x.1 ∧ x.1 ≤ hi) → lo ≤ hi + 1 → (M.length : Int) ≤ hi + 1 - lo
  | [], lo, hi, _, _, h => by simp; omega
  | x :: M, lo, hi, hs, hr, h => by
    obtain ⟨h1, h2⟩ := List.pairwise_cons.1 hs
    have hx := hr x (by simp)
    have hlt : ∀ y ∈ M, x.1 < y.1 := fun y hy => h1 y hy
    have := srt_len3 (lo := x.1 + 1) (hi := hi) h2 (fun y hy => ⟨by have := hlt y hy; omega, (hr y (by simp [hy])).2⟩) (by omega)
    simp only [List.length_cons]; omega
theorem ManyOk.size {B : Nat} {M : List (Int × Grp)} (h : ManyOk B M) : M.length ≤ 1000 := by
  have := srt_len3 (lo := 0) (hi := 999) h.srt h.rng (by omega)
  omega
theorem ManyOk.put {B : Nat} {M : List (Int × Grp)} (h : ManyOk B M) {i : Int} {g : Grp} (hg : g.Ok) (hi : g.id = i) (hl : g.es.length ≤ B) : ManyOk B (putL M i g) :=
  ⟨h.srt.put _ _, fun x hx => (put_mem hx).elim (fun e => by rw [e]; exact ⟨hg, hi⟩) (h.ok x), fun x hx => (put_mem hx).elim (fun e => by rw [e]; exact hl) (h.len x)⟩
theorem ManyOk.del {B : Nat} {M : List (Int × Grp)} (h : ManyOk B M) (i : Int) : ManyOk B (delL M i) :=
  ⟨h.srt.del _, fun x hx => h.ok x (List.mem_filter.1 hx).1, fun x hx => h.len x (List.mem_filter.1 hx).1⟩
theorem ManyOk.one {B : Nat} {M : List (Int × Grp)} (h : ManyOk B M) {p : Prt} (hp : isPart p = true) : ManyOk (B + 6) (oneM M p) := by
  have h6 := h.more (C := B + 6) (by omega)
  have hO := okP hp
  have hl := hO.len
  have hdo : ∀ g : Grp, g.Ok → chkG g p = 0 → (doG g p).Ok := fun g hg hc => by have := runG_ok hg p; unfold runG at this; rwa [if_pos hc] at this
  unfold oneM
  cases hk : lk M p.gr with
  | none =>
    simp only []
    split
    · exact h6
    split
    · next hc =>
      have hg := newG_ok (i := p.gr) hO.gr
      exact h6.put (hdo _ hg hc) doG_id (by have := doG_len (g := newG p.gr) (p := p); simp only [newG, List.length_nil] at this ⊢; omega)
    · exact h6
  | some g =>
    have hm := lk_mem hk
    obtain ⟨hg, hi⟩ := h.ok _ hm
    have hb := h.len _ hm
    simp only []
    split
    · exact h6.del _
    split
    · next hc => exact h6.put (hdo _ hg hc) (by rw [doG_id]; exact hi) (by have := doG_len (g := g) (p := p); simp only [] at hb; omega)
    · exact h6
end Go.Ab
end
