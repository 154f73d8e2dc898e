/- Going on. -/
import Derived.Test.YtmpoeamfcienoaaGreatKRP17
section
namespace Go.Ab
set_option linter.unusedVariables false
set_option linter.unusedSimpArgs false
def fpl (l : List Fnd) : List (List Prt × Plc) := l.map fun f => (f.ps, ⟨f.sg, f.at_⟩)
def outs (L : List (List Fnd)) (Ms : List (List (Int × LogV))) : List (List (Int × LogV)) := (L.zip Ms).map fun x => runL x.2 (fpl x.1)
theorem outs_step {L : List (List Fnd)} {Ms : List (List (Int × LogV))} (h : L.length = Ms.length) (i : Int) : outs (stepL L i) (stepM L Ms i) = outs L Ms := by
  unfold stepL stepM
  cases hn : nextF L i with
  | none => rfl
  | some x =>
    obtain ⟨f, r⟩ := x
    unfold nextF at hn
    split at hn
    · cases hn
    split at hn
    case h_2 => cases hn
    case h_1 f' r' e =>
    cases hn
    obtain ⟨hm, e1⟩ := List.getElem?_eq_some_iff.1 e
    have hm2 : i.toNat < Ms.length := by omega
    refine List.ext_getElem (by simp [outs, h]) fun j h1 h2 => ?_
    simp only [outs, List.getElem_map, List.getElem_zip]
    by_cases hj : j = i.toNat
    · subst hj
      simp only [List.getElem_set_self, e1]
      rw [List.getD_eq_getElem?_getD, List.getElem?_eq_getElem hm2]
      rfl
    · rw [List.getElem_set_ne (fun e => hj e.symm), List.getElem_set_ne (fun e => hj e.symm)]
theorem outs_done {L : List (List Fnd)} {Ms : List (List (Int × LogV))} (h : L.length = Ms.length) (hL : ∀ l ∈ L, l = []) : outs L Ms = Ms := by
  refine List.ext_getElem (by simp [outs, h]) fun j h1 h2 => ?_
  simp only [outs, List.getElem_map, List.getElem_zip]
  rw [hL _ (List.getElem_mem (by omega))]; rfl
theorem next_cnt {L : List (List Fnd)} {i : Int} (h : (nextF L i).isSome = true) : cntL (stepL L i) + 1 = cntL L := by
  unfold stepL
  cases hn : nextF L i with
  | none => rw [hn] at h; cases h
  | some x =>
    obtain ⟨f, r⟩ := x
    unfold nextF at hn
    split at hn
    · cases hn
    split at hn
    case h_2 => cases hn
    case h_1 f' r' e =>
    cases hn
    obtain ⟨hm, e1⟩ := List.getElem?_eq_some_iff.1 e
    have key : ∀ (L : List (List Fnd)) (m : Nat) (hm : m < L.length), L[m] = f :: r → cntL (L.set m r) + 1 = cntL L := by
      intro L
      induction L with
      | nil => intro m hm; exact absurd hm (Nat.not_lt_zero _)
      | cons l L ih =>
        intro m hm e
        cases m with
        | zero =>
          simp only [List.getElem_cons_zero] at e
          subst e
          simp only [cntL, List.set_cons_zero, List.map_cons, List.sum_cons, List.length_cons]; omega
        | succ m =>
          have := ih m (by simpa using hm) (by simpa using e)
          simp only [cntL, List.set_cons_succ, List.map_cons, List.sum_cons] at this ⊢; omega
    exact key L _ hm e1
theorem next_none {L : List (List Fnd)} {i : Nat} (h : i < L.length) (hn : nextF L i = none) : L[i] = [] := by
  unfold nextF at hn
  rw [if_neg (by omega), show (i : Int).toNat = i from rfl, List.getElem?_eq_getElem h] at hn
  cases e : L[i] with
  | nil => rfl
  | cons f r => rw [e] at hn; cases hn
theorem step_none {L : List (List Fnd)} {i : Int} (h : nextF L i = none) : stepL L i = L := by unfold stepL; rw [h]
theorem stepM_none {L : List (List Fnd)} {Ms : List (List (Int × LogV))} {i : Int} (h : nextF L i = none) : stepM L Ms i = Ms := by unfold stepM; rw [h]
theorem step_other {L : List (List Fnd)} {i j : Nat} (h : j ≠ i) : (stepL L i)[j]? = L[j]? := by
  unfold stepL
  cases nextF L (i : Int) with
  | none => rfl
  | some x => exact List.getElem?_set_ne (by simpa using Ne.symm h)
structure RnI (s : AState) (b : Nat) (z : AV) (O : List (List (Int × LogV))) (k : Nat) (F : List Nat) (s' : AState) (L : List (List Fnd)) (Ms : List (List (Int × LogV))) (F' : List Nat) : Prop where
  b0 : s'.get s.n = .cells [.p b 0]
  b1 : s'.get (s.n + 1) = .cells [z]
  rp : RpAt s' b L Ms F'
  eq : outs L Ms = O
  ok : GsOk Ms
  few : FewL L
  len : L.length = k
  mt : Mut F F' s s'
  sep : ∀ x ∈ F', x < s.n ∨ s.n + 4 ≤ x
  n : s.n + 4 ≤ s'.n
theorem RpAt.len {s : AState} {b : Nat} {L : List (List Fnd)} {Ms : List (List (Int × LogV))} {F : List Nat} (h : RpAt s b L Ms F) : L.length = Ms.length := by
  obtain ⟨lb, cs, ps, tk, F', rfl, h1, h2, h3, h4, h5, h6, h7⟩ := h; exact h7.symm
theorem RnI.keep {s : AState} {b : Nat} {z : AV} {O : List (List (Int × LogV))} {k : Nat} {F : List Nat} {s' s2 : AState} {L : List (List Fnd)} {Ms : List (List (Int × LogV))} {F' : List Nat} (h : RnI s b z O k F s' L Ms F') (hn : s'.n ≤ s2.n)
    (hk : ∀ x, x < s'.n → x ≠ s.n + 3 → s2.get x = s'.get x) : RnI s b z O k F s2 L Ms F' := by
  obtain ⟨b0, b1, rp, eq, ok, few, len, mt, sep, n⟩ := h
  have hF := rp.lt
  refine ⟨(hk _ (by omega) (by omega)).trans b0, (hk _ (by omega) (by omega)).trans b1, rp.keep fun x hx => hk x (hF x hx) (by have := sep x hx; omega), eq, ok, few, len, ⟨by have := mt.n; omega, fun x hx hn => (hk x (by have := mt.n; omega) (by omega)).trans (mt.keep x hx hn), mt.own⟩, sep, by omega⟩
theorem RnI.step {s : AState} {b : Nat} {z : AV} {O : List (List (Int × LogV))} {k : Nat} {F : List Nat} {s' s2 : AState} {L : List (List Fnd)} {Ms : List (List (Int × LogV))} {F' F2 : List Nat} (h : RnI s b z O k F s' L Ms F') (i : Int)
    (g1 : RpAt s2 b (stepL L i) (stepM L Ms i) F2) (g2 : Mut F' F2 s' s2) : RnI s b z O k F s2 (stepL L i) (stepM L Ms i) F2 := by
  obtain ⟨b0, b1, rp, eq, ok, few, len, mt, sep, n⟩ := h
  have hn := g2.n
  have n0 : ∀ x, s.n ≤ x → x < s.n + 4 → x ∉ F' := fun x h1 h2 hm => by have := sep x hm; omega
  refine ⟨(g2.keep _ (by omega) (n0 _ (by omega) (by omega))).trans b0, (g2.keep _ (by omega) (n0 _ (by omega) (by omega))).trans b1, g1, by rw [outs_step rp.len, eq], ok.step i, few.step i, by rw [stepL_len, len], mt.trans g2, fun x hx => ?_, by omega⟩
  rcases g2.own x hx with h1 | h1
  · exact sep x h1
  · exact .inr (by omega)
end Go.Ab
namespace Go.Proofs.YtmpoeamfcienoaaGreat
open Go.Ab
set_option linter.unusedVariables false
set_option linter.unusedSimpArgs false
set_option maxRecDepth 100000
set_option maxHeartbeats 1000000
theorem rn_replay_Replay_Run {b : Nat} {L : List (List Fnd)} {Ms : List (List (Int × LogV))} {F : List Nat} {sc : List Int} {s : AState} (hR : RpAt s b L Ms F) (hM : GsOk Ms) (hf : FewL L) (h0 : 0 < L.length) (hsc : sc.length ≤ 1000000) :
    Runs (compCode prog) prog F_replay_Replay_Run [.p b 0, .sl (sc.map fun n => .v (.int .u8 n)) .no] s (fun _ s' => ∃ F', RpAt s' b (L.map fun _ => []) (outs L Ms) F' ∧ Mut F F' s s') := by
  have hlt := hR.lt
  have hk := hf.k
  refine runs_e h_replay_Replay_Run (Nat.le_of_ble_eq_true rfl) ?_
  refine st0 ?_
  refine m_scope ?_
  refine st0 ?_
  refine gv (ct_slices_Values_uint8 (xs := sc.map fun n => .v (.int .u8 n))) ?_
  refine st0 ?_
  have hit := it_slices_Values_uint8 (sc.map fun n => .v (.int .u8 n)) (.ints _) (s.n + 1) (by simp; omega)
  have hsn : ((s.alloc (.cells [.p b 0])).alloc (.cells [.sl (sc.map fun n => .v (.int .u8 n)) .no])).n = s.n + 2 := by simp
  refine w_rangeS (m := sc.length) (by simp) hit (by intro x hx; obtain ⟨p, _, rfl⟩ := List.mem_map.1 hx; rfl) (by simp) (fun k s' => ∃ L' Ms' F', RnI s b (.sl (sc.map fun n => .v (.int .u8 n)) .no) (outs L Ms) L.length F s' L' Ms' F') (fun _ _ => False) ?_ ?_ ?_ ?_ ?_ ?_ ?_
  · intro LR
    exact ⟨L, Ms, F, dz0, dz0, hR.keep fun x hx => by have := hlt x hx; simp (disch := first | omega | (simp <;> omega) | fail), rfl, hM, hf, rfl, .grows (((((Grows.refl s).alloc _).alloc _).alloc _).alloc _), fun x hx => .inl (hlt x hx), by simp⟩
  · rintro k s' ⟨L', Ms', F', h⟩; exact h.b1
  · rintro k s' o hn ⟨L', Ms', F', h⟩; exact ⟨L', Ms', F', h.keep (by simp) fun x hx _ => get_alloc_ne (by omega)⟩
  · intro j s' o hn h; exact h
  · rintro LR LB LJ hLB hLR k hkk s' hdd hLL hln ⟨L', Ms', F', hI⟩
    have hk' : k < sc.length := by simpa using hkk
    simp only [hsn, List.getElem_map, List.zip_cons_cons, List.zip_nil_right, List.reverse_cons, List.reverse_nil, List.nil_append, List.cons_append] at hdd hLL hln ⊢
    have hI2 : RnI s b (.sl (sc.map fun n => .v (.int .u8 n)) .no) (outs L Ms) L.length F (s'.set (s.n + 2 + 1) LB) L' Ms' F' := hI.keep (by simp) fun x hx hn => dz1 hn
    have hb0 := hI.b0
    obtain ⟨lb, cs, ps, tk, F'', hFe, hc1, -⟩ := hI.rp
    have hb3 : b ≠ s.n + 2 + 1 := by have := hI.sep b (by simp [hFe]); omega
    have k2 : (s'.set (s.n + 2 + 1) LB).get (s.n + 2 + 1) = LB := dz0
    have k4 : (s'.set (s.n + 2 + 1) LB).get (s.n + 2) = .defd := dz1 hdd
    have hl0 : ¬ L' = [] := fun e => by have := hI.len; rw [e] at this; simp at this; omega
    refine st4 hLL hb0 hc1 hl0 ?_
    clear hI hLL hdd hln hb0 hc1
    generalize s'.set (s.n + 2 + 1) LB = s4 at k2 k4 hI2 ⊢
    refine rn0 (rn_replay_Replay_Step hI2.rp hI2.ok hI2.few) ?_
    rintro _ s5 ⟨F5, rfl, g1, g2⟩
    have hI3 := hI2.step _ g1 g2
    have hn5 := g2.n
    have n0 : ∀ x, s.n ≤ x → x < s.n + 4 → x ∉ F' := fun x h1 h2 hm => by have := hI2.sep x hm; omega
    have hn4 := hI2.n
    refine st1 ((g2.keep _ (by omega) (n0 (s.n + 2 + 1) (by omega) (by omega))).trans k2) ?_
    refine fins_n (fun d hd => by cases hd; rw [AState.get_set_ne _ _ (by omega)]; exact (g2.keep _ (by omega) (n0 _ (by omega) (by omega))).trans k4) (dz0) ⟨_, _, _, hI3.keep (by simp) fun x hx hn => dz1 hn⟩
  · rintro s' hdd hln ⟨L', Ms', F', hI⟩
    simp only [hsn] at hdd hln ⊢
    have hI2 : RnI s b (.sl (sc.map fun n => .v (.int .u8 n)) .no) (outs L Ms) L.length F (s'.set (s.n + 2 + 1) .dead) L' Ms' F' := hI.keep (by simp) fun x hx hn => dz1 hn
    have k4 : (s'.set (s.n + 2 + 1) .dead).get (s.n + 2) = .defd := dz1 hdd
    clear hI hdd hln
    generalize s'.set (s.n + 2 + 1) .dead = s4 at k4 hI2 ⊢
    refine st0 ?_
    refine loop_ok [2, 5] (fun r a s1 => ∃ (i : Nat) (L' : List (List Fnd)) (Ms' : List (List (Int × LogV))) (F' : List Nat), (L.length - i) + cntL L' = r ∧ i ≤ L.length ∧ RnI s b (.sl (sc.map fun n => .v (.int .u8 n)) .no) (outs L Ms) L.length F s1 L' Ms' F' ∧ s1.get (s.n + 2) = .defd ∧
      (∀ j, j < i → L'[j]? = some []) ∧ a = { t := den 31 [(2, .p s.n 0), (5, .v (.int .i64 i))], d := [s.n + 2] }) (L.length + cntL L') ?_ ?_
    · exact ⟨0, L', Ms', F', by omega, by omega, hI2, k4, fun j h => absurd h (Nat.not_lt_zero _), by simp⟩
    clear hI2 k4
    rintro r a s1 ⟨i, L', Ms', F', hr, hi, hI, hd, hz, rfl⟩
    have hb0 := hI.b0
    have hll := hI.len
    have n0 : ∀ x, s.n ≤ x → x < s.n + 4 → x ∉ F' := fun x h1 h2 hm => by have := hI.sep x hm; omega
    have hn4 := hI.n
    obtain ⟨lb, cs, ps, tk, F'', hFe, hc1, -⟩ := hI.rp
    by_cases hlt2 : i < L'.length
    · have w3 : IntKind.wrap .i64 ((i : Int) + 1) = (i : Int) + 1 := wrap_i64 (by omega) (by omega)
      refine st3 hb0 hc1 hlt2 ?_
      refine rn0 (rn_replay_Replay_Step (i := i) hI.rp hI.ok hI.few) ?_
      rintro _ s5 ⟨F5, rfl, g1, g2⟩
      have hI3 := hI.step _ g1 g2
      have hd5 := (g2.keep _ (by omega) (n0 (s.n + 2) (by omega) (by omega))).trans hd
      cases hn : nextF L' i with
      | some x =>
        have hc := next_cnt (L := L') (i := i) (by rw [hn]; rfl)
        refine st0 ?_
        exact ⟨r - 1, by omega, i, _, _, F5, by omega, hi, hI3, hd5, fun j hj => by rw [step_other (by omega)]; exact hz j hj, by simp⟩
      | none =>
        have hs := step_none hn
        have hz' := next_none hlt2 hn
        refine st0 ?_
        refine ⟨r - 1, by omega, i + 1, _, _, F5, ?_, by omega, hI3, hd5, fun j hj => ?_, by simp [w3]⟩
        · rw [hs]; omega
        · rw [hs]
          by_cases e : j = i
          · subst e; rw [List.getElem?_eq_getElem hlt2, hz']
          · exact hz j (by omega)
    · have hie : i = L.length := by omega
      have hem : ∀ l ∈ L', l = [] := fun l hl => by
        obtain ⟨j, hj, rfl⟩ := List.getElem_of_mem hl
        have := hz j (by omega)
        rw [List.getElem?_eq_getElem hj] at this
        exact Option.some.inj this
      have hL' : L' = L.map fun _ => [] := List.ext_getElem (by simp [hll]) fun j h1 h2 => by rw [hem _ (List.getElem_mem h1)]; simp
      have hMs := outs_done hI.rp.len hem
      rw [hI.eq] at hMs
      refine st3 hb0 hc1 hlt2 ?_
      have hF := hI.rp.lt
      refine end_okD (by simpa using hd) (by simp) rfl ⟨F', ?_, ?_⟩
      · rw [← hL', hMs]
        exact hI.rp.keep fun x hx => by
          have := hI.sep x hx
          simp only [killAll, List.foldl]
          rw [AState.get_set_ne _ _ (by omega)]
      · refine ⟨by simp [killAll]; omega, fun x hx hn => ?_, hI.mt.own⟩
        simp only [killAll, List.foldl]
        rw [AState.get_set_ne _ _ (by omega)]
        exact hI.mt.keep x hx hn
  · intro j s' _ _ h; exact h.elim
end Go.Proofs.YtmpoeamfcienoaaGreat
end
section
namespace Go.Proofs.YtmpoeamfcienoaaGreat
open Go.Ab
set_option linter.unusedVariables false
set_option linter.unusedSimpArgs false
set_option maxRecDepth 100000
set_option maxHeartbeats 1000000
theorem fewFound_len {l : List Fnd} (h : fewFound l = true) : l.length ≤ 30 ∧ (∀ f ∈ l, f.ps.length ≤ 6) ∧ (∀ f ∈ l, ∀ p ∈ f.ps, p.es.length ≤ 8) := by
  simp only [fewFound, Bool.and_eq_true, decide_eq_true_eq, List.all_eq_true, List.mem_range] at h
  have key : ∀ x ∈ l, fewParts x.ps = true := fun x hx => by
    obtain ⟨j, hj, rfl⟩ := List.getElem_of_mem hx
    have := h.1 j hj
    rwa [List.getD_eq_getElem?_getD, List.getElem?_eq_getElem hj] at this
  exact ⟨by omega, fun x hx => (fewParts_len (key x hx)).1, fun x hx => (fewParts_len (key x hx)).2⟩
theorem splitI_mem {l : List Fnd} {i n : Int} {f : Fnd} (h : f ∈ splitI l i n) : ∃ f' ∈ l, f = pickF i n f' := by
  obtain ⟨h1, h2⟩ := List.mem_filter.1 h
  obtain ⟨f', h3, rfl⟩ := List.mem_map.1 h1
  exact ⟨f', h3, rfl⟩
theorem few_split {l : List Fnd} (n : Int) (h : fewFound l = true) : FewL (split l n) := by
  obtain ⟨h1, h2, h3⟩ := fewFound_len h
  have hh := held_pos n
  have key : ∀ m ∈ split l n, ∃ i : Int, m = splitI l i n := fun m hm => by obtain ⟨i, _, rfl⟩ := List.mem_map.1 hm; exact ⟨i, rfl⟩
  refine ⟨by simp only [split, List.length_map, List.length_range]; omega, fun m hm => ?_, fun m hm f hf => ?_, fun m hm f hf p hp => ?_⟩ <;> obtain ⟨i, rfl⟩ := key m hm
  · have := splitI_len l i n; omega
  · obtain ⟨f', h4, rfl⟩ := splitI_mem hf
    exact Nat.le_trans (List.length_filter_le _ _) (h2 f' h4)
  · obtain ⟨f', h4, rfl⟩ := splitI_mem hf
    exact h3 f' h4 p (List.mem_filter.1 hp).1
theorem split_length (l : List Fnd) (n : Int) : (split l n).length = (held n).toNat := by simp [split]
theorem gs_new (k : Nat) : GsOk (List.replicate k []) := fun M hM => by obtain rfl := List.eq_of_mem_replicate hM; exact .nil'
theorem gs_outs {L : List (List Fnd)} {Ms : List (List (Int × LogV))} (h : GsOk Ms) : GsOk (outs L Ms) := fun M hM => by
  obtain ⟨x, hx, rfl⟩ := List.mem_map.1 hM
  exact (h x.2 (List.of_mem_zip hx).2).runL _
theorem few_none {L : List (List Fnd)} (h : L.length ≤ 64) : FewL (L.map fun _ => []) := by
  have key : ∀ l ∈ (L.map fun _ => ([] : List Fnd)), l = [] := fun l hl => by obtain ⟨_, _, rfl⟩ := List.mem_map.1 hl; rfl
  exact ⟨by simpa using h, fun l hl => by simp [key l hl], fun l hl f hf => by simp [key l hl] at hf, fun l hl f hf p hp => by simp [key l hl] at hf⟩
def rl0 : List Fnd := [⟨4, [⟨1, 2, [], 0, 0, 0, 0, 0, false, false⟩, ⟨2, 2, [], 0, 0, 0, 0, 0, false, false⟩], 3, 16⟩]
def rL0 : List (List Fnd) := split rl0 2
def rM0 : List (List (Int × LogV)) := List.replicate (held 2).toNat []
def rL1 : List (List Fnd) := stepL rL0 1
def rM1 : List (List (Int × LogV)) := stepM rL0 rM0 1
def rL2 : List (List Fnd) := stepL rL1 1
def rM2 : List (List (Int × LogV)) := stepM rL1 rM1 1
def rL3 : List (List Fnd) := stepL rL2 2
def rM3 : List (List (Int × LogV)) := stepM rL2 rM2 2
def rM4 : List (List (Int × LogV)) := outs rL3 rM3
theorem rn1 : (nextF rL0 1).isSome = true := by kernel_rfl
theorem rn2 : (nextF rL1 1).isSome = false := by kernel_rfl
theorem rn3 : (nextF rL2 2).isSome = false := by kernel_rfl
theorem rc0 : cntL rL0 = 2 := by kernel_rfl
theorem rc3 : cntL rL3 = 1 := by kernel_rfl
theorem rc4 : cntL (rL3.map fun _ => []) = 0 := by kernel_rfl
theorem rlen : rL3.length = 2 := by kernel_rfl
theorem rlen4 : rM4.length = 2 := by kernel_rfl
theorem rg : (grpsL (rM4.getD 0 [])).length = 1 := by kernel_rfl
theorem rs : (spotsM (rM4.getD 1 [])).length = 1 := by kernel_rfl
theorem ct_ladelaw19_known {s : AState} : Gives prog F_ladelaw19_known [] s (.v (.bool true)) s := by
  refine Runs.gives (runs_e h_ladelaw19_known (Nat.le_of_ble_eq_true rfl) ?_) (.v _)
  have f0 : FewL rL0 := few_split 2 (by kernel_rfl)
  have g0 : GsOk rM0 := gs_new _
  have f1 : FewL rL1 := f0.step 1
  have g1 : GsOk rM1 := g0.step 1
  have f2 : FewL rL2 := f1.step 1
  have g2 : GsOk rM2 := g1.step 1
  have f3 : FewL rL3 := f2.step 2
  have g3 : GsOk rM3 := g2.step 2
  have g4 : GsOk rM4 := gs_outs g3
  have hf4 := few_none f3.k
  refine st0 ?_
  refine runS (rn_replay_New (l := rl0) (n := 2) (by decide) (by decide)) ?_
  rintro _ s1 ⟨b, F, rfl, h1, m1⟩
  refine st0 ?_
  refine gv (ct_replay_Replay_Left (L := rL0) h1 f0) ?_
  rw [rc0]
  refine st0 ?_
  refine rn0 (rn_replay_Replay_Step (L := rL0) (Ms := rM0) (i := 1) h1 g0 f0) ?_
  rintro _ s2 ⟨F2, rfl, h2, m2⟩
  rw [rn1]
  refine st0 ?_
  refine rn0 (rn_replay_Replay_Step (L := rL1) (Ms := rM1) (i := 1) h2 g1 f1) ?_
  rintro _ s3 ⟨F3, rfl, h3, m3⟩
  rw [rn2]
  refine st0 ?_
  refine rn0 (rn_replay_Replay_Step (L := rL2) (Ms := rM2) (i := 2) h3 g2 f2) ?_
  rintro _ s4 ⟨F4, rfl, h4, m4⟩
  rw [rn3]
  refine st0 ?_
  refine gv (ct_replay_Replay_Left (L := rL3) h4 f3) ?_
  rw [rc3]
  refine st0 ?_
  refine runS (rn_replay_Replay_Run (L := rL3) (Ms := rM3) (sc := []) h4 g3 f3 (by rw [rlen]; omega) (by simp)) ?_
  rintro _ s5 ⟨F5, h5, m5⟩
  refine st0 ?_
  have e4 : outs rL3 rM3 = rM4 := rfl
  rw [e4] at h5
  have rg1 := rg
  have rs1 := rs
  obtain ⟨M1, M2, hM⟩ : ∃ M1 M2, rM4 = [M1, M2] := by
    match rM4, rlen4 with
    | [M1, M2], _ => exact ⟨M1, M2, rfl⟩
  rw [hM] at h5 rg1 rs1 g4
  simp only [List.getD_cons_zero, List.getD_cons_succ] at rg1 rs1
  obtain ⟨ps, F6, h6, h7, hR⟩ := rn_replay_Replay_Ledgers h5 (by simp [rlen])
  refine run hR (by simp) ?_
  rintro _ s6 ⟨tk, rfl, hg⟩
  obtain ⟨p1, p2, rfl⟩ : ∃ p1 p2, ps = [p1, p2] := by
    match ps, h6.len with
    | [p1, p2], _ => exact ⟨p1, p2, rfl⟩
  have h6' := h6.all.keep hg.n fun x hx => hg.get hx
  obtain ⟨Fa, ha, -⟩ := h6'.2 0 (by simp) (by simp)
  obtain ⟨Fb, hb, -⟩ := h6'.2 1 (by simp) (by simp)
  simp only [List.getElem_cons_zero, List.getElem_cons_succ] at ha hb
  have o1 := g4 M1 (by simp)
  have o2 := g4 M2 (by simp)
  have sp1 : (spotsM M1).length ≤ 1000 := by
    have : (spotsM (rM4.getD 0 [])).length ≤ 1000 := by decide +kernel
    rwa [hM] at this
  refine st0 ?_
  refine gv (ct_replay_Replay_Left (h5.keep fun x hx => hg.get (h5.lt x hx)) hf4) ?_
  rw [rc4]
  refine st0 ?_
  refine gv (ct_ledger_Ledger_Groups ha o1 (o1.small (by omega))) ?_
  refine st1 rg1 ?_
  refine gv (ct_ledger_Ledger_Spots hb o2 (o2.small (by omega))) ?_
  refine st1 rs1 ?_
  have m6 : Mut [] F5 s s6 := (((((m1.trans m2).trans m3).trans m4).trans m5)).trans (.grows hg)
  exact ret_ok rfl ⟨⟨m6.n, fun x hx => .inl (m6.keep x hx (by simp)).symm⟩, .refl _⟩
end Go.Proofs.YtmpoeamfcienoaaGreat
end
section
namespace Go.Ab
set_option linter.unusedVariables false
set_option linter.unusedSimpArgs false
def RqAt (s : AState) (b : Nat) (L : List (List Fnd)) (Ms : List (List (Int × LogV))) (F : List Nat) : Prop :=
  ∃ (lb : Nat) (cs : List AV) (ps : List Nat) (tk : Tok), F = b :: lb :: ps ∧ s.get b = .cells [.ms lb 0 L.length, .sl (ps.map ptr) tk] ∧ s.get lb = .cells cs ∧ cs.length = L.length ∧
    (∀ i (h : i < cs.length) (h' : i < L.length), ∃ t, cs[i] = .sl ((L[i]).map Fnd.av) t) ∧ ps.length = Ms.length ∧ (∀ i (h : i < ps.length) (h' : i < Ms.length), RefAt s ps[i] (grpsL Ms[i]) (spotsM Ms[i])) ∧ F.Nodup ∧ Ms.length = L.length
theorem RefAt.lt {s : AState} {b : Nat} {L : List Grp} {S : List Spt} (h : RefAt s b L S) : b < s.n := by obtain ⟨t1, t2, e⟩ := h; exact AState.lt_of_get e (by simp)
theorem RefAt.keep {s s' : AState} {b : Nat} {L : List Grp} {S : List Spt} (h : RefAt s b L S) (k : s'.get b = s.get b) : RefAt s' b L S := by obtain ⟨t1, t2, e⟩ := h; exact ⟨t1, t2, k.trans e⟩
theorem RqAt.lt {s : AState} {b : Nat} {L : List (List Fnd)} {Ms : List (List (Int × LogV))} {F : List Nat} (h : RqAt s b L Ms F) : ∀ x ∈ F, x < s.n := by
  obtain ⟨lb, cs, ps, tk, rfl, h1, h2, h3, h4, h5, h6, h7, h8⟩ := h
  intro x hx
  rcases List.mem_cons.1 hx with rfl | hx
  · exact AState.lt_of_get h1 (by simp)
  rcases List.mem_cons.1 hx with rfl | hx
  · exact AState.lt_of_get h2 (by simp)
  · obtain ⟨i, hi, rfl⟩ := List.getElem_of_mem hx
    exact (h6 i hi (by omega)).lt
theorem RqAt.keep {s s' : AState} {b : Nat} {L : List (List Fnd)} {Ms : List (List (Int × LogV))} {F : List Nat} (h : RqAt s b L Ms F) (k : ∀ x ∈ F, s'.get x = s.get x) : RqAt s' b L Ms F := by
  obtain ⟨lb, cs, ps, tk, rfl, h1, h2, h3, h4, h5, h6, h7, h8⟩ := h
  exact ⟨lb, cs, ps, tk, rfl, (k _ (by simp)).trans h1, (k _ (by simp)).trans h2, h3, h4, h5, fun i hi hi' => (h6 i hi hi').keep (k _ (by simp)), h7, h8⟩
theorem nodup_get {l : List Nat} (h : l.Nodup) {i j : Nat} (hi : i < l.length) (hj : j < l.length) (hne : i ≠ j) (e : l[i] = l[j]) : False := by
  have h := List.pairwise_iff_getElem.1 h
  rcases Nat.lt_or_gt_of_ne hne with h1 | h1
  · exact h i j hi hj h1 e
  · exact h j i hj hi h1 e.symm
structure NqI (s1 : AState) (b lb k j : Nat) (s3 : AState) (ps : List Nat) (tk : Tok) : Prop where
  c : s3.get b = .cells [.ms lb 0 k, .sl (ps.map ptr) tk]
  may : May (b + 1) s3 (ps.map ptr) tk
  refs : ∀ x ∈ ps, RefAt s3 x [] []
  nd : ps.Nodup
  hi : ∀ x ∈ ps, b + 1 ≤ x
  n : b + 1 ≤ s3.n
  old : ∀ x, x < b → s3.get x = s1.get x
end Go.Ab
namespace Go.Proofs.YtmpoeamfcienoaaGreat
open Go.Ab
set_option linter.unusedVariables false
set_option linter.unusedSimpArgs false
set_option maxRecDepth 100000
set_option maxHeartbeats 1000000
theorem rn_laderef18_New {l : List Fnd} {n : Int} {s : AState} (hl : (l.length : Int) * 48 ≤ 140737488355328) (hps : ∀ f ∈ l, (f.ps.length : Int) * 88 ≤ 140737488355328) :
    Runs (compCode prog) prog F_laderef18_New [.sl (l.map Fnd.av) .no, .v (.int .i64 n)] s (fun x s' => ∃ b F, x = .p b 0 ∧ RqAt s' b (split l n) (List.replicate (held n).toNat []) F ∧ Mut [] F s s') := by
  have hh := held_pos n
  refine runs_e h_laderef18_New (Nat.le_of_ble_eq_true rfl) ?_
  refine st0 ?_
  refine rn0 (rn_laderef18_Split (l := l) (n := n) hl hps) ?_
  rintro _ s1 ⟨cs, rfl, hg, hcl, hcs⟩
  have hn1 := hg.n
  simp at hn1
  obtain ⟨k, hk⟩ : ∃ k : Nat, k = (held n).toNat := ⟨_, rfl⟩
  rw [← hk] at hcl ⊢
  have hk64 : k ≤ 64 := by omega
  refine st0 ?_
  refine loop_ok [5, 6] (fun r a s3 => ∃ (j : Nat) (ps : List Nat) (tk : Tok), j + r = k ∧ ps.length = j ∧ NqI s1 s1.n s.n k j s3 ps tk ∧
    a = { t := den 33 [(5, .p s1.n 0), (6, .v (.int .i64 j))], d := [] }) k ?_ ?_
  · exact ⟨0, [], .zero, by simp, rfl, ⟨by simp, trivial, by simp, List.nodup_nil, by simp, by simp, fun x hx => get_alloc_ne (by omega)⟩, by simp⟩
  rintro r a s3 ⟨j, ps, tk, hjr, hpl, ⟨c, may, refs, nd, hi, nn, old⟩, rfl⟩
  have hlF : ∀ x ∈ ps, x < s3.n := fun x hx => (refs x hx).lt
  by_cases hlt : j < k
  · have w3 : IntKind.wrap .i64 ((j : Int) + 1) = (j : Int) + 1 := wrap_i64 (by omega) (by omega)
    refine st2 hlt c ?_
    refine m_appS (xs := ps.map ptr) (tk := tk) (ys := [.p s3.n 0]) (t2 := .zero) (N := s1.n + 1) (by simp) (by simp) (by simp; omega) (may.alloc _) (by cases ps <;> simp [headK, ptr, AV.cells]) (by simp) (by simp; omega) (by simp; omega) ?_
    intro s5 tk2 hm2 hlow hext
    have c5 : s5.get s1.n = _ := ((hlow _ (by omega)).trans (get_alloc_ne (by omega))).trans c
    have hn5 := hext.1
    simp at hn5
    have kF : ∀ x ∈ ps, RefAt s5 x [] [] := fun x hx => by
      obtain ⟨t1, t2, e⟩ := refs x hx
      have e2 : (s3.alloc (.cells [.sl [] .zero, .sl [] .zero])).get x = s3.get x := get_alloc_ne (by have := hlF x hx; omega)
      exact ⟨t1, t2, (hext.2 x (by rw [e2, e]; simp) (by rw [e2, e]; simp)).trans (e2.trans e)⟩
    have kN : RefAt s5 s3.n [] [] := by
      have e2 : (s3.alloc (.cells [.sl [] .zero, .sl [] .zero])).get s3.n = .cells [.sl [] .zero, .sl [] .zero] := get_alloc_eq rfl
      exact ⟨.zero, .zero, (hext.2 s3.n (by rw [e2]; simp) (by rw [e2]; simp)).trans e2⟩
    refine st1 c5 ?_
    have ne : ∀ x, s1.n + 1 ≤ x → x ≠ s1.n := fun x h => by omega
    refine ⟨r - 1, by omega, j + 1, ps ++ [s3.n], tk2, by omega, by simp [hpl], ⟨by simp (disch := first | omega | (simp <;> omega) | fail) [ptr], by simpa [ptr] using hm2.set _ (by omega), fun x hx => ?_, ?_, fun x hx => ?_, by simp; omega, fun x hx => ?_⟩, by simp [w3]⟩
    · rcases List.mem_append.1 hx with h | h
      · exact (kF x h).keep (AState.get_set_ne _ _ (ne x (hi x h)))
      · obtain rfl := List.mem_singleton.1 h
        exact kN.keep (AState.get_set_ne _ _ (ne _ (by omega)))
    · rw [List.nodup_append]
      exact ⟨nd, by simp, fun x hx y hy e => by simp at hy; have := hlF x hx; omega⟩
    · rcases List.mem_append.1 hx with h | h
      · exact hi x h
      · simp at h; omega
    · rw [AState.get_set_ne _ _ (by omega), hlow x (by omega), get_alloc_ne (by omega), old x hx]
  · have : j = k := by omega
    subst this
    have hsp : (split l n).length = j := by rw [hk]; simp [split]
    refine st2 hlt c ?_
    refine ret_ok rfl ⟨s1.n, s1.n :: s.n :: ps, rfl, ⟨s.n, cs, ps, tk, rfl, by rw [hsp]; exact c, ?_, by rw [hsp, hcl], fun i h h' => ?_, by simp [hpl], fun i h h' => ?_, ?_, by rw [hsp]; simp⟩, ?_⟩
    · rw [old _ (by omega), hg.get (by simp)]; simp
    · obtain ⟨t, e⟩ := hcs i h
      exact ⟨t, by rw [e]; simp [split]⟩
    · rw [List.getElem_replicate]; exact refs _ (List.getElem_mem h)
    · simp only [List.nodup_cons, List.mem_cons, not_or]
      exact ⟨⟨by omega, fun h => by have := hi _ h; omega⟩, fun h => by have := hi _ h; omega, nd⟩
    · refine ⟨by omega, fun x hx _ => ?_, fun x hx => .inr ?_⟩
      · rw [old _ (by omega), hg.get (by simp; omega)]; exact get_alloc_ne (by omega)
      · simp only [List.mem_cons] at hx
        rcases hx with rfl | rfl | h
        · omega
        · omega
        · have := hi x h; omega
theorem rn_laderef18_Replay_Step {b : Nat} {L : List (List Fnd)} {Ms : List (List (Int × LogV))} {F : List Nat} {i : Int} {s : AState} (hR : RqAt s b L Ms F) (hM : GsOk Ms) (hf : FewL L) (hsp : ∀ M ∈ Ms, (spotsM M).length ≤ 1800) :
    Runs (compCode prog) prog F_laderef18_Replay_Step [.p b 0, .v (.int .i64 i)] s (fun x s' => ∃ F', x = .v (.bool (nextF L i).isSome) ∧ RqAt s' b (stepL L i) (stepM L Ms i) F' ∧ Mut F F' s s') := by
  have hR' := hR
  have hlt := hR.lt
  have hk := hf.k
  obtain ⟨lb, cs, ps, tk, rfl, h1, h2, h3, h4, h5, hrf, h6, h7⟩ := hR
  have hb := hlt b (by simp)
  have hlb := hlt lb (by simp)
  have hpl := h5
  refine runs_e h_laderef18_Replay_Step (Nat.le_of_ble_eq_true rfl) ?_
  have stay : ∀ (h : nextF L i = none), ∃ F2, (.v (.bool false) : AV) = .v (.bool (nextF L i).isSome) ∧ RqAt s b (stepL L i) (stepM L Ms i) F2 ∧ Mut (b :: lb :: ps) F2 s s := fun h => by
    refine ⟨b :: lb :: ps, by rw [h]; rfl, ?_, .refl _ _⟩
    unfold stepL stepM; rw [h]; exact hR'
  by_cases hi : i < 0
  · have hn : nextF L i = none := by unfold nextF; rw [if_pos hi]
    repeat (first | simp -dsimp -implicitDefEqProofs (disch := first | omega | (simp <;> omega) | fail) [hi] | ((with_reducible first | apply m_1 | apply m_0); (focus ((conv => lhs; simp -dsimp -implicitDefEqProofs (disch := first | omega | (simp <;> omega) | fail) [hi]); done))) | ((with_reducible first | apply i_T | apply g_T); (focus (simp -dsimp -implicitDefEqProofs (disch := first | omega | (simp <;> omega) | fail) [hi]; done))) | ((with_reducible first | apply i_F | apply g_F); (focus (simp -dsimp -implicitDefEqProofs (disch := first | omega | (simp <;> omega) | fail) [hi]; done))))
    exact ret_ok rfl (stay hn)
  obtain ⟨m, rfl⟩ : ∃ m : Nat, i = m := ⟨i.toNat, by omega⟩
  by_cases hm : m < L.length
  · have hm2 : ¬ L.length ≤ m := by omega
    have hnx : nextF L m = match L[m] with | f :: r => some (f, r) | [] => none := by
      unfold nextF
      rw [if_neg hi, show (m : Int).toNat = m from rfl, List.getElem?_eq_getElem hm]
      cases L[m] <;> rfl
    obtain ⟨t, ht⟩ := h4 m (by omega) hm
    obtain ⟨A, c, B, hcs, hA⟩ : ∃ A c B, cs = A ++ c :: B ∧ A.length = m := ⟨cs.take m, cs[m], cs.drop (m + 1), by rw [List.getElem_cons_drop]; simp, by simp; omega⟩
    have hc : c = .sl ((L[m]).map Fnd.av) t := by
      rw [← ht]; simp [hcs, ← hA]
    have fd : ∀ x : AV, (A ++ x :: B).drop m = x :: B := fun x => drop_mid hA
    have ft : ∀ x : AV, (A ++ x :: B).take m = A := fun x => take_mid hA
    have fr : ∀ x : AV, (A ++ x :: B).drop (m + 1) = B := fun x => drop_mid1 hA
    rw [hcs, hc] at h2
    cases hL : L[m] with
    | nil =>
      rw [hL] at hnx h2
      repeat (first | simp -dsimp -implicitDefEqProofs (disch := first | omega | (simp <;> omega) | fail) [hi, hm, h1, h2, fd] | ((with_reducible first | apply m_1 | apply m_0); (focus ((conv => lhs; simp -dsimp -implicitDefEqProofs (disch := first | omega | (simp <;> omega) | fail) [hi, hm, h1, h2, fd]); done))) | ((with_reducible first | apply i_T | apply g_T); (focus (simp -dsimp -implicitDefEqProofs (disch := first | omega | (simp <;> omega) | fail) [hi, hm, h1, h2, fd]; done))) | ((with_reducible first | apply i_F | apply g_F); (focus (simp -dsimp -implicitDefEqProofs (disch := first | omega | (simp <;> omega) | fail) [hi, hm, h1, h2, fd]; done))))
      exact ret_ok rfl (stay hnx)
    | cons f r =>
      rw [hL] at hnx h2
      have hr0 : ((r.length : Int) + 1 == 0) = false := by simp; omega
      have hmp : m < ps.length := by omega
      have hr1 : (1 : Int) ≤ (r.length : Int) + 1 := by omega
      have hr2 : (r.map Fnd.av).take r.length = r.map Fnd.av := List.take_of_length_le (by simp)
      have hblb : b ≠ lb := fun e => (List.nodup_cons.1 h6).1 (by simp [e])
      have hptr : ∀ x, ptr x = .p x 0 := fun _ => rfl
      have hLm : (f :: r) ∈ L := by rw [← hL]; exact List.getElem_mem hm
      have hmM : m < Ms.length := by omega
      have hlbF : lb ∉ ps := (List.nodup_cons.1 (List.nodup_cons.1 h6).2).1
      have hbF : b ∉ ps := fun h => (List.nodup_cons.1 h6).1 (by simp [h])
      have hps : ∀ x ∈ ps, x < s.n := fun x hx => hlt x (by simp [hx])
      have hnF : ps.Nodup := (List.nodup_cons.1 (List.nodup_cons.1 h6).2).2
      repeat (first | simp -dsimp -implicitDefEqProofs (disch := first | omega | (simp <;> omega) | fail) [hi, hm, hm2, h1, h2, fd, ft, fr, hr0, hr1, hr2, hA, hmp, hptr] | ((with_reducible first | apply m_1 | apply m_0); (focus ((conv => lhs; simp -dsimp -implicitDefEqProofs (disch := first | omega | (simp <;> omega) | fail) [hi, hm, hm2, h1, h2, fd, ft, fr, hr0, hr1, hr2, hA, hmp, hptr]); done))) | ((with_reducible first | apply i_T | apply g_T); (focus (simp -dsimp -implicitDefEqProofs (disch := first | omega | (simp <;> omega) | fail) [hi, hm, hm2, h1, h2, fd, ft, fr, hr0, hr1, hr2, hA, hmp, hptr]; done))) | ((with_reducible first | apply i_F | apply g_F); (focus (simp -dsimp -implicitDefEqProofs (disch := first | omega | (simp <;> omega) | fail) [hi, hm, hm2, h1, h2, fd, ft, fr, hr0, hr1, hr2, hA, hmp, hptr]; done))))
      have hcl : (A ++ .sl (r.map Fnd.av) .no :: B).length = L.length := by rw [← h3, hcs]; simp
      have hq : ∀ x ∈ ps, ((s.set lb (.cells (A ++ .sl (r.map Fnd.av) .no :: B))).alloc (.cells f.cells)).get x = s.get x := fun x hx => by
        rw [get_alloc_ne (by have := hps x hx; simp; omega), AState.get_set_ne _ _ (by rintro rfl; exact hlbF hx)]
      have k1 := (hrf m hmp hmM).keep (hq _ (List.getElem_mem hmp))
      have okm := hM _ (List.getElem_mem hmM)
      have hwt := wt_few (hf.p _ hLm f (by simp)) (hf.e _ hLm f (by simp))
      have hsm := hsp _ (List.getElem_mem hmM)
      have hlen := okm.len
      have h6p := hf.p _ hLm f (by simp)
      refine run (rn_laderef13_Ledger_Do (l := f.ps) (at_ := ⟨f.sg, f.at_⟩) k1 (grps_spar okm) (by simp only [grpsL, List.length_map]; omega) (by omega)) (by simp [Plc.av, Plc.cells]) ?_
      rintro _ s2 ⟨q1, q2⟩
      rw [ref_doL okm] at q1
      repeat (first | simp -dsimp -implicitDefEqProofs (disch := first | omega | (simp <;> omega) | fail) | ((with_reducible first | apply m_1 | apply m_0); (focus ((conv => lhs; simp -dsimp -implicitDefEqProofs (disch := first | omega | (simp <;> omega) | fail)); done))) | ((with_reducible first | apply i_T | apply g_T); (focus (simp -dsimp -implicitDefEqProofs (disch := first | omega | (simp <;> omega) | fail); done))) | ((with_reducible first | apply i_F | apply g_F); (focus (simp -dsimp -implicitDefEqProofs (disch := first | omega | (simp <;> omega) | fail); done))))
      have hn2 := q2.n
      simp at hn2
      have hmin : ps[m] ∈ ps := List.getElem_mem hmp
      have kk : ∀ x, x < s.n → x ≠ ps[m] → s2.get x = ((s.set lb (.cells (A ++ .sl (r.map Fnd.av) .no :: B))).alloc (.cells f.cells)).get x := fun x hx hne => q2.keep x (by simp; omega) (by simpa using hne)
      have g1 : s2.get b = s.get b := by rw [kk b hb (by rintro e; exact hbF (e ▸ hmin)), get_alloc_ne (by simp; omega), AState.get_set_ne _ _ hblb]
      have g2 : s2.get lb = .cells (A ++ .sl (r.map Fnd.av) .no :: B) := by rw [kk lb hlb (by rintro e; exact hlbF (e ▸ hmin))]; simp (disch := first | omega | (simp <;> omega) | fail)
      have e1 : stepL L m = L.set m r := by unfold stepL; rw [hnx]; rfl
      have e2 : stepM L Ms m = Ms.set m (doL Ms[m] f.ps ⟨f.sg, f.at_⟩) := by
        unfold stepM; rw [hnx]; show Ms.set m (doL (Ms.getD m []) _ _) = _
        rw [List.getD_eq_getElem?_getD, List.getElem?_eq_getElem hmM]; rfl
      rw [hnx, e1, e2]
      refine ret_ok rfl ⟨b :: lb :: ps, rfl, ⟨lb, _, ps, tk, rfl, by rw [g1, h1]; simp, g2, by simp only [List.length_set]; exact hcl, fun i h h' => ?_, by simp [h5], fun i h h' => ?_, h6, by simp [h7]⟩, ?_⟩
      · by_cases hi2 : i = m
        · subst hi2
          exact ⟨.no, by simp [hA]⟩
        · have hi3 : i < L.length := by simpa using h'
          obtain ⟨t', e'⟩ := h4 i (by omega) hi3
          refine ⟨t', ?_⟩
          rw [List.getElem_set_ne (fun e => hi2 e.symm), ← e']
          have : ∀ (x y : AV) (h1 : i < (A ++ x :: B).length) (h2 : i < (A ++ y :: B).length), (A ++ x :: B)[i] = (A ++ y :: B)[i] := fun x y g1 g2 => by
            by_cases h : i < A.length
            · rw [List.getElem_append_left h, List.getElem_append_left h]
            · rw [List.getElem_append_right (by omega), List.getElem_append_right (by omega)]
              obtain ⟨d, hd⟩ : ∃ d, i - A.length = d + 1 := ⟨i - A.length - 1, by omega⟩
              simp only [hd, List.getElem_cons_succ]
          simp only [hcs]
          exact this _ _ _ _
      · by_cases hi2 : i = m
        · subst hi2
          simpa using q1
        · have hi3 : i < Ms.length := by simpa using h'
          rw [List.getElem_set_ne (fun e => hi2 e.symm)]
          have hpi : ps[i] ∈ ps := List.getElem_mem h
          have hne : ps[i] ≠ ps[m] := fun e => nodup_get hnF h hmp hi2 e
          exact (hrf i h hi3).keep ((kk _ (hps _ hpi) hne).trans (hq _ hpi))
      · refine ⟨by omega, fun x hx hnx => ?_, fun x hx => .inl hx⟩
        simp only [List.mem_cons, not_or] at hnx
        rw [kk x hx (by rintro rfl; exact hnx.2.2 hmin), get_alloc_ne (by simp; omega), AState.get_set_ne _ _ hnx.2.1]
  · have hn : nextF L m = none := by
      unfold nextF
      rw [if_neg hi, show (m : Int).toNat = m from rfl, List.getElem?_eq_none (by omega)]
    have hm2 : L.length ≤ m := by omega
    refine st3 hi hm2 h1 ?_
    exact ret_ok rfl (stay hn)
end Go.Proofs.YtmpoeamfcienoaaGreat
end
section
namespace Go.Proofs.YtmpoeamfcienoaaGreat
open Go.Ab
set_option linter.unusedVariables false
set_option linter.unusedSimpArgs false
set_option maxRecDepth 100000
set_option maxHeartbeats 1000000
theorem ct_laderef18_Replay_Left {b : Nat} {L : List (List Fnd)} {Ms : List (List (Int × LogV))} {F : List Nat} {s : AState} (hR : RqAt s b L Ms F) (hf : FewL L) : Gives prog F_laderef18_Replay_Left [.p b 0] s (.v (.int .i64 (cntL L))) s := by
  have hk := hf.k
  obtain ⟨lb, cs, ps, tk, rfl, h1, h2, h3, h4, h5, h6, h7, h8⟩ := hR
  refine runs_e h_laderef18_Replay_Left (Nat.le_of_ble_eq_true rfl) ?_
  refine st0 ?_
  refine loop_ok [0, 3, 4] (fun r a s1 => ∃ j : Nat, j + r = L.length ∧ s1 = s ∧ a = { t := den 25 [(0, .p b 0), (3, .v (.int .i64 (cntL (L.take j)))), (4, .v (.int .i64 j))], d := [] }) L.length ?_ ?_
  · exact ⟨0, by simp, rfl, by simp [cntL]⟩
  rintro r a s1 ⟨j, hjr, rfl, rfl⟩
  by_cases hlt : j < L.length
  · have w3 : IntKind.wrap .i64 ((j : Int) + 1) = (j : Int) + 1 := wrap_i64 (by omega) (by omega)
    obtain ⟨t, ht⟩ := h4 j (by omega) hlt
    obtain ⟨A, c, B, hcs, hA⟩ : ∃ A c B, cs = A ++ c :: B ∧ A.length = j := ⟨cs.take j, cs[j], cs.drop (j + 1), by rw [List.getElem_cons_drop]; simp, by simp; omega⟩
    have hc : c = .sl ((L[j]).map Fnd.av) t := by rw [← ht]; simp [hcs, ← hA]
    have fd : (A ++ c :: B).drop j = c :: B := drop_mid hA
    rw [hcs] at h2
    rw [hc] at h2 fd
    have hsn := cntL_snoc hlt
    have hc1 := cntL_le (L.take j) 30 (fun l hl => hf.n l (List.mem_of_mem_take hl))
    have hc2 := hf.n _ (List.getElem_mem hlt)
    simp only [List.length_take] at hc1
    have w4 : IntKind.wrap .i64 ((cntL (L.take j) : Int) + L[j].length) = cntL (L.take (j + 1)) := by rw [wrap_i64 (by omega) (by omega)]; omega
    refine st5 h1 hlt h2 fd w4 ?_
    exact ⟨r - 1, by omega, j + 1, by omega, rfl, by simp [w3]⟩
  · have : j = L.length := by omega
    subst this
    refine st2 h1 hlt ?_
    rw [List.take_length]
    exact ret_ok rfl ⟨rfl, rfl⟩
theorem ct_ladelaw19_alike {b c : Nat} {M : List (Int × LogV)} {F : List Nat} {s : AState} (led : LedAt s b M F) (ref : RefAt s c (grpsL M) (spotsM M)) (ok : MOk M) (sm : Small M) : Gives prog F_ladelaw19_alike [.p b 0, .p c 0] s (.v (.bool true)) s := by
  obtain ⟨u1, u2, ref⟩ := ref
  have hlg : ((grpsL M).length : Int) < 9223372036854775808 := by have := sm.len; simp only [grpsL, List.length_map]; omega
  have hes : ∀ g ∈ grpsL M, (g.es.length : Int) < 9223372036854775808 := fun g hg => by
    have := (grps_spar ok g hg).len; have := MI_eq; omega
  have z2 := sm.sp
  refine runs_e h_ladelaw19_alike (Nat.le_of_ble_eq_true rfl) ?_
  refine sd1 ref ?_
  refine gv (ct_ledger_Ledger_Groups led ok sm) ?_
  refine sd1 ref ?_
  refine gv (ct_laderef6_SameAll (l := grpsL M) (m := grpsL M) hlg hes) ?_
  refine sd1 ref ?_
  refine gv (ct_ledger_Ledger_Spots led ok sm) ?_
  refine sd1 ref ?_
  refine gv (ct_laderef13_SameSpots (l := spotsM M) (m := spotsM M) (by omega)) ?_
  refine sd0 ?_
  refine st0 ?_
  exact ret_ok rfl ⟨rfl, rfl⟩
end Go.Proofs.YtmpoeamfcienoaaGreat
end
section
namespace Go.Ab
set_option linter.unusedVariables false
set_option linter.unusedSimpArgs false
structure RpI (s : AState) (a b k : Nat) (O : List (List (Int × LogV))) (s3 : AState) (L : List (List Fnd)) (Ms : List (List (Int × LogV))) (F G : List Nat) : Prop where
  ra : RpAt s3 a L Ms F
  rb : RqAt s3 b L Ms G
  ap : ∀ x ∈ G, x ∉ F
  eq : outs L Ms = O
  ok : GsOk Ms
  few : FewL L
  len : L.length = k
  mt : Mut [] (G ++ F) s s3
end Go.Ab
namespace Go.Proofs.YtmpoeamfcienoaaGreat
open Go.Ab
set_option linter.unusedVariables false
set_option linter.unusedSimpArgs false
set_option maxRecDepth 100000
set_option maxHeartbeats 1000000
def SpI (L : List (List Fnd)) (Ms : List (List (Int × LogV))) : Prop := ∀ i (h : i < L.length) (h' : i < Ms.length), (spotsM Ms[i]).length + 60 * L[i].length ≤ 1800
theorem SpI.le {L : List (List Fnd)} {Ms : List (List (Int × LogV))} (h : SpI L Ms) (hl : L.length = Ms.length) : ∀ M ∈ Ms, (spotsM M).length ≤ 1800 := fun M hM => by
  obtain ⟨i, hi, rfl⟩ := List.getElem_of_mem hM
  have := h i (by omega) hi
  omega
theorem next_cases (L : List (List Fnd)) (Ms : List (List (Int × LogV))) (i : Int) :
    (stepL L i = L ∧ stepM L Ms i = Ms) ∨ ∃ (f : Fnd) (r : List Fnd) (hm : i.toNat < L.length), L[i.toNat] = f :: r ∧ stepL L i = L.set i.toNat r ∧ stepM L Ms i = Ms.set i.toNat (doL (Ms.getD i.toNat []) f.ps ⟨f.sg, f.at_⟩) := by
  cases hn : nextF L i with
  | none => exact .inl ⟨step_none hn, stepM_none hn⟩
  | some x =>
    obtain ⟨f, r⟩ := x
    refine .inr ⟨f, r, ?_⟩
    have e1 : stepL L i = L.set i.toNat r := by unfold stepL; rw [hn]
    have e2 : stepM L Ms i = Ms.set i.toNat (doL (Ms.getD i.toNat []) f.ps ⟨f.sg, f.at_⟩) := by unfold stepM; rw [hn]
    unfold nextF at hn
    split at hn
    · cases hn
    split at hn
    case h_2 => cases hn
    case h_1 f' r' e =>
    cases hn
    obtain ⟨hm, e3⟩ := List.getElem?_eq_some_iff.1 e
    exact ⟨hm, e3, e1, e2⟩
theorem SpI.step {L : List (List Fnd)} {Ms : List (List (Int × LogV))} (h : SpI L Ms) (hl : L.length = Ms.length) (ok : GsOk Ms) (few : FewL L) (i : Int) : SpI (stepL L i) (stepM L Ms i) := by
  rcases next_cases L Ms i with ⟨e1, e2⟩ | ⟨f, r, hm, e, e1, e2⟩
  · rw [e1, e2]; exact h
  rw [e1, e2]
  have hm2 : i.toNat < Ms.length := by omega
  intro j h1 h2
  by_cases hj : i.toNat = j
  · subst hj
    simp only [List.getElem_set_self]
    have h3 := h _ hm hm2
    rw [e] at h3
    rw [List.getD_eq_getElem?_getD, List.getElem?_eq_getElem hm2, Option.getD_some]
    have hin : (f :: r) ∈ L := by rw [← e]; exact List.getElem_mem hm
    have h4 := spots_doL (ok _ (List.getElem_mem hm2)) f.ps ⟨f.sg, f.at_⟩
    have h5 := wt_few (few.p _ hin f (by simp)) (few.e _ hin f (by simp))
    simp only [List.length_cons] at h3
    omega
  · rw [List.getElem_set_ne hj, List.getElem_set_ne hj]
    exact h j (by simpa using h1) (by simpa using h2)
theorem RpI.step {s : AState} {a b k : Nat} {O : List (List (Int × LogV))} {s3 s4 s5 : AState} {L : List (List Fnd)} {Ms : List (List (Int × LogV))} {F G F2 G2 : List Nat} (h : RpI s a b k O s3 L Ms F G) (i : Int)
    (g1 : RpAt s4 a (stepL L i) (stepM L Ms i) F2) (m1 : Mut F F2 s3 s4) (g2 : RqAt s5 b (stepL L i) (stepM L Ms i) G2) (m2 : Mut G G2 s4 s5) : RpI s a b k O s5 (stepL L i) (stepM L Ms i) F2 G2 := by
  obtain ⟨ra, rb, ap, eq, ok, few, len, mt⟩ := h
  have hG := rb.lt
  have ap1 : ∀ x ∈ G, x ∉ F2 := m1.apart ap hG
  have ap1' : ∀ x ∈ F2, x ∉ G := fun x hx hm => ap1 x hm hx
  have ap2 := m2.apart ap1' g1.lt
  exact ⟨g1.keep (m2.get ap1' g1.lt), g2, fun x hx hm => ap2 x hm hx, by rw [outs_step ra.len, eq], ok.step i, few.step i, by rw [stepL_len, len], (mt.trans (m1.moreL G)).trans (m2.more F2)⟩
theorem RpI.grows {s : AState} {a b k : Nat} {O : List (List (Int × LogV))} {s3 s4 : AState} {L : List (List Fnd)} {Ms : List (List (Int × LogV))} {F G : List Nat} (h : RpI s a b k O s3 L Ms F G) (g : Grows s3 s4) : RpI s a b k O s4 L Ms F G := by
  obtain ⟨ra, rb, ap, eq, ok, few, len, mt⟩ := h
  exact ⟨ra.keep (fun x hx => g.get (ra.lt x hx)), rb.keep (fun x hx => g.get (rb.lt x hx)), ap, eq, ok, few, len, mt.trans (.grows g)⟩
def rpB : ACode := A_ladelaw19_ReplayPlays.body.tl.tl.tl.tl.hd.tl.inn.inn.tl.hd.inn
theorem rp_B {e : List (Nat × AV)} {s s3 : AState} {a b k j : Nat} {O : List (List (Int × LogV))} {L : List (List Fnd)} {Ms : List (List (Int × LogV))} {F G : List Nat} {st : List Int} {Q : Exit → AAct → AState → Prop}
    (g2 : Ab.get e 2 = .sl (st.map fun n => .v (.int .i64 n)) .no) (g9 : Ab.get e 9 = .p a 0) (g10 : Ab.get e 10 = .p b 0) (g11 : Ab.get e 11 = .v (.int .i64 j)) (hlt : j < st.length) (hI : RpI s a b k O s3 L Ms F G) (hsp : SpI L Ms)
    (hQ : ∀ e' s' L' Ms' F' G', Ab.get e' 0 = Ab.get e 0 → Ab.get e' 1 = Ab.get e 1 → Ab.get e' 2 = Ab.get e 2 → Ab.get e' 3 = Ab.get e 3 → Ab.get e' 9 = Ab.get e 9 → Ab.get e' 10 = Ab.get e 10 → Ab.get e' 11 = Ab.get e 11 → RpI s a b k O s' L' Ms' F' G' → SpI L' Ms' → Q .normal { t := den 157 e', d := [] } s') :
    wp prog none rpB Q { t := den 157 e, d := [] } s3 := by
  simp only [rpB, A_ladelaw19_ReplayPlays, ACode.tl, ACode.hd, ACode.inn]
  have hlL := hI.ra.len
  have hapF : ∀ x ∈ G, x ∉ F := hI.ap
  have hGlt := hI.rb.lt
  repeat (first | simp -dsimp -implicitDefEqProofs (disch := first | omega | (simp <;> omega) | fail) [g2, g9, g10, g11, hlt] | (with_reducible apply m_draw) | ((with_reducible refine ⟨m_op ?_, ?_⟩); (focus (simp -dsimp -implicitDefEqProofs (disch := first | omega | (simp <;> omega) | fail) [g2, g9, g10, g11, hlt]; done))) | ((with_reducible first | apply m_d1 rfl | apply m_dE | apply m_dE0); (focus ((conv => lhs; simp -dsimp -implicitDefEqProofs (disch := first | omega | (simp <;> omega) | fail) [g2, g9, g10, g11, hlt]); done))) | ((with_reducible first | apply m_1 | apply m_0); (focus ((conv => lhs; simp -dsimp -implicitDefEqProofs (disch := first | omega | (simp <;> omega) | fail) [g2, g9, g10, g11, hlt]); done))) | ((with_reducible first | apply i_T | apply g_T | apply h_T); (focus (simp -dsimp -implicitDefEqProofs (disch := first | omega | (simp <;> omega) | fail) [g2, g9, g10, g11, hlt]; done))) | ((with_reducible first | apply i_F | apply g_F | apply h_F); (focus (simp -dsimp -implicitDefEqProofs (disch := first | omega | (simp <;> omega) | fail) [g2, g9, g10, g11, hlt]; done))))
  refine run (rn_replay_Replay_Step (i := st[j]) hI.ra hI.ok hI.few) (by simp) ?_
  rintro _ s4 ⟨F4, rfl, p1, p2⟩
  repeat (first | simp -dsimp -implicitDefEqProofs (disch := first | omega | (simp <;> omega) | fail) [g2, g9, g10, g11, hlt] | (with_reducible apply m_draw) | ((with_reducible refine ⟨m_op ?_, ?_⟩); (focus (simp -dsimp -implicitDefEqProofs (disch := first | omega | (simp <;> omega) | fail) [g2, g9, g10, g11, hlt]; done))) | ((with_reducible first | apply m_d1 rfl | apply m_dE | apply m_dE0); (focus ((conv => lhs; simp -dsimp -implicitDefEqProofs (disch := first | omega | (simp <;> omega) | fail) [g2, g9, g10, g11, hlt]); done))) | ((with_reducible first | apply m_1 | apply m_0); (focus ((conv => lhs; simp -dsimp -implicitDefEqProofs (disch := first | omega | (simp <;> omega) | fail) [g2, g9, g10, g11, hlt]); done))) | ((with_reducible first | apply i_T | apply g_T | apply h_T); (focus (simp -dsimp -implicitDefEqProofs (disch := first | omega | (simp <;> omega) | fail) [g2, g9, g10, g11, hlt]; done))) | ((with_reducible first | apply i_F | apply g_F | apply h_F); (focus (simp -dsimp -implicitDefEqProofs (disch := first | omega | (simp <;> omega) | fail) [g2, g9, g10, g11, hlt]; done))))
  refine run (rn_laderef18_Replay_Step (i := st[j]) (hI.rb.keep (p2.get hapF hGlt)) hI.ok hI.few (hsp.le hlL)) (by simp) ?_
  rintro _ s5 ⟨G5, rfl, p3, p4⟩
  have hI2 := RpI.step hI _ p1 p2 p3 p4
  have hsp2 := hsp.step hlL hI.ok hI.few st[j]
  have hlL2 := hI2.ra.len
  generalize stepL L st[j] = L2 at hI2 hsp2 hlL2 ⊢
  generalize stepM L Ms st[j] = Ms2 at hI2 hsp2 hlL2 ⊢
  repeat (first | simp -dsimp -implicitDefEqProofs (disch := first | omega | (simp <;> omega) | fail) [g9, g10] | (with_reducible apply m_draw) | ((with_reducible refine ⟨m_op ?_, ?_⟩); (focus (simp -dsimp -implicitDefEqProofs (disch := first | omega | (simp <;> omega) | fail) [g9, g10]; done))) | ((with_reducible first | apply m_d1 rfl | apply m_dE | apply m_dE0); (focus ((conv => lhs; simp -dsimp -implicitDefEqProofs (disch := first | omega | (simp <;> omega) | fail) [g9, g10]); done))) | ((with_reducible first | apply m_1 | apply m_0); (focus ((conv => lhs; simp -dsimp -implicitDefEqProofs (disch := first | omega | (simp <;> omega) | fail) [g9, g10]); done))) | ((with_reducible first | apply i_T | apply g_T | apply h_T); (focus (simp -dsimp -implicitDefEqProofs (disch := first | omega | (simp <;> omega) | fail) [g9, g10]; done))) | ((with_reducible first | apply i_F | apply g_F | apply h_F); (focus (simp -dsimp -implicitDefEqProofs (disch := first | omega | (simp <;> omega) | fail) [g9, g10]; done))))
  refine giv (ct_replay_Replay_Left hI2.ra hI2.few) (by first | (simp; done) | rfl | (simp; rfl)) ?_
  repeat (first | simp -dsimp -implicitDefEqProofs (disch := first | omega | (simp <;> omega) | fail) [g9, g10] | (with_reducible apply m_draw) | ((with_reducible refine ⟨m_op ?_, ?_⟩); (focus (simp -dsimp -implicitDefEqProofs (disch := first | omega | (simp <;> omega) | fail) [g9, g10]; done))) | ((with_reducible first | apply m_d1 rfl | apply m_dE | apply m_dE0); (focus ((conv => lhs; simp -dsimp -implicitDefEqProofs (disch := first | omega | (simp <;> omega) | fail) [g9, g10]); done))) | ((with_reducible first | apply m_1 | apply m_0); (focus ((conv => lhs; simp -dsimp -implicitDefEqProofs (disch := first | omega | (simp <;> omega) | fail) [g9, g10]); done))) | ((with_reducible first | apply i_T | apply g_T | apply h_T); (focus (simp -dsimp -implicitDefEqProofs (disch := first | omega | (simp <;> omega) | fail) [g9, g10]; done))) | ((with_reducible first | apply i_F | apply g_F | apply h_F); (focus (simp -dsimp -implicitDefEqProofs (disch := first | omega | (simp <;> omega) | fail) [g9, g10]; done))))
  refine giv (ct_laderef18_Replay_Left hI2.rb hI2.few) (by first | (simp; done) | rfl | (simp; rfl)) ?_
  repeat (first | simp -dsimp -implicitDefEqProofs (disch := first | omega | (simp <;> omega) | fail) | (with_reducible apply m_draw) | ((with_reducible refine ⟨m_op ?_, ?_⟩); (focus (simp -dsimp -implicitDefEqProofs (disch := first | omega | (simp <;> omega) | fail); done))) | ((with_reducible first | apply m_d1 rfl | apply m_dE | apply m_dE0); (focus ((conv => lhs; simp -dsimp -implicitDefEqProofs (disch := first | omega | (simp <;> omega) | fail)); done))) | ((with_reducible first | apply m_1 | apply m_0); (focus ((conv => lhs; simp -dsimp -implicitDefEqProofs (disch := first | omega | (simp <;> omega) | fail)); done))) | ((with_reducible first | apply i_T | apply g_T | apply h_T); (focus (simp -dsimp -implicitDefEqProofs (disch := first | omega | (simp <;> omega) | fail); done))) | ((with_reducible first | apply i_F | apply g_F | apply h_F); (focus (simp -dsimp -implicitDefEqProofs (disch := first | omega | (simp <;> omega) | fail); done))))
  repeat (first | simp -dsimp -implicitDefEqProofs (disch := first | omega | (simp <;> omega) | fail) [g9, g10] | ((with_reducible first | apply m_1 | apply m_0); (focus ((conv => lhs; simp -dsimp -implicitDefEqProofs (disch := first | omega | (simp <;> omega) | fail) [g9, g10]); done))) | ((with_reducible first | apply i_T | apply g_T); (focus (simp -dsimp -implicitDefEqProofs (disch := first | omega | (simp <;> omega) | fail) [g9, g10]; done))) | ((with_reducible first | apply i_F | apply g_F); (focus (simp -dsimp -implicitDefEqProofs (disch := first | omega | (simp <;> omega) | fail) [g9, g10]; done))))
  obtain ⟨ps, Fl, q1, q2, q3⟩ := rn_replay_Replay_Ledgers hI2.ra hI2.few.k
  have hpl := q1.len
  rw [g9]
  refine run q3 (by simp) ?_
  rintro _ s6 ⟨tk6, rfl, hg⟩
  have hI3 : RpI s a b k O s6 L2 Ms2 F4 G5 := RpI.grows hI2 hg
  obtain ⟨lb, cs, qs, tq, hG5, h1, h2, h3, h4, h5, hrf, h6, h7⟩ := hI3.rb
  have hqp : qs.length = ps.length := by omega
  have hptr : ∀ x, ptr x = .p x 0 := fun _ => rfl
  by_cases h0 : 0 ≤ st[j]
  case neg =>
    repeat (first | simp -dsimp -implicitDefEqProofs (disch := first | omega | (simp <;> omega) | fail) [g2, g9, g10, g11, hlt, h1, hqp, h0] | ((with_reducible first | apply m_1 | apply m_0); (focus ((conv => lhs; simp -dsimp -implicitDefEqProofs (disch := first | omega | (simp <;> omega) | fail) [g2, g9, g10, g11, hlt, h1, hqp, h0]); done))) | ((with_reducible first | apply i_T | apply g_T); (focus (simp -dsimp -implicitDefEqProofs (disch := first | omega | (simp <;> omega) | fail) [g2, g9, g10, g11, hlt, h1, hqp, h0]; done))) | ((with_reducible first | apply i_F | apply g_F); (focus (simp -dsimp -implicitDefEqProofs (disch := first | omega | (simp <;> omega) | fail) [g2, g9, g10, g11, hlt, h1, hqp, h0]; done))))
    refine hQ _ _ _ _ _ _ (by simp) (by simp) (by simp) (by simp) (by simp) (by simp) (by simp) hI3 hsp2
  obtain ⟨m, hm⟩ : ∃ m : Nat, st[j] = m := ⟨st[j].toNat, by omega⟩
  have hz : (0 : Int) ≤ (m : Int) := by omega
  by_cases hmp : m < ps.length
  · have hmq : m < qs.length := by omega
    have hmM : m < Ms2.length := by omega
    have okm := hI2.ok _ (List.getElem_mem hmM)
    have smm : Small Ms2[m] := okm.small (by have := hsp2 m (by omega) hmM; omega)
    obtain ⟨Fm, led, _⟩ := (q1.keep (s' := s6) (fun x hx => hg.get (q1.lt x hx))).all.2 m hmp hmM
    repeat (first | simp -dsimp -implicitDefEqProofs (disch := first | omega | (simp <;> omega) | fail) [g2, g9, g10, g11, hlt, h1, hqp, hm, hz, hmp, hmq, hptr] | ((with_reducible first | apply m_1 | apply m_0); (focus ((conv => lhs; simp -dsimp -implicitDefEqProofs (disch := first | omega | (simp <;> omega) | fail) [g2, g9, g10, g11, hlt, h1, hqp, hm, hz, hmp, hmq, hptr]); done))) | ((with_reducible first | apply i_T | apply g_T); (focus (simp -dsimp -implicitDefEqProofs (disch := first | omega | (simp <;> omega) | fail) [g2, g9, g10, g11, hlt, h1, hqp, hm, hz, hmp, hmq, hptr]; done))) | ((with_reducible first | apply i_F | apply g_F); (focus (simp -dsimp -implicitDefEqProofs (disch := first | omega | (simp <;> omega) | fail) [g2, g9, g10, g11, hlt, h1, hqp, hm, hz, hmp, hmq, hptr]; done))))
    refine gv (ct_ladelaw19_alike led (hrf m hmq hmM) okm smm) ?_
    refine st0 ?_
    refine hQ _ _ _ _ _ _ (by simp) (by simp) (by simp) (by simp) (by simp) (by simp) (by simp) hI3 hsp2
  · repeat (first | simp -dsimp -implicitDefEqProofs (disch := first | omega | (simp <;> omega) | fail) [g2, g9, g10, g11, hlt, h1, hqp, hm, hz, hmp] | ((with_reducible first | apply m_1 | apply m_0); (focus ((conv => lhs; simp -dsimp -implicitDefEqProofs (disch := first | omega | (simp <;> omega) | fail) [g2, g9, g10, g11, hlt, h1, hqp, hm, hz, hmp]); done))) | ((with_reducible first | apply i_T | apply g_T); (focus (simp -dsimp -implicitDefEqProofs (disch := first | omega | (simp <;> omega) | fail) [g2, g9, g10, g11, hlt, h1, hqp, hm, hz, hmp]; done))) | ((with_reducible first | apply i_F | apply g_F); (focus (simp -dsimp -implicitDefEqProofs (disch := first | omega | (simp <;> omega) | fail) [g2, g9, g10, g11, hlt, h1, hqp, hm, hz, hmp]; done))))
    refine hQ _ _ _ _ _ _ (by simp) (by simp) (by simp) (by simp) (by simp) (by simp) (by simp) hI3 hsp2
end Go.Proofs.YtmpoeamfcienoaaGreat
end
section
namespace Go.Proofs.YtmpoeamfcienoaaGreat
open Go.Ab
set_option linter.unusedVariables false
set_option linter.unusedSimpArgs false
set_option maxRecDepth 100000
set_option maxHeartbeats 1000000
theorem cnt0' (L : List (List Fnd)) : cntL (L.map fun _ => []) = 0 := by
  induction L with
  | nil => rfl
  | cons x L ih => simpa [cntL] using ih
theorem RqAt.len {s : AState} {b : Nat} {L : List (List Fnd)} {Ms : List (List (Int × LogV))} {F : List Nat} (h : RqAt s b L Ms F) : L.length = Ms.length := by obtain ⟨_, _, _, _, _, _, _, _, _, _, _, _, h⟩ := h; exact h.symm
structure ScI (s : AState) (a b k : Nat) (O : List (List (Int × LogV))) (L0 : List (List Fnd)) (i : Nat) (s3 : AState) (L : List (List Fnd)) (Ms : List (List (Int × LogV))) (F G : List Nat) : Prop where
  ra : RpAt s3 a L0 O F
  rb : RqAt s3 b L Ms G
  ap : ∀ x ∈ G, x ∉ F
  eq : outs L Ms = O
  ok : GsOk Ms
  few : FewL L
  sp : SpI L Ms
  len : L.length = k
  mt : Mut [] (G ++ F) s s3
  dn : ∀ q (h : q < L.length), q < i → L[q] = []
theorem ScI.step {s : AState} {a b k i : Nat} {O : List (List (Int × LogV))} {L0 : List (List Fnd)} {s3 s4 : AState} {L : List (List Fnd)} {Ms : List (List (Int × LogV))} {F G G2 : List Nat} (h : ScI s a b k O L0 i s3 L Ms F G)
    (g2 : RqAt s4 b (stepL L i) (stepM L Ms i) G2) (m2 : Mut G G2 s3 s4) : ScI s a b k O L0 i s4 (stepL L i) (stepM L Ms i) F G2 := by
  obtain ⟨ra, rb, ap, eq, ok, few, sp, len, mt, dn⟩ := h
  have hl := RqAt.len rb
  have ap1' : ∀ x ∈ F, x ∉ G := fun x hx hm => ap x hm hx
  have ap2 := m2.apart ap1' ra.lt
  refine ⟨ra.keep (m2.get ap1' ra.lt), g2, fun x hx hm => ap2 x hm hx, by rw [outs_step hl, eq], ok.step i, few.step i, sp.step hl ok few i, by rw [stepL_len, len], mt.trans (m2.more F), fun q hq hqi => ?_⟩
  have e := step_other (L := L) (i := i) (j := q) (by omega)
  rw [List.getElem?_eq_getElem hq, List.getElem?_eq_getElem (by rw [stepL_len] at hq; exact hq)] at e
  rw [Option.some.inj e]
  exact dn q _ hqi
theorem ScI.next {s : AState} {a b k i : Nat} {O : List (List (Int × LogV))} {L0 : List (List Fnd)} {s3 : AState} {L : List (List Fnd)} {Ms : List (List (Int × LogV))} {F G : List Nat} (h : ScI s a b k O L0 i s3 L Ms F G) (hi : i < L.length) (hn : nextF L i = none) : ScI s a b k O L0 (i + 1) s3 L Ms F G := by
  obtain ⟨ra, rb, ap, eq, ok, few, sp, len, mt, dn⟩ := h
  refine ⟨ra, rb, ap, eq, ok, few, sp, len, mt, fun q hq hqi => ?_⟩
  by_cases e : q = i
  · subst e; exact next_none hq hn
  · exact dn q hq (by omega)
theorem ct_ladelaw19_ReplayPlays {l : List Fnd} {n : Int} {st sc : List Int} {s : AState} (hl : (l.length : Int) < 9223372036854775808) (hps : ∀ f ∈ l, (f.ps.length : Int) < 9223372036854775808) (hes : ∀ f ∈ l, ∀ p ∈ f.ps, (p.es.length : Int) < 9223372036854775808)
    (hst : (st.length : Int) < 9223372036854775808) (hsc : (sc.length : Int) < 9223372036854775808) :
    Gives prog F_ladelaw19_ReplayPlays [.sl (l.map Fnd.av) .no, .v (.int .i64 n), .sl (st.map fun n => .v (.int .i64 n)) .no, .sl (sc.map fun n => .v (.int .u8 n)) .no] s (.v (.bool true)) s := by
  refine Runs.gives (runs_e h_ladelaw19_ReplayPlays (Nat.le_of_ble_eq_true rfl) ?_) (.v _)
  obtain ⟨T, hT⟩ : ∃ T, T = rpB := ⟨_, rfl⟩
  have hT2 := hT
  simp only [rpB, A_ladelaw19_ReplayPlays, ACode.tl, ACode.hd, ACode.inn] at hT2
  rw [← hT2]
  clear hT2
  repeat (first | simp -dsimp -implicitDefEqProofs (disch := first | omega | (simp <;> omega) | fail) | ((with_reducible first | apply m_1 | apply m_0); (focus ((conv => lhs; simp -dsimp -implicitDefEqProofs (disch := first | omega | (simp <;> omega) | fail)); done))) | ((with_reducible first | apply i_T | apply g_T); (focus (simp -dsimp -implicitDefEqProofs (disch := first | omega | (simp <;> omega) | fail); done))) | ((with_reducible first | apply i_F | apply g_F); (focus (simp -dsimp -implicitDefEqProofs (disch := first | omega | (simp <;> omega) | fail); done))))
  refine gv (ct_ladelaw19_known) ?_
  repeat (first | simp -dsimp -implicitDefEqProofs (disch := first | omega | (simp <;> omega) | fail) | ((with_reducible first | apply m_1 | apply m_0); (focus ((conv => lhs; simp -dsimp -implicitDefEqProofs (disch := first | omega | (simp <;> omega) | fail)); done))) | ((with_reducible first | apply i_T | apply g_T); (focus (simp -dsimp -implicitDefEqProofs (disch := first | omega | (simp <;> omega) | fail); done))) | ((with_reducible first | apply i_F | apply g_F); (focus (simp -dsimp -implicitDefEqProofs (disch := first | omega | (simp <;> omega) | fail); done))))
  refine gv (ct_ladelaw19_fewFound hl hps hes) ?_
  cases hf : fewFound l with
  | false =>
    repeat (first | simp -dsimp -implicitDefEqProofs (disch := first | omega | (simp <;> omega) | fail) | ((with_reducible first | apply m_1 | apply m_0); (focus ((conv => lhs; simp -dsimp -implicitDefEqProofs (disch := first | omega | (simp <;> omega) | fail)); done))) | ((with_reducible first | apply i_T | apply g_T); (focus (simp -dsimp -implicitDefEqProofs (disch := first | omega | (simp <;> omega) | fail); done))) | ((with_reducible first | apply i_F | apply g_F); (focus (simp -dsimp -implicitDefEqProofs (disch := first | omega | (simp <;> omega) | fail); done))))
    exact ret_ok rfl ⟨⟨Nat.le_refl _, fun x hx => .inl rfl⟩, .refl _⟩
  | true =>
  by_cases hx1 : (60 : Int) < st.length
  · repeat (first | simp -dsimp -implicitDefEqProofs (disch := first | omega | (simp <;> omega) | fail) [hx1] | ((with_reducible first | apply m_1 | apply m_0); (focus ((conv => lhs; simp -dsimp -implicitDefEqProofs (disch := first | omega | (simp <;> omega) | fail) [hx1]); done))) | ((with_reducible first | apply i_T | apply g_T); (focus (simp -dsimp -implicitDefEqProofs (disch := first | omega | (simp <;> omega) | fail) [hx1]; done))) | ((with_reducible first | apply i_F | apply g_F); (focus (simp -dsimp -implicitDefEqProofs (disch := first | omega | (simp <;> omega) | fail) [hx1]; done))))
    exact ret_ok rfl ⟨⟨Nat.le_refl _, fun x hx => .inl rfl⟩, .refl _⟩
  by_cases hx2 : (100 : Int) < sc.length
  · repeat (first | simp -dsimp -implicitDefEqProofs (disch := first | omega | (simp <;> omega) | fail) [hx1, hx2] | ((with_reducible first | apply m_1 | apply m_0); (focus ((conv => lhs; simp -dsimp -implicitDefEqProofs (disch := first | omega | (simp <;> omega) | fail) [hx1, hx2]); done))) | ((with_reducible first | apply i_T | apply g_T); (focus (simp -dsimp -implicitDefEqProofs (disch := first | omega | (simp <;> omega) | fail) [hx1, hx2]; done))) | ((with_reducible first | apply i_F | apply g_F); (focus (simp -dsimp -implicitDefEqProofs (disch := first | omega | (simp <;> omega) | fail) [hx1, hx2]; done))))
    exact ret_ok rfl ⟨⟨Nat.le_refl _, fun x hx => .inl rfl⟩, .refl _⟩
  repeat (first | simp -dsimp -implicitDefEqProofs (disch := first | omega | (simp <;> omega) | fail) [hx1, hx2] | ((with_reducible first | apply m_1 | apply m_0); (focus ((conv => lhs; simp -dsimp -implicitDefEqProofs (disch := first | omega | (simp <;> omega) | fail) [hx1, hx2]); done))) | ((with_reducible first | apply i_T | apply g_T); (focus (simp -dsimp -implicitDefEqProofs (disch := first | omega | (simp <;> omega) | fail) [hx1, hx2]; done))) | ((with_reducible first | apply i_F | apply g_F); (focus (simp -dsimp -implicitDefEqProofs (disch := first | omega | (simp <;> omega) | fail) [hx1, hx2]; done))))
  obtain ⟨hl1, hps1, -⟩ := fewFound_len hf
  have few := few_split n hf
  have hh := held_pos n
  obtain ⟨k, hk⟩ : ∃ k : Nat, k = (held n).toNat := ⟨_, rfl⟩
  have hsl := split_length l n
  rw [← hk] at hsl
  have hsz : (l.length : Int) * 48 ≤ 140737488355328 := by omega
  have hpz : ∀ f ∈ l, (f.ps.length : Int) * 88 ≤ 140737488355328 := fun f hf => by have := hps1 f hf; omega
  have gs := gs_new k
  refine run (rn_replay_New (l := l) (n := n) hsz hpz) (by simp) ?_
  rintro _ s1 ⟨a, F, rfl, h1, m1⟩
  repeat (first | simp -dsimp -implicitDefEqProofs (disch := first | omega | (simp <;> omega) | fail) | ((with_reducible first | apply m_1 | apply m_0); (focus ((conv => lhs; simp -dsimp -implicitDefEqProofs (disch := first | omega | (simp <;> omega) | fail)); done))) | ((with_reducible first | apply i_T | apply g_T); (focus (simp -dsimp -implicitDefEqProofs (disch := first | omega | (simp <;> omega) | fail); done))) | ((with_reducible first | apply i_F | apply g_F); (focus (simp -dsimp -implicitDefEqProofs (disch := first | omega | (simp <;> omega) | fail); done))))
  refine run (rn_laderef18_New (l := l) (n := n) hsz hpz) (by simp) ?_
  rintro _ s2 ⟨b, G, rfl, h2, m2⟩
  rw [← hk] at h1 h2
  repeat (first | simp -dsimp -implicitDefEqProofs (disch := first | omega | (simp <;> omega) | fail) | ((with_reducible first | apply m_1 | apply m_0); (focus ((conv => lhs; simp -dsimp -implicitDefEqProofs (disch := first | omega | (simp <;> omega) | fail)); done))) | ((with_reducible first | apply i_T | apply g_T); (focus (simp -dsimp -implicitDefEqProofs (disch := first | omega | (simp <;> omega) | fail); done))) | ((with_reducible first | apply i_F | apply g_F); (focus (simp -dsimp -implicitDefEqProofs (disch := first | omega | (simp <;> omega) | fail); done))))
  have hI : RpI s a b k (outs (split l n) (List.replicate k [])) s2 (split l n) (List.replicate k []) F G := by
    have e : Mut ([] ++ F) (G ++ F) s1 s2 := m2.more F
    refine ⟨h1.keep (m2.get (by simp) h1.lt), h2, fun x hx hm => ?_, rfl, gs, few, hsl, m1.trans e⟩
    rcases m2.own x hx with h | h
    · cases h
    · have := h1.lt x hm; omega
  have hS : SpI (split l n) (List.replicate k []) := fun i h h' => by
    have := few.n _ (List.getElem_mem h)
    rw [List.getElem_replicate, show (spotsM []).length = 0 from rfl]; omega
  generalize outs (split l n) (List.replicate k []) = O at hI
  refine loop_ok [2, 3, 9, 10, 11] (fun r x s3 => ∃ (j : Nat) (L : List (List Fnd)) (Ms : List (List (Int × LogV))) (F G : List Nat), j + r = st.length ∧ RpI s a b k O s3 L Ms F G ∧ SpI L Ms ∧
    x = { t := den 157 [(2, .sl (st.map fun n => .v (.int .i64 n)) .no), (3, .sl (sc.map fun n => .v (.int .u8 n)) .no), (9, .p a 0), (10, .p b 0), (11, .v (.int .i64 j))], d := [] }) st.length ?_ ?_
  · exact ⟨0, _, _, F, G, by simp, hI, hS, by simp⟩
  clear hI hS h1 h2 m1 m2 gs few
  rintro r x s3 ⟨j, L, Ms, F, G, hjr, hI, hS, rfl⟩
  by_cases hlt : j < st.length
  · have w3 : IntKind.wrap .i64 ((j : Int) + 1) = (j : Int) + 1 := wrap_i64 (by omega) (by omega)
    repeat (first | simp -dsimp -implicitDefEqProofs (disch := first | omega | (simp <;> omega) | fail) [hlt] | ((with_reducible first | apply m_1 | apply m_0); (focus ((conv => lhs; simp -dsimp -implicitDefEqProofs (disch := first | omega | (simp <;> omega) | fail) [hlt]); done))) | ((with_reducible first | apply i_T | apply g_T); (focus (simp -dsimp -implicitDefEqProofs (disch := first | omega | (simp <;> omega) | fail) [hlt]; done))) | ((with_reducible first | apply i_F | apply g_F); (focus (simp -dsimp -implicitDefEqProofs (disch := first | omega | (simp <;> omega) | fail) [hlt]; done))))
    rw [hT]
    refine rp_B (st := st) (j := j) (a := a) (b := b) (k := k) (O := O) (s := s) (by simp) (by simp) (by simp) (by simp) hlt hI hS ?_
    intro e' s' L' Ms' F' G' k0 k1 k2 k3 k9 k10 k11 hI' hS'
    simp at k0 k1 k2 k3 k9 k10 k11
    repeat (first | simp -dsimp -implicitDefEqProofs (disch := first | omega | (simp <;> omega) | fail) [k2, k3, k9, k10, k11] | ((with_reducible first | apply m_1 | apply m_0); (focus ((conv => lhs; simp -dsimp -implicitDefEqProofs (disch := first | omega | (simp <;> omega) | fail) [k2, k3, k9, k10, k11]); done))) | ((with_reducible first | apply i_T | apply g_T); (focus (simp -dsimp -implicitDefEqProofs (disch := first | omega | (simp <;> omega) | fail) [k2, k3, k9, k10, k11]; done))) | ((with_reducible first | apply i_F | apply g_F); (focus (simp -dsimp -implicitDefEqProofs (disch := first | omega | (simp <;> omega) | fail) [k2, k3, k9, k10, k11]; done))))
    refine ⟨r - 1, by omega, j + 1, by omega, L', ?_⟩
    simp [k2, k3, k9, k10, w3]
    exact ⟨Ms', ⟨F', G', hI'⟩, hS'⟩
  refine st1 hlt ?_
  refine run (rn_replay_Replay_Run (sc := sc) hI.ra hI.ok hI.few (by have := hI.len; omega) (by omega)) (by simp) ?_
  rintro _ s4 ⟨F4, q1, q2⟩
  refine st0 ?_
  have hE : outs L Ms = O := hI.eq
  have hk0 : L.length = k := hI.len
  rw [hE] at q1
  have hB : ScI s a b k O (L.map fun _ => []) 0 s4 L Ms F4 G := by
    have m := q2.moreL G
    have hG := hI.rb.lt
    exact ⟨q1, hI.rb.keep (q2.get hI.ap hG), q2.apart hI.ap hG, hE, hI.ok, hI.few, hS, hk0, hI.mt.trans m, fun q _ h => absurd h (Nat.not_lt_zero _)⟩
  have hc0 : cntL (L.map fun _ => []) = 0 := cnt0' L
  have hl0 : (L.map fun _ => ([] : List Fnd)).length = k := by simpa using hk0
  have hf0 : FewL (L.map fun _ => []) := few_none hI.few.k
  generalize (L.map fun _ => ([] : List Fnd)) = L0 at hB hc0 hl0 hf0
  clear hI hS q1 q2 hE
  refine loop_ok [9, 10, 13] (fun r x s3 => ∃ (j : Nat) (L : List (List Fnd)) (Ms : List (List (Int × LogV))) (G : List Nat), j + r = k ∧ ScI s a b k O L0 j s3 L Ms F4 G ∧
    x = { t := den 157 [(9, .p a 0), (10, .p b 0), (13, .v (.int .i64 j))], d := [] }) k ?_ ?_
  · exact ⟨0, _, _, G, by simp, hB, by simp⟩
  clear hB hk0
  rintro r x s5 ⟨j, L, Ms, G, hjr, hB, rfl⟩
  obtain ⟨lb, cs, qs, tq, hG5, h1, h2, h3, h4, h5, hrf, h6, h7⟩ := hB.rb
  have hqk : qs.length = k := by have := hB.len; omega
  by_cases hlt : j < k
  · have w3 : IntKind.wrap .i64 ((j : Int) + 1) = (j : Int) + 1 := wrap_i64 (by omega) (by omega)
    repeat (first | simp -dsimp -implicitDefEqProofs (disch := first | omega | (simp <;> omega) | fail) [hlt, h1, hqk] | ((with_reducible first | apply m_1 | apply m_0); (focus ((conv => lhs; simp -dsimp -implicitDefEqProofs (disch := first | omega | (simp <;> omega) | fail) [hlt, h1, hqk]); done))) | ((with_reducible first | apply i_T | apply g_T); (focus (simp -dsimp -implicitDefEqProofs (disch := first | omega | (simp <;> omega) | fail) [hlt, h1, hqk]; done))) | ((with_reducible first | apply i_F | apply g_F); (focus (simp -dsimp -implicitDefEqProofs (disch := first | omega | (simp <;> omega) | fail) [hlt, h1, hqk]; done))))
    refine loop_ok [9, 10, 13] (fun r2 x s6 => ∃ (L : List (List Fnd)) (Ms : List (List (Int × LogV))) (G : List Nat), cntL L = r2 ∧ ScI s a b k O L0 j s6 L Ms F4 G ∧
      x = { t := den 157 [(9, .p a 0), (10, .p b 0), (13, .v (.int .i64 j))], d := [] }) (cntL L) ?_ ?_
    · exact ⟨L, Ms, G, rfl, hB, by simp⟩
    rintro r2 x s6 ⟨L2, Ms2, G2, hc, hB2, rfl⟩
    repeat (first | simp -dsimp -implicitDefEqProofs (disch := first | omega | (simp <;> omega) | fail) | ((with_reducible first | apply m_1 | apply m_0); (focus ((conv => lhs; simp -dsimp -implicitDefEqProofs (disch := first | omega | (simp <;> omega) | fail)); done))) | ((with_reducible first | apply i_T | apply g_T); (focus (simp -dsimp -implicitDefEqProofs (disch := first | omega | (simp <;> omega) | fail); done))) | ((with_reducible first | apply i_F | apply g_F); (focus (simp -dsimp -implicitDefEqProofs (disch := first | omega | (simp <;> omega) | fail); done))))
    refine run (rn_laderef18_Replay_Step (i := j) hB2.rb hB2.ok hB2.few (hB2.sp.le (RqAt.len hB2.rb))) (by simp) ?_
    rintro _ s7 ⟨G7, rfl, p1, p2⟩
    have hB3 := ScI.step hB2 p1 p2
    cases hn : nextF L2 j with
    | some y =>
      have hc2 := next_cnt (L := L2) (i := j) (by rw [hn]; rfl)
      repeat (first | simp -dsimp -implicitDefEqProofs (disch := first | omega | (simp <;> omega) | fail) | ((with_reducible first | apply m_1 | apply m_0); (focus ((conv => lhs; simp -dsimp -implicitDefEqProofs (disch := first | omega | (simp <;> omega) | fail)); done))) | ((with_reducible first | apply i_T | apply g_T); (focus (simp -dsimp -implicitDefEqProofs (disch := first | omega | (simp <;> omega) | fail); done))) | ((with_reducible first | apply i_F | apply g_F); (focus (simp -dsimp -implicitDefEqProofs (disch := first | omega | (simp <;> omega) | fail); done))))
      exact ⟨cntL (stepL L2 j), by omega, _, _, G7, rfl, hB3, by simp⟩
    | none =>
      rw [step_none hn, stepM_none hn] at hB3
      have hB4 := ScI.next hB3 (by have := hB3.len; omega) hn
      repeat (first | simp -dsimp -implicitDefEqProofs (disch := first | omega | (simp <;> omega) | fail) | ((with_reducible first | apply m_1 | apply m_0); (focus ((conv => lhs; simp -dsimp -implicitDefEqProofs (disch := first | omega | (simp <;> omega) | fail)); done))) | ((with_reducible first | apply i_T | apply g_T); (focus (simp -dsimp -implicitDefEqProofs (disch := first | omega | (simp <;> omega) | fail); done))) | ((with_reducible first | apply i_F | apply g_F); (focus (simp -dsimp -implicitDefEqProofs (disch := first | omega | (simp <;> omega) | fail); done))))
      exact ⟨r - 1, by omega, j + 1, L2, Ms2, G7, by omega, hB4, by simp [w3]⟩
  · have hjk : j = k := by omega
    have hLn : ∀ x ∈ L, x = [] := fun x hx => by obtain ⟨q, hq, rfl⟩ := List.getElem_of_mem hx; exact hB.dn q hq (by have := hB.len; omega)
    have hMO : Ms = O := by rw [← outs_done (RqAt.len hB.rb) hLn]; exact hB.eq
    have sp2 := hB.sp.le (RqAt.len hB.rb)
    have ok2 := hB.ok
    have mt2 := hB.mt
    obtain ⟨ps, Fl, q1, q2, q3⟩ := rn_replay_Replay_Ledgers hB.ra (by omega)
    rw [← hMO] at q1
    have hpl := q1.len
    have hpk : ps.length = k := by omega
    refine st3 hlt h1 hqk ?_
    refine run q3 (by simp) ?_
    rintro _ s6 ⟨tk6, rfl, hg⟩
    refine st0 ?_
    refine gv (ct_replay_Replay_Left (hB.ra.keep fun x hx => hg.get (hB.ra.lt x hx)) hf0) ?_
    rw [hc0]
    have h1' := (hg.get (hB.rb.lt b (by rw [hG5]; simp))).trans h1
    have hrf' := fun i h h' => (hrf i h h').keep (hg.get (hrf i h h').lt)
    have all := (q1.keep (s' := s6) (fun x hx => hg.get (q1.lt x hx))).all.2
    have hptr : ∀ x, ptr x = .p x 0 := fun _ => rfl
    refine st3 h1' hpk hqk ?_
    refine loop_ok [10, 14, 15] (fun r x s7 => ∃ j : Nat, j + r = k ∧ s7 = s6 ∧ x = { t := den 157 [(10, .p b 0), (14, .sl (ps.map fun n => .p n 0) tk6), (15, .v (.int .i64 j))], d := [] }) k ?_ ?_
    · exact ⟨0, by simp, rfl, by simp⟩
    rintro r x s7 ⟨i, hir, rfl, rfl⟩
    by_cases hli : i < k
    · have w3 : IntKind.wrap .i64 ((i : Int) + 1) = (i : Int) + 1 := wrap_i64 (by omega) (by omega)
      have hip : i < ps.length := by omega
      have hiq : i < qs.length := by omega
      have hiM : i < Ms.length := by omega
      obtain ⟨Fm, led, _⟩ := all i hip hiM
      have okm := ok2 _ (List.getElem_mem hiM)
      have smm : Small Ms[i] := okm.small (by have := sp2 _ (List.getElem_mem hiM); omega)
      repeat (first | simp -dsimp -implicitDefEqProofs (disch := first | omega | (simp <;> omega) | fail) [hli, h1', hpk, hqk, hptr, hip, hiq] | ((with_reducible first | apply m_1 | apply m_0); (focus ((conv => lhs; simp -dsimp -implicitDefEqProofs (disch := first | omega | (simp <;> omega) | fail) [hli, h1', hpk, hqk, hptr, hip, hiq]); done))) | ((with_reducible first | apply i_T | apply g_T); (focus (simp -dsimp -implicitDefEqProofs (disch := first | omega | (simp <;> omega) | fail) [hli, h1', hpk, hqk, hptr, hip, hiq]; done))) | ((with_reducible first | apply i_F | apply g_F); (focus (simp -dsimp -implicitDefEqProofs (disch := first | omega | (simp <;> omega) | fail) [hli, h1', hpk, hqk, hptr, hip, hiq]; done))))
      refine gv (ct_ladelaw19_alike led (hrf' i hiq hiM) okm smm) ?_
      refine st0 ?_
      exact ⟨r - 1, by omega, i + 1, by omega, rfl, by simp [w3]⟩
    · refine st4 hli h1' hpk hqk ?_
      have m := mt2.trans (.grows hg)
      exact ret_ok rfl ⟨⟨m.n, fun x hx => .inl (m.keep x hx (by simp)).symm⟩, .refl _⟩
end Go.Proofs.YtmpoeamfcienoaaGreat
end
