/- Going on. -/
import Derived.RangeFuncLeaves
import Derived.Test.YtmfhchaoijiodaaKCL10
section
namespace Go.Ab
open Go.RowKit Go.Proofs
set_option linter.unusedVariables false
set_option linter.unusedSimpArgs false
variable {P : Program}
inductive ARes where
  | tmp (t : Nat) | cell (ag : Bool) (k a : Nat)
structure AFn where
  ntmps : Nat
  res : List ARes
  body : ACode
def compRes (P : Program) : ResultVar → Option ARes
  | .tmp t => some (.tmp t)
  | .cell a t => do
    let ag ← aggOf P t
    let k ← kOf P t
    if ag = true ∨ k = 1 then some (.cell ag k a) else none
def compFn (P : Program) (fn : Func) : Option AFn := do
  let c ← fn.body
  let b ← compCode P c
  let r ← fn.results.toList.mapM (compRes P)
  if (fn.name == "runtime.NumGoroutine") = false then some { ntmps := fn.ntmps, res := r, body := b } else none
def evRes (t : List AV) (s : AState) : ARes → Option AV
  | .tmp i => some (t.getD i .any)
  | .cell ag k a => match cellsAt s (t.getD a .any) with
    | some cs => if k ≤ cs.length then some (if ag then .agg (cs.take k) else cs.getD 0 .any) else none
    | none => none
def evRess (t : List AV) (s : AState) : List ARes → Option (List AV)
  | [] => some []
  | r :: rs => match evRes t s r, evRess t s rs with
    | some x, some xs => some (x :: xs)
    | _, _ => none
def retVal : List AV → AV
  | [x] => x
  | xs => .tup xs
def killAll (d : List Nat) (s : AState) : AState := d.foldl (fun s x => s.set x .dead) s
def fnQ (res : List ARes) (Q : AV → AState → Prop) : Exit → AAct → AState → Prop
  | .normal, a, s => (∀ x ∈ a.d, s.get x = .defd) ∧ a.d.Nodup ∧ ∃ xs, evRess a.t (killAll a.d s) res = some xs ∧ Q (retVal xs) (killAll a.d s)
  | .ret, a, s => (∀ x ∈ a.d, s.get x = .defd) ∧ a.d.Nodup ∧ ∃ xs, evRess a.t (killAll a.d s) res = some xs ∧ Q (retVal xs) (killAll a.d s)
  | _, _, _ => False
def rv1 (tmps : Array Value) : ResultVar → Sem Value
  | .tmp t => pure (tmps.getD t undef)
  | .cell a t => do loadVar t (← asAddr (tmps.getD a undef))
theorem results_eq (fn : Func) (tmps : Array Value) : results fn tmps = (do let vs ← fn.results.mapM (rv1 tmps); pure (if h : vs.size = 1 then vs[0] else .tuple vs)) := by
  unfold results
  congr 1
theorem evRess_ok {c : Cx} {s : AState} {w : World} {t : List AV} {tmps : Array Value} (hr : Rel (compCode P) c s w) (ht : RL c t tmps.toList) : ∀ {rv : List ResultVar} {res : List ARes} {xs : List AV},
    rv.mapM (compRes P) = some res → evRess t s res = some xs →
    ∃ vs : List Value, (rv.mapM (rv1 tmps)).run P w = .ok vs w ∧ RL c xs vs := by
  have hget : ∀ i, R c (t.getD i .any) (tmps.getD i undef) := fun i => by
    have := ht.get i
    simpa [Array.getD_eq_getD_getElem?, List.getD_eq_getElem?_getD] using this
  intro rv
  induction rv with
  | nil => intro res xs h he; simp at h; subst h; simp [evRess] at he; subst he; exact ⟨[], by simp, RL.nil c⟩
  | cons r rv ih =>
    intro res xs h he
    simp only [List.mapM_cons, bind, Option.bind_eq_some_iff] at h
    obtain ⟨y, hy, ys, hys, h⟩ := h
    cases h
    simp only [evRess] at he
    split at he
    · rename_i x xs' h1 h2
      cases he
      obtain ⟨vs, hvs, hvr⟩ := ih hys h2
      have : ∃ v, (rv1 tmps r).run P w = .ok v w ∧ R c x v := by
        cases r with
        | tmp i =>
          simp only [compRes, Option.some.injEq] at hy
          subst hy
          simp only [evRes, Option.some.injEq] at h1
          subst h1
          exact ⟨_, by simp [rv1], hget i⟩
        | cell a ty =>
          simp only [compRes] at hy
          obtain ⟨ag, ha, hy⟩ := bind_some hy
          obtain ⟨k, hk, hy⟩ := bind_some hy
          split at hy
          · rename_i hak
            cases hy
            simp only [evRes] at h1
            split at h1
            · rename_i cs hcs
              split at h1
              · rename_i hl
                cases h1
                obtain ⟨B, off, us, hyv, hu, hcell⟩ := cellsAt_ok hr (hget a) hcs
                cases ag with
                | true =>
                  have := run_load_agg (P := P) (w := w) (B := B) (off := off) (us := us.take k) (ty := ty) (fun j v hj => hcell j v (by
                    rw [List.getElem?_take] at hj; split at hj
                    · exact hj
                    · cases hj)) (shadow_take hu hl) ha hk
                  exact ⟨.agg (us.take k).toArray, by simp [rv1, hyv, asAddr, this], by simpa using R.agg' (hu.take k)⟩
                | false =>
                  have hk1 : k = 1 := by simpa using hak
                  subst hk1
                  have h0 : 0 < us.length := by rw [hu.1]; omega
                  have hu0 : us[0]? = some (us.getD 0 undef) := by rw [List.getD_eq_getElem?_getD, List.getElem?_eq_getElem h0]; rfl
                  have := run_load_one (P := P) (w := w) (hcell 0 _ hu0) ha
                  simp only [Nat.add_zero] at this
                  exact ⟨us.getD 0 undef, by simp [rv1, hyv, asAddr, this], by simpa using hu.get 0⟩
              · cases h1
            · cases h1
          · cases hy
      obtain ⟨v, hv, hvx⟩ := this
      refine ⟨v :: vs, ?_, RL.cons hvx hvr⟩
      rw [List.mapM_cons]
      simp only [Sem.run_bind, hv, Result.andThen_ok, hvs, Sem.run_pure]
    · cases he
theorem results_ok {c : Cx} {s : AState} {w : World} {t : List AV} {tmps : Array Value} (hr : Rel (compCode P) c s w) (ht : RL c t tmps.toList) {fn : Func} {res : List ARes} {xs : List AV}
    (hc : fn.results.toList.mapM (compRes P) = some res) (he : evRess t s res = some xs) : ∃ v, (results fn tmps).run P w = .ok v w ∧ R c (retVal xs) v := by
  obtain ⟨vs, hvs, hvr⟩ := evRess_ok hr ht hc he
  have hm : (fn.results.mapM (rv1 tmps)).run P w = .ok vs.toArray w := by
    rw [Array.mapM_eq_mapM_toList]
    show Sem.run P (List.toArray <$> _) w = _
    rw [map_eq_pure_bind]
    simp only [Sem.run_bind, hvs, Result.andThen_ok, Sem.run_pure]
  refine ⟨if h : vs.toArray.size = 1 then vs.toArray[0] else .tuple vs.toArray, by rw [results_eq]; simp only [Sem.run_bind, hm, Result.andThen_ok, Sem.run_pure], ?_⟩
  unfold retVal
  split
  · rename_i x
    obtain ⟨v, vs', rfl, hx, hn⟩ := hvr.cons_inv
    have := hn.nil_inv
    subst this
    simpa using hx
  · rename_i hne
    have : vs.toArray.size ≠ 1 := by
      intro h
      have hl : xs.length = 1 := by rw [← hvr.1]; simpa using h
      obtain ⟨x, rfl⟩ := List.length_eq_one_iff.1 hl
      exact hne x rfl
    rw [dif_neg this]
    exact R.tup' hvr
theorem leaves_ok {c0 : Cx} {s0 : AState} {w0 : World} {fn : Func} {tmps : Array Value} {res : List ARes} {Q : AV → AState → Prop} {t : List AV} (hc : fn.results.toList.mapM (compRes P) = some res) :
    ∀ (d : List Nat) (c : Cx) (s : AState) (w : World), Ext c0 s0 w0 c s w → Rel (compCode P) c s w → RL c t tmps.toList → (∀ x ∈ d, s.get x = .defd) → d.Nodup →
      (∃ xs, evRess t (killAll d s) res = some xs ∧ Q (retVal xs) (killAll d s)) →
      LeavesInM Fence.wide 0 P fn tmps (fun e w' => ∃ v c' x s', e = .returned v ∧ Ext c0 s0 w0 c' s' w' ∧ Rel (compCode P) c' s' w' ∧ R c' x v ∧ Q x s') (d.map fun x => { target := .collected (c.mu x), args := #[] }) .returning w := by
  intro d
  induction d with
  | nil =>
    intro c s w hx hr ht _ _ hq
    obtain ⟨xs, h1, h2⟩ := hq
    obtain ⟨v, h3, h4⟩ := results_ok hr ht hc h1
    exact ⟨v, h3, v, c, _, s, rfl, hx, hr, h4, h2⟩
  | cons b d ih =>
    intro c s w hx hr ht hd hnd hq
    have hb := hd b (by simp)
    have hbn : b < s.n := AState.lt_of_get hb (by simp)
    have hob := hr.obj b hbn
    rw [hb] at hob
    have hob : w.heap[c.mu b]? = some (.deferred (some [])) := hob
    refine ⟨by simp, .inl ⟨c.mu b, _, rfl, run_takeDeferred hob, ?_⟩⟩
    obtain ⟨r1, x1⟩ := hr.upd (w' := w.putObj (c.mu b) (.deferred none)) hbn (by rw [hb]; simp) ⟨rfl, rfl, rfl⟩ (by simp) (fun B hB => World.putObj_heap_other hB) .dead trivial
      (hr.arr_nil hob (fun _ _ _ h => by cases h))
    obtain ⟨n1, n2⟩ := List.nodup_cons.1 hnd
    exact ih c (s.set b .dead) _ (hx.trans x1) r1 ht (fun x hx' => by rw [AState.get_set_ne _ _ (by rintro rfl; exact n1 hx')]; exact hd x (by simp [hx'])) n2 hq
theorem runs_of {f : FuncId} {af : AFn} (hf : (P.funcs[f]?).bind (compFn P) = some af) {args : List AV} {s : AState} {Q : AV → AState → Prop}
    (h : wp P none af.body (fnQ af.res Q) { t := args ++ List.replicate (af.ntmps - args.length) .any, d := [] } s) : Runs (compCode P) P f args s Q := by
  simp only [Option.bind_eq_some_iff] at hf
  obtain ⟨fn, hfn, hc⟩ := hf
  unfold compFn at hc
  obtain ⟨code, hb, hc⟩ := bind_some hc
  obtain ⟨ac, hac, hc⟩ := bind_some hc
  obtain ⟨res, hres, hc⟩ := bind_some hc
  split at hc
  · rename_i hname
    cases hc
    refine ⟨enters_of hfn hname hb, fun c w vs hr ha => ?_⟩
    rw [← callsIn_wide (n := 0)]
    refine callsIn_of_wp_marks hfn hb trivial ?_
    have hw := wp_ok h code hac c w { tmps := vs.toArray ++ Array.replicate (fn.ntmps - vs.toArray.size) undef, defers := [] } hr
      ⟨by
        have := ha.append (RL.any c (fn.ntmps - args.length) (List.replicate (fn.ntmps - args.length) undef) (by simp))
        simpa [ha.1] using this, rfl, fun x hx => by cases hx⟩ (fun l e => by cases e)
    have hF : Fw (Option.map c.mu none) = Fence.wide := rfl
    rw [hF] at hw
    refine wpIn_mono hw ?_
    rintro e a w' ⟨c', aa, s', k1, k2, k3, k4⟩
    cases e with
    | normal =>
      obtain ⟨q1, q2, q3⟩ := k4
      show LeavesInM _ _ _ _ _ _ _ _ _
      rw [k3.d]
      exact leaves_ok hres aa.d c' s' w' k1 k2 k3.t q1 q2 q3
    | ret =>
      obtain ⟨q1, q2, q3⟩ := k4
      show LeavesInM _ _ _ _ _ _ _ _ _
      rw [k3.d]
      exact leaves_ok hres aa.d c' s' w' k1 k2 k3.t q1 q2 q3
    | exit id => exact k4.elim
    | goto l => exact k4.elim
    | panic ch => exact k4.elim
    | outgrown => exact k4.elim
  · cases hc
end Go.Ab
end
