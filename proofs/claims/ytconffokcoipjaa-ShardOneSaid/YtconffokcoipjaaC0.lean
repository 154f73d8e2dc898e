/- CALLS OF FUNCTIONS AND OF A ROUND: what a step of a region must show. -/
import Derived.Test.YtconffokcoipjaaB5
import Derived.Shelf.Abstract
namespace Go.Ab
open Go.RowKit Go.Proofs
set_option linter.unusedVariables false
set_option linter.unusedSimpArgs false

variable {cmp : Code → Option ACode} {P : Program}

/-! ### garbage is let go -/

theorem R.inn {c : Cx} {x : AV} {y : Value} (h : R c x y) : x.In c.n := by
  induction h with
  | v x => exact .v x
  | p b off hb => exact .p b off hb
  | q cs off B o g h1 h2 ih => exact .q cs off (fun x hx => by obtain ⟨j, hj, rfl⟩ := List.getElem_of_mem hx; exact ih j hj)
  | sl xs t k B o cap g h1 h2 h3 h4 h5 ih =>
    refine .sl xs t (fun x hx y hy => ?_) (fun k e => by subst e; exact h5.1)
    obtain ⟨i, hi, rfl⟩ := List.getElem_of_mem hx
    obtain ⟨j, hj, rfl⟩ := List.getElem_of_mem hy
    exact ih i hi j hj
  | sl0 t p ht => exact .sl [] t (fun x hx => by simp at hx) (fun k e => absurd e (ht k))
  | ms b off len cap hb h1 => exact .ms b off len hb
  | m b hb => exact .m b hb
  | f fn fs caps us vs h0 h1 h2 h3 ih ih2 =>
    exact .f fn fs caps (fun x hx => by obtain ⟨j, hj, rfl⟩ := List.getElem_of_mem hx; exact ih j hj) (fun x hx => by obtain ⟨j, hj, rfl⟩ := List.getElem_of_mem hx; exact ih2 j hj)
  | y l hb => exact .y l hb
  | agg cs vs h0 h1 ih => exact .agg cs (fun x hx => by obtain ⟨j, hj, rfl⟩ := List.getElem_of_mem hx; exact ih j hj)
  | tup cs vs h0 h1 ih => exact .tup cs (fun x hx => by obtain ⟨j, hj, rfl⟩ := List.getElem_of_mem hx; exact ih j hj)
  | any x => exact .any

theorem RL.inn {c : Cx} {xs : List AV} {ys : List Value} (h : RL c xs ys) : ∀ x ∈ xs, x.In c.n := fun x hx => by
  obtain ⟨j, hj, rfl⟩ := List.getElem_of_mem hx; exact (h.2 j hj).inn
theorem RL.cut {c : Cx} {xs : List AV} {ys : List Value} (h : RL c xs ys) {n : Nat} (hn : ∀ x ∈ xs, x.In n) : RL (c.cut n) xs ys :=
  ⟨h.1, fun j hj => (h.2 j hj).cut (hn _ (List.getElem_mem hj))⟩

theorem ObjOk.drop {c c' : Cx} {w w' : World} {b n : Nat} {o : AObj} (h : ObjOk cmp c w b o) (hc : c.n = n) (k : ObjOk cmp c' w' b o) : ObjOk cmp (c'.cut n) w' b o := by
  cases o with
  | cells cs =>
    obtain ⟨vs, e, h1, h2, h3⟩ := k
    obtain ⟨vs', e', k1, k2, k3⟩ := h
    exact ⟨vs, e, h1, h2.cut (fun x hx => hc ▸ k2.inn x hx), h3⟩
  | map es =>
    obtain ⟨ms, clk, h1, h2⟩ := k
    obtain ⟨ms', clk', k1, k2⟩ := h
    refine ⟨ms, clk, h1, h2.1, fun i hi hi' => ?_, h2.2.2⟩
    have a1 := h2.2.1 i hi hi'
    have a2 := k2.2.1 i hi (by rw [k2.1]; exact hi)
    exact ⟨a1.1.cut (hc ▸ a2.1.inn), a1.2.cut (hc ▸ a2.2.inn)⟩
  | loop st pend tmps ps asg body d =>
    obtain ⟨L, h1, h2⟩ := k
    obtain ⟨L', k1, k2⟩ := h
    exact ⟨L, h1, ⟨h2.h1, h2.h2, h2.h3.cut (fun x hx => hc ▸ k2.h3.inn x hx), h2.h4, h2.h5, h2.h6, h2.h7, hc ▸ k2.h8⟩⟩
  | defd => exact k
  | tok => exact k
  | dead => trivial

theorem Rel.drop {c c' : Cx} {s s' : AState} {w w' : World} (h : Rel cmp c s w) (e : Ext c s w c' s' w') (k : Rel cmp c' s' w') (hs : s.sub s') :
    Rel cmp (c'.cut s.n) s w' ∧ Ext c s w (c'.cut s.n) s w' := by
  have live : ∀ b, b < s.n → s.get b ≠ .dead → s'.get b = s.get b := fun b hb hd => ((hs.2 b hb).resolve_right hd).symm
  refine ⟨⟨rfl, fun b hb => ?_, fun a b ha hb hne hda hdb => ?_, k.arr⟩, ⟨⟨by simp [Cx.cut, h.n], e.le.mu, e.le.tend, e.le.csz, e.le.arr⟩, e.os, e.tape, e.output, e.size, fun B hB => ?_, e.kept⟩⟩
  · by_cases hd : s.get b = .dead
    · rw [hd]; trivial
    · have h1 := h.obj b hb
      have h2 := k.obj b (Nat.lt_of_lt_of_le hb hs.1)
      rw [live b hb hd] at h2
      exact ObjOk.drop h1 h.n.symm h2
  · exact k.inj a b (Nat.lt_of_lt_of_le ha hs.1) (Nat.lt_of_lt_of_le hb hs.1) hne (by rw [live a ha hda]; exact hda) (by rw [live b hb hdb]; exact hdb)
  · obtain ⟨b, hb, hd, rfl⟩ := hB
    exact e.fresh _ ⟨b, Nat.lt_of_lt_of_le hb hs.1, by rw [live b hb hd]; exact hd, rfl⟩

/-! ### calls -/

theorem comesIn_Fw {ro : Option Nat} {m m' : Machine} {e : Ending} (h : Comes P m m' e) : ComesIn (Machine.fenced P (Fw ro)) P m m' e := comesIn_wide.2 h

theorem callsIn_Fw {ro : Option Nat} {n : Nat} {f : FuncId} {args : Array Value} {w : World} {R : Ending → World → Prop} (h : Calls P f args w R) : CallsIn (Fw ro) n P f args w R :=
  (callsIn_wide (n := n)).2 h

/-- WHAT A CALL OF FUNCTION f DOES, in whatever world that is as s says. -/
def Runs (cmp : Code → Option ACode) (P : Program) (f : FuncId) (args : List AV) (s : AState) (Q : AV → AState → Prop) : Prop :=
  Enters P f ∧ ∀ c w vs, Rel cmp c s w → RL c args vs →
    Calls P f vs.toArray w (fun e w' => ∃ v c' x s', e = .returned v ∧ Ext c s w c' s' w' ∧ Rel cmp c' s' w' ∧ R c' x v ∧ Q x s')

theorem Runs.mono {f : FuncId} {args : List AV} {s : AState} {Q Q' : AV → AState → Prop} (h : Runs cmp P f args s Q) (hq : ∀ x s', Q x s' → Q' x s') : Runs cmp P f args s Q' :=
  ⟨h.1, fun c w vs hr ha => (h.2 c w vs hr ha).mono fun e w' ⟨v, c', x, s', h1, h2, h3, h4, h5⟩ => ⟨v, c', x, s', h1, h2, h3, h4, hq _ _ h5⟩⟩

/-- what it did not leave behind is forgotten; what it hands back is known to be of what there was. -/
theorem Runs.quiet {f : FuncId} {args : List AV} {s : AState} {Q : AV → AState → Prop} (h : Runs cmp P f args s (fun x s' => Q x s ∧ s.sub s' ∧ ((∀ y ∈ args, y.In s.n) → x.In s.n))) :
    Runs cmp P f args s (fun x s' => Q x s' ∧ s' = s) :=
  ⟨h.1, fun c w vs hr ha => (h.2 c w vs hr ha).mono fun e w' ⟨v, c', x, s', h1, h2, h3, h4, h5, h6, h7⟩ => by
    obtain ⟨k1, k2⟩ := hr.drop h2 h3 h6
    exact ⟨v, _, x, s, h1, k2, k1, h4.cut (h7 (fun y hy => hr.n ▸ ha.inn y hy)), h5, rfl⟩⟩

def fillT (t : List AV) (ps : List Nat) (args : List AV) : List AV := (ps.zip args).foldl (fun t x => t.set x.1 x.2) t

/-- WHAT A CALL OF A LOOP's YIELD DOES: one round. -/
def YRuns (cmp : Code → Option ACode) (P : Program) (l : Nat) (args : List AV) (s : AState) (Q : AV → AState → Prop) : Prop :=
  ∃ tmps ps asg body d, s.get l = .loop .ready none tmps ps asg body d ∧ args.length = ps.length ∧
    WP cmp P (some l) asg (fun e a1 s1 => e = .normal ∧ s1.get l = .loop .ready none tmps ps asg body d ∧
      WP cmp P (some l) body (fun e _ s2 => s2.get l = .loop .busy none tmps ps asg body d ∧
        match e with
        | .normal => Q (.v (.bool true)) (s2.set l (.loop .ready none tmps ps asg body d))
        | .ret => Q (.v (.bool false)) (s2.set l (.loop .done (some .ret) tmps ps asg body d))
        | .exit id => Q (.v (.bool false)) (s2.set l (.loop .done (some (.exit id)) tmps ps asg body d))
        | .goto t => Q (.v (.bool false)) (s2.set l (.loop .done (some (.goto t)) tmps ps asg body d))
        | _ => False) a1 (s1.set l (.loop .busy none tmps ps asg body d))) { t := fillT tmps ps args, d := [] } s

def ACall (cmp : Code → Option ACode) (P : Program) (f : AV) (args : List AV) (s : AState) (Q : AV → AState → Prop) : Prop :=
  match f with
  | .f (.func g) fs caps => Runs cmp P g (fs ++ args ++ caps) s Q
  | .y l => YRuns cmp P l args s Q
  | _ => False

/-- ONE OPERATION. -/
def AStep (cmp : Code → Option ACode) (P : Program) (op : AOp) (t : List AV) (s : AState) (Q : AV → AState → Prop) : Prop :=
  match op with
  | .call f args => ACall cmp P (f.ev t) (args.map (Arg.ev t)) s Q
  | op => ∃ x s', op.exec t s = some (x, s') ∧ Q x s'

/-- .. shown of the model's operation. -/
def StepOk (cmp : Code → Option ACode) (P : Program) (ro : Option Nat) (o : Oper) (t : List AV) (s : AState) (Q : AV → AState → Prop) : Prop :=
  ∀ c w (a : Act) (K : Act → World → Prop) (QE : Exit → Act → World → Prop), Rel cmp c s w → Ev c t a.eval → (∀ l, ro = some l → l < c.n) →
    (∀ v c' w' x s', Ext c s w c' s' w' → Rel cmp c' s' w' → R c' x v → Q x s' → K (a.put o.dst v) w') →
    o.uponIn (Fw (ro.map c.mu)) 0 P a K QE ((o.semAt (ro.map c.mu) a.eval).run P w)

theorem compOp_defer {o : Oper} {ao : AOp} (h : compOp P o = some ao) : ∀ c, o.op ≠ .defer c := by
  intro c e
  simp [compOp, e] at h

theorem StepOk.of_op {ro : Option Nat} {o : Oper} {t : List AV} {s s' : AState} {x : AV} {Q : AV → AState → Prop} (hd : ∀ c, o.op ≠ .defer c) (h : OpOk cmp P o t s x s') (hq : Q x s') : StepOk cmp P ro o t s Q := by
  intro c w a K QE hr he hl hk
  rw [Oper.semAt_eq _ _ _ hd]
  obtain ⟨v, w', c', h1, h2, h3, h4⟩ := h c w a.eval hr he
  rcases h1 with h1 | ⟨h1, rfl⟩ <;> rw [h1]
  · exact hk v c' w' x s' h2 h3 h4 hq
  · exact hk undef c' w' x s' h2 h3 h4 hq

theorem Rel.arr_nil {c : Cx} {s : AState} {w : World} (h : Rel cmp c s w) {B : Nat} {o : Obj} (ho : w.heap[B]? = some o) (hc : ∀ vs e fz, o ≠ .cells vs e fz) : c.arr B = [] := by
  by_cases h' : c.arr B = []
  · exact h'
  · obtain ⟨vs, e, fz, h1, _⟩ := h.arr B h'
    rw [ho] at h1
    cases h1
    exact absurd rfl (hc vs e fz)

theorem fillT_RL {c : Cx} {args : List AV} {vs : List Value} : ∀ {ps : List Nat} {t : List AV} {us : Array Value}, RL c args vs → RL c t us.toList →
    RL c (fillT t ps args) ((ps.zip vs).foldl (fun (t : Array Value) (x : Nat × Value) => t.setIfInBounds x.1 x.2) us).toList := by
  induction args generalizing vs with
  | nil => intro ps t us h ht; have := h.nil_inv; subst this; simpa [fillT] using ht
  | cons x xs ih =>
    intro ps t us h ht
    obtain ⟨v, vs', rfl, hx, hxs⟩ := h.cons_inv
    cases ps with
    | nil => simpa [fillT] using ht
    | cons p ps =>
      have := ih (vs := vs') (ps := ps) (t := t.set p x) (us := us.setIfInBounds p v) hxs (by simpa using ht.set p hx)
      simpa [fillT] using this

theorem StepOk.of_runs {ro : Option Nat} {o : Oper} {cl : Call} {fo : Operand} {f : Arg} {args : List Arg} {t : List AV} {s : AState} {Q : AV → AState → Prop} {g : FuncId} {fs caps : List AV}
    (ho : o.op = .call cl) (hcal : cl.callee = .value fo) (hf : cArg fo = some f) (hargs : cArgs cl.args = some args) (hfv : f.ev t = .f (.func g) fs caps)
    (h : Runs cmp P g (fs ++ args.map (Arg.ev t) ++ caps) s Q) : StepOk cmp P ro o t s Q := by
  intro c w a K QE hr he hl hk
  rw [Oper.semAt_eq _ _ _ (by rw [ho]; intro c h; cases h)]
  have hf' := he _ _ hf
  rw [hfv] at hf'
  have ha := cArgs_ev he hargs
  have : ∃ us vs : List Value, a.eval fo = .func (.func g) us.toArray vs.toArray ∧ RL c fs us ∧ RL c caps vs := by
    generalize a.eval fo = v at hf'
    cases hf' with
    | f _ _ _ us vs h0 h1 h2 h3 => exact ⟨us, vs, rfl, ⟨h0, h1⟩, ⟨h2, h3⟩⟩
  obtain ⟨us, vs, e1, h1, h2⟩ := this
  have hrun : (execOp a.eval o).run P w = .ok (.enter g (us ++ (cl.args.map a.eval).toList ++ vs).toArray) w := by
    have e2 : (us ++ (cl.args.map a.eval).toList ++ vs).toArray = us.toArray ++ (cl.args.map a.eval ++ vs.toArray) := by simp
    have e3 := h.1 (us.toArray ++ (cl.args.map a.eval ++ vs.toArray)) w
    rw [e2]
    simpa [execOp, ho, resolve, hcal, e1, Deferred.ofValue, invoke] using e3
  rw [hrun]
  refine ⟨fun hh => by simp [Fw, Fence.wide] at hh, ?_⟩
  refine (callsIn_Fw (h.2 c w _ hr ((h1.append ha).append h2))).mono ?_
  rintro e w' ⟨v, c', x, s', rfl, k2, k3, k4, k5⟩
  exact hk v c' w' x s' k2 k3 k4 k5

theorem StepOk.of_yield {ro : Option Nat} {o : Oper} {cl : Call} {fo : Operand} {f : Arg} {args : List Arg} {t : List AV} {s : AState} {Q : AV → AState → Prop} {l : Nat}
    (ho : o.op = .call cl) (hcal : cl.callee = .value fo) (hf : cArg fo = some f) (hargs : cArgs cl.args = some args) (hfv : f.ev t = .y l)
    (h : YRuns cmp P l (args.map (Arg.ev t)) s Q) : StepOk cmp P ro o t s Q := by
  intro c w a K QE hr he hl hk
  rw [Oper.semAt_eq _ _ _ (by rw [ho]; intro c h; cases h)]
  have hf' := he _ _ hf
  rw [hfv] at hf'
  have ha := cArgs_ev he hargs
  obtain ⟨e1, hln⟩ : a.eval fo = .func (.yield (c.mu l)) #[] #[] ∧ l < c.n := by
    generalize a.eval fo = v at hf'
    cases hf' with
    | y _ hb => exact ⟨rfl, hb⟩
  obtain ⟨tmps, ps, asg, body, d, hget, hlen, hasg⟩ := h
  have hob := hr.obj l (hr.n ▸ hln)
  rw [hget] at hob
  obtain ⟨L, hL, hok⟩ := hob
  have hsz : (cl.args.map a.eval).size = L.params.size := by
    rw [← Array.length_toList, ha.1, hlen, ← hok.h4, Array.length_toList]
  have hrun : (execOp a.eval o).run P w = .ok (.round (c.mu l) L.fn ((L.params.zip (cl.args.map a.eval)).foldl (fun tmps (t, a) => tmps.setIfInBounds t a) L.tmps) L.assign L.body) w := by
    simp [execOp, ho, resolve, hcal, e1, Deferred.ofValue, invoke]
    have := run_yield (P := P) hL hsz
    simpa using this
  rw [hrun]
  refine ⟨fun hh => by simp [Fw, Fence.wide] at hh, ?_⟩
  refine roundIn_of_wpIn (F := Fw (ro.map c.mu)) (by trivial) ?_
  have hF : (Fw (ro.map c.mu)).inRound (c.mu l) = Fw ((some l).map c.mu) := rfl
  rw [hF]
  have hfill : RL c (fillT tmps ps (args.map (Arg.ev t))) ((L.params.zip (cl.args.map a.eval)).foldl (fun tmps (t, a) => tmps.setIfInBounds t a) L.tmps).toList := by
    have := fillT_RL (ps := ps) ha hok.h3
    rw [← hok.h4] at this
    rw [← Array.foldl_toList, Array.toList_zip]
    rw [← hok.h4]
    exact this
  have hw := hasg _ hok.h5 c w { tmps := _, defers := [] } hr ⟨hfill, rfl, fun x hx => by simp at hx⟩ (fun l' e => by cases e; exact hln)
  refine wpIn_mono hw ?_
  rintro e a1 w1 ⟨c1, aa1, s1, k1, k2, k3, rfl, k5, hbody⟩
  have hl1 : l < c1.n := Nat.lt_of_lt_of_le hln k1.le.n
  have hl1' : l < s1.n := k2.n ▸ hl1
  have hmu1 : c1.mu l = c.mu l := k1.le.mu l hln
  have hob1 := k2.obj l hl1'
  rw [k5] at hob1
  obtain ⟨L1, hL1, hok1⟩ := hob1
  rw [hmu1] at hL1
  refine ⟨w1.putObj (c.mu l) (.loop { L1 with state := .busy }), run_beginRound hL1 hok1.h1, ?_⟩
  have hlt1 : c.mu l < w1.heap.size := lt_of_heap hL1
  obtain ⟨r1, x1⟩ := k2.upd (w' := w1.putObj (c.mu l) (.loop { L1 with state := .busy })) hl1' (by rw [k5]; simp) ⟨rfl, rfl, rfl⟩ (by simp)
    (fun B hB => World.putObj_heap_other (by rw [← hmu1]; exact hB)) (.loop .busy none tmps ps asg body d)
    ⟨{ L1 with state := .busy }, by rw [hmu1]; exact World.putObj_heap_same hlt1, ⟨rfl, hok1.h2, hok1.h3, hok1.h4, hok1.h5, hok1.h6, hok1.h7, hok1.h8⟩⟩ (k2.arr_nil (by rw [hmu1]; exact hL1) (fun _ _ _ h => by cases h))
  have hw2 := hbody _ hok.h6 c1 _ a1 r1 k3 (fun l' e => by cases e; exact hl1)
  simp only [Option.map_some, hmu1] at hw2
  refine wpIn_mono hw2 ?_
  rintro e a2 w2 ⟨c2, aa2, s2, m1, m2, m3, m4, m5⟩
  have hl2 : l < c2.n := Nat.lt_of_lt_of_le hl1 m1.le.n
  have hl2' : l < s2.n := m2.n ▸ hl2
  have hmu2 : c2.mu l = c.mu l := (m1.le.mu l hl1).trans hmu1
  have hob2 := m2.obj l hl2'
  rw [m4] at hob2
  obtain ⟨L2, hL2, hok2⟩ := hob2
  rw [hmu2] at hL2
  have hlt2 : c.mu l < w2.heap.size := lt_of_heap hL2
  have fin : ∀ (jump : Option Code) (st : LoopState) (pend : Option AJump), (if jump.isNone then LoopState.ready else .done) = st → jump = pend.map AJump.code → Q (.v (.bool jump.isNone)) (s2.set l (.loop st pend tmps ps asg body d)) →
      ∃ v w', (Instr.endRound (c.mu l) jump).run P w2 = .ok v w' ∧ K (a.put o.dst v) w' := by
    intro jump st pend hst hp hq
    obtain ⟨r2, x2⟩ := m2.upd (w' := w2.putObj (c.mu l) (.loop { L2 with state := if jump.isNone then .ready else .done, pending := jump })) hl2' (by rw [m4]; simp) ⟨rfl, rfl, rfl⟩ (by simp)
      (fun B hB => World.putObj_heap_other (by rw [← hmu2]; exact hB)) (.loop st pend tmps ps asg body d)
      ⟨{ L2 with state := if jump.isNone then .ready else .done, pending := jump }, by rw [hmu2]; exact World.putObj_heap_same hlt2, ⟨hst, hp, hok2.h3, hok2.h4, hok2.h5, hok2.h6, hok2.h7, hok2.h8⟩⟩ (m2.arr_nil (by rw [hmu2]; exact hL2) (fun _ _ _ h => by cases h))
    exact ⟨_, _, run_endRound jump hL2, hk _ _ _ _ _ ((k1.trans (x1.trans m1)).trans x2) r2 (.v _) hq⟩
  cases e with
  | normal => exact fin none .ready none rfl rfl m5
  | ret => exact fin (some .ret) .done (some .ret) rfl rfl m5
  | exit id => exact fin (some (.exit id)) .done (some (.exit id)) rfl rfl m5
  | goto t => exact fin (some (.goto t)) .done (some (.goto t)) rfl rfl m5
  | panic ch => exact m5
  | outgrown => exact m5

theorem compOp_call {o : Oper} {f : Arg} {args : List Arg} (hc : compOp P o = some (.call f args)) : ∃ cl fo, o.op = .call cl ∧ cl.callee = .value fo ∧ cArg fo = some f ∧ cArgs cl.args = some args := by
  unfold compOp at hc
  split at hc
  case h_27 cl ho =>
    split at hc
    · rename_i fo hcal
      obtain ⟨f', h1, hc⟩ := bind_some hc
      obtain ⟨args', h2, hc⟩ := bind_some hc
      cases hc
      exact ⟨cl, fo, ho, hcal, h1, h2⟩
    all_goals repeat' (first | (cases hc; done) | (obtain ⟨_, _, hc⟩ := bind_some hc) | (split at hc))
  all_goals repeat' (first | (cases hc; done) | (obtain ⟨_, _, hc⟩ := bind_some hc) | (split at hc))

theorem astep_ok {ro : Option Nat} {o : Oper} {ao : AOp} {t : List AV} {s : AState} {Q : AV → AState → Prop} (hc : compOp P o = some ao) (h : AStep cmp P ao t s Q) : StepOk cmp P ro o t s Q := by
  by_cases hcall : ∃ f args, ao = .call f args
  · obtain ⟨f, args, rfl⟩ := hcall
    have h : ACall cmp P (f.ev t) (args.map (Arg.ev t)) s Q := h
    have : ∃ cl fo, o.op = .call cl ∧ cl.callee = .value fo ∧ cArg fo = some f ∧ cArgs cl.args = some args := by
      exact compOp_call hc
    obtain ⟨cl, fo, h1, h2, h3, h4⟩ := this
    unfold ACall at h
    split at h
    · rename_i g fs caps hfv; exact .of_runs h1 h2 h3 h4 hfv h
    · rename_i l hfv; exact .of_yield h1 h2 h3 h4 hfv h
    · exact h.elim
  · have : ∃ x s', ao.exec t s = some (x, s') ∧ Q x s' := by
      cases ao <;> first | exact h | exact absurd ⟨_, _, rfl⟩ hcall
    obtain ⟨x, s', h1, h2⟩ := this
    exact .of_op (compOp_defer hc) (exec_ok hc h1) h2

end Go.Ab
