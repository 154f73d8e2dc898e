/- Going on. -/
import Derived.RangeFuncNested
import Derived.Test.YtmfhchaoijiodaaKCL9
section
namespace Go.Ab
open Go.RowKit Go.Proofs
set_option linter.unusedVariables false
set_option linter.unusedSimpArgs false
variable {P : Program}
def only (keep : List Nat) (t : List AV) : List AV := t.mapIdx fun i x => if keep.contains i then x else .any
def AAct.only (keep : List Nat) (a : AAct) : AAct := { t := Ab.only keep a.t, d := a.d }
theorem RL.only {c : Cx} {t : List AV} {vs : List Value} (keep : List Nat) (h : RL c t vs) : RL c (Ab.only keep t) vs := by
  refine ⟨by simp [Ab.only, h.1], fun j hj => ?_⟩
  have hj' : j < t.length := by simpa [Ab.only] using hj
  simp only [Ab.only, List.getElem_mapIdx]
  split
  · exact h.2 j hj'
  · exact .any _
theorem RA.only {c : Cx} {aa : AAct} {a : Act} (keep : List Nat) (h : RA c aa a) : RA c (aa.only keep) a := ⟨h.t.only keep, h.d, h.dn⟩
theorem WC.only {cmp : Code → Option ACode} {ro : Option Nat} {code : Code} {Q : Exit → AAct → AState → Prop} {aa : AAct} {s : AState} (keep : List Nat) (h : WC cmp P ro code Q (aa.only keep) s) : WC cmp P ro code Q aa s :=
  fun c w a hr ha hl => h c w a hr (ha.only keep) hl
def thenQ (K : AAct → AState → Prop) (Q : Exit → AAct → AState → Prop) : Exit → AAct → AState → Prop
  | .normal, a, s => K a s
  | e, a, s => Q e a s
def seqQ (W : (Exit → AAct → AState → Prop) → AAct → AState → Prop) (Q : Exit → AAct → AState → Prop) : Exit → AAct → AState → Prop
  | .normal, a, s => W Q a s
  | e, a, s => Q e a s
def AJump.exitOf : AJump → Exit
  | .exit id => .exit id | .goto l => .goto l | .ret => .ret
def rangeEnd (pend : Option AJump) (Q : Exit → AAct → AState → Prop) (aa : AAct) (s : AState) : Prop :=
  match pend with
  | none => Q .normal aa s
  | some j => Q j.exitOf aa s
def WRange (P : Program) (ro : Option Nat) (f : Arg) (ps : List Nat) (asg body : ACode) (Q : Exit → AAct → AState → Prop) (aa : AAct) (s : AState) : Prop :=
  ∃ g fs caps, f.ev aa.t = .f (.func g) fs caps ∧
    match ro with
    | none => Runs (compCode P) P g (fs ++ [.y (s.n + 1)] ++ caps) ((s.alloc .defd).alloc (.loop .ready none aa.t ps asg body s.n))
        (fun _ s' => ∃ st pend, s'.get (s.n + 1) = .loop st pend aa.t ps asg body s.n ∧ st ≠ .busy ∧ rangeEnd pend Q { t := aa.t, d := s.n :: aa.d } (s'.set (s.n + 1) .dead))
    | some l0 => ∃ st0 pe0 t0 ps0 a0 b0 d0, s.get l0 = .loop st0 pe0 t0 ps0 a0 b0 d0 ∧
        Runs (compCode P) P g (fs ++ [.y s.n] ++ caps) (s.alloc (.loop .ready none aa.t ps asg body d0))
          (fun _ s' => ∃ st pend, s'.get s.n = .loop st pend aa.t ps asg body d0 ∧ st ≠ .busy ∧ rangeEnd pend Q aa (s'.set s.n .dead))
def findL : ACode → Nat → Option ACode
  | .seq a b, l =>
    match findL a l with
    | some rest => some (.seq rest b)
    | none => findL b l
  | .label l', l => if l' == l then some .skip else none
  | _, _ => none
def wp (P : Program) (ro : Option Nat) : ACode → (Exit → AAct → AState → Prop) → AAct → AState → Prop
  | .skip, Q, aa, s => Q .normal aa s
  | .region ops, Q, aa, s => AOps (compCode P) P ops (fun t s => Q .normal { t := t, d := aa.d } s) aa.t s
  | .draw ds, Q, aa, s => DWalk (compCode P) P ds (fun t s => Q .normal { t := t, d := aa.d } s) aa.t s
  | .seq a b, Q, aa, s => wp P ro a (seqQ (wp P ro b) Q) aa s
  | .cond c a b, Q, aa, s => ∃ t, c.ev aa.t = .v (.bool t) ∧ (t = true → wp P ro a Q aa s) ∧ (t = false → wp P ro b Q aa s)
  | .block id c, Q, aa, s => wp P ro c (inBlk id Q) aa s
  | .loop c, Q, aa, s => ∃ (keep : List Nat) (I : Nat → AAct → AState → Prop) (m : Nat), I m (aa.only keep) s ∧
      ∀ m a s, I m a s → wp P ro c (thenQ (fun a' s' => ∃ m', m' < m ∧ I m' (a'.only keep) s') Q) a s
  | .range f ps asg body, Q, aa, s => WRange P ro f ps asg body Q aa s
  | .exit id, Q, aa, s => Q (.exit id) aa s
  | .scope c, Q, aa, s => ∃ J : Nat → Nat → AAct → AState → Prop,
      wp P ro c (fun e a s => match e with | .goto l => (findL c l = none ∧ Q (.goto l) a s) ∨ ((findL c l).isSome = true ∧ ∃ m, J m l a s) | e => Q e a s) aa s ∧
      ∀ m l a s rest, J m l a s → findL c l = some rest → WP (compCode P) P ro rest (fun e a' s' => match e with
        | .goto l' => (findL c l' = none ∧ Q (.goto l') a' s') ∨ ((findL c l').isSome = true ∧ ∃ m', m' < m ∧ J m' l' a' s') | e => Q e a' s') a s
  | .label _, Q, aa, s => Q .normal aa s
  | .goto l, Q, aa, s => Q (.goto l) aa s
  | .ret, Q, aa, s => Q .ret aa s
theorem findL_ok : ∀ {c : Code} {ac : ACode}, compCode P c = some ac → ∀ l, (findLabel c l = none ∧ findL ac l = none) ∨ ∃ r ar, findLabel c l = some r ∧ findL ac l = some ar ∧ compCode P r = some ar := by
  intro c
  induction c with
  | seq a b iha ihb =>
    intro ac h l
    simp only [compCode, Option.bind_eq_some_iff, Option.map_eq_some_iff] at h
    obtain ⟨x, hx, y, hy, rfl⟩ := h
    rcases iha hx l with ⟨h1, h2⟩ | ⟨r, ar, h1, h2, h3⟩
    · rcases ihb hy l with ⟨k1, k2⟩ | ⟨r, ar, k1, k2, k3⟩
      · exact .inl ⟨by simp [findLabel, h1, k1], by simp [findL, h2, k2]⟩
      · exact .inr ⟨r, ar, by simp [findLabel, h1, k1], by simp [findL, h2, k2], k3⟩
    · exact .inr ⟨.seq r b, .seq ar y, by simp [findLabel, h1], by simp [findL, h2], by simp [compCode, h3, hy]⟩
  | label l' =>
    intro ac h l
    simp only [compCode, Option.some.injEq] at h
    subst h
    by_cases e : l' = l
    · exact .inr ⟨.skip, .skip, by simp [findLabel, e], by simp [findL, e], rfl⟩
    · exact .inl ⟨by simp [findLabel, e], by simp [findL, e]⟩
  | region id ops draw =>
    intro ac h l
    refine .inl ⟨rfl, ?_⟩
    cases draw <;> simp only [compCode, Option.map_eq_some_iff] at h <;> obtain ⟨x, _, rfl⟩ := h <;> first | rfl | (unfold drawN; split <;> rfl)
  | refuse => intro ac h; simp [compCode] at h
  | skip => intro ac h l; simp only [compCode, Option.some.injEq] at h; subst h; exact .inl ⟨rfl, rfl⟩
  | exit => intro ac h l; simp only [compCode, Option.some.injEq] at h; subst h; exact .inl ⟨rfl, rfl⟩
  | goto => intro ac h l; simp only [compCode, Option.some.injEq] at h; subst h; exact .inl ⟨rfl, rfl⟩
  | ret => intro ac h l; simp only [compCode, Option.some.injEq] at h; subst h; exact .inl ⟨rfl, rfl⟩
  | cond c a b _ _ =>
    intro ac h l
    simp only [compCode, Option.bind_eq_some_iff, Option.map_eq_some_iff] at h
    obtain ⟨_, _, _, _, _, _, rfl⟩ := h
    exact .inl ⟨rfl, rfl⟩
  | block id c _ => intro ac h l; simp only [compCode, Option.map_eq_some_iff] at h; obtain ⟨_, _, rfl⟩ := h; exact .inl ⟨rfl, rfl⟩
  | loop c _ => intro ac h l; simp only [compCode, Option.map_eq_some_iff] at h; obtain ⟨_, _, rfl⟩ := h; exact .inl ⟨rfl, rfl⟩
  | scope c _ => intro ac h l; simp only [compCode, Option.map_eq_some_iff] at h; obtain ⟨_, _, rfl⟩ := h; exact .inl ⟨rfl, rfl⟩
  | rangeFunc f ps a b _ _ =>
    intro ac h l
    simp only [compCode, Option.bind_eq_some_iff, Option.map_eq_some_iff] at h
    obtain ⟨_, _, _, _, _, _, rfl⟩ := h
    exact .inl ⟨rfl, rfl⟩
theorem wpIn_jump {F : Fence} {n : Nat} {Q : Exit → Act → World → Prop} {a : Act} {w : World} {j : AJump} (h : Q j.exitOf a w) : (j.code).wpIn F n P Q a w := by
  cases j with
  | exit id => exact wpIn_exit h
  | goto l => exact wpIn_goto h
  | ret => exact wpIn_ret h
theorem rangeEnd_Lift {c0 c : Cx} {s0 : AState} {w0 : World} {ro : Option Nat} {pend : Option AJump} {Q : Exit → AAct → AState → Prop} {aa : AAct} {s : AState} {a : Act} {w : World} {F : Fence}
    (h : rangeEnd pend Q aa s) (hx : Ext c0 s0 w0 c s w) (hr : Rel (compCode P) c s w) (ha : RA c aa a) :
    match pend.map AJump.code with
       | none => Lift (compCode P) c0 s0 w0 Q .normal a w
       | some c => c.wpIn F 0 P (Lift (compCode P) c0 s0 w0 Q) a w := by
  cases pend with
  | none => exact ⟨c, aa, s, hx, hr, ha, h⟩
  | some j => exact wpIn_jump ⟨c, aa, s, hx, hr, ha, h⟩
theorem WC_range {ro : Option Nat} {f : Arg} {fo : Operand} {ps : Array Tmp} {asg body : ACode} {ca cb : Code} {Q : Exit → AAct → AState → Prop} {aa : AAct} {s : AState}
    (hf : cArg fo = some f) (ha : compCode P ca = some asg) (hb : compCode P cb = some body) (h : WRange P ro f ps.toList asg body Q aa s) : WC (compCode P) P ro (.rangeFunc fo ps ca cb) Q aa s := by
  intro c w a hr hA hl
  obtain ⟨g, fs, caps, hfv, h⟩ := h
  have hfo := hA.ev hf
  rw [hfv] at hfo
  obtain ⟨us, vs, efo, hus, hvs⟩ : ∃ us vs : List Value, a.eval fo = .func (.func g) us.toArray vs.toArray ∧ RL c fs us ∧ RL c caps vs := by
    generalize a.eval fo = v at hfo
    cases hfo with
    | f _ _ _ us vs h0 h1 h2 h3 => exact ⟨us, vs, rfl, ⟨h0, h1⟩, ⟨h2, h3⟩⟩
  refine wpIn_rangeFunc ?_
  intro fn hfn
  have call : ∀ (Lb : Nat) (w2 : World), Enters P g → (resolve a.eval (rangeCall fo Lb) 0).run P w2 = .ok { target := .fn (.func g) vs.toArray, args := us.toArray ++ #[Value.func (.yield Lb) #[] #[]] } w2 ∧
      (invoke (.fn (.func g) vs.toArray) (us.toArray ++ #[Value.func (.yield Lb) #[] #[]])).run P w2 = .ok (.enter g (us ++ [Value.func (.yield Lb) #[] #[]] ++ vs).toArray) w2 := by
    intro Lb w2 he
    constructor
    · simp only [resolve, efo, Deferred.ofValue]
      simp [Act.eval]
    · have := he (us.toArray ++ #[Value.func (.yield Lb) #[] #[]] ++ vs.toArray) w2
      simpa [invoke] using this
  cases ro with
  | none =>
    simp only at h
    have he := h.1
    obtain ⟨r1, x1⟩ := hr.alloc (.deferred (some [])) .defd 0 0 (by show _ = _; rw [Cx.bind_mu]; exact heap_push_new _ _) (by simp)
    have hn1 : (c.bind w.heap.size 0 0).n = c.n + 1 := rfl
    obtain ⟨r2, x2⟩ := r1.alloc (.loop { state := .ready, pending := none, fn, tmps := a.tmps, params := ps, assign := ca, body := cb, defers := w.heap.size }) (.loop .ready none aa.t ps.toList asg body s.n) 0 0
      ⟨_, by rw [Cx.bind_mu]; exact heap_push_new _ _, ⟨rfl, rfl, (hA.t.mono (x1.le.trans (Cx.le_bind _ _ _ _))), rfl, ha, hb, by
        rw [(Cx.le_bind _ _ _ _).mu s.n (by rw [hn1, hr.n]; omega), hr.n, Cx.bind_mu], by rw [hr.n]; simp [hn1]; omega⟩⟩ (by simp)
    generalize hc2 : ((c.bind w.heap.size 0 0).bind (w.alloc (.deferred (some []))).heap.size 0 0) = c2 at *
    generalize hw2 : ((w.alloc (.deferred (some []))).alloc (.loop { state := .ready, pending := none, fn, tmps := a.tmps, params := ps, assign := ca, body := cb, defers := w.heap.size })) = w2 at *
    have x12 := x1.trans x2
    have hmuL : c2.mu (s.n + 1) = w.heap.size + 1 := by
      rw [← hc2, hr.n]
      have := Cx.bind_mu (c.bind w.heap.size 0 0) (w.alloc (.deferred (some []))).heap.size 0 0
      rw [hn1] at this
      rw [this]; simp
    have hmuD : c2.mu s.n = w.heap.size := by
      rw [← hc2, (Cx.le_bind _ _ _ _).mu s.n (by rw [hn1, hr.n]; omega), hr.n, Cx.bind_mu]
    have hnL : s.n + 1 < c2.n := by rw [← hc2, hr.n]; simp
    obtain ⟨k1, k2⟩ := call (w.heap.size + 1) w2 he
    refine ⟨w.heap.size + 1, [{ target := .collected w.heap.size, args := #[] }], w2, _, w2, g, _, w2, ?_, k1, fun _ _ => trivial, k2, fun hh => by simp [Fw, Fence.wide] at hh, ?_⟩
    · rw [← hw2]
      exact run_enterLoop_outer fn a.tmps ps ca cb
    · refine (callsIn_Fw (h.2 c2 w2 _ r2 (((hus.mono x12.le).append (RL.cons (by rw [← hmuL]; exact .y (s.n + 1) hnL) (RL.nil _))).append (hvs.mono x12.le)))).mono ?_
      rintro e w3 ⟨v, c3, x, s3, rfl, m1, m2, m3, st, pend, m4, m5, m6⟩
      have hL3 : s.n + 1 < s3.n := AState.lt_of_get m4 (by simp)
      have hob := m2.obj (s.n + 1) hL3
      rw [m4] at hob
      obtain ⟨L, hL, hok⟩ := hob
      have hmu3 : c3.mu (s.n + 1) = w.heap.size + 1 := by rw [m1.le.mu _ hnL, hmuL]
      rw [hmu3] at hL
      have hrun := run_endLoop (P := P) hL (by rw [hok.h1]; exact m5)
      obtain ⟨r4, x4⟩ := m2.upd (w' := w3.putObj (w.heap.size + 1) (.loop { L with state := .exhausted })) hL3 (by rw [m4]; simp) ⟨rfl, rfl, rfl⟩ (by simp)
        (fun B hB => World.putObj_heap_other (by rw [← hmu3]; exact hB)) .dead trivial (m2.arr_nil (by rw [hmu3]; exact hL) (fun _ _ _ h => by cases h))
      refine ⟨L.pending, _, hrun, ?_⟩
      have hle3 : c.le c3 := x12.le.trans m1.le
      have hnD : s.n < c2.n := by omega
      have hend := fun (A : Act) ha => rangeEnd_Lift (a := A) (F := Fw (Option.map c.mu none)) (ro := none) m6 ((x12.trans m1).trans x4) r4 ha
      rw [← hok.h2] at hend
      refine hend _ ⟨hA.t.mono hle3, ?_, fun x hx => ?_⟩
      · show [_] ++ a.defers = _
        rw [(hA.mono hle3).d]
        simp [m1.le.mu _ hnD, hmuD]
      · rcases List.mem_cons.1 hx with rfl | hx
        · exact Nat.lt_of_lt_of_le hnD m1.le.n
        · exact (hA.mono hle3).dn x hx
  | some l0 =>
    obtain ⟨st0, pe0, t0, ps0, a0, b0, d0, hg0, h⟩ := h
    have he := h.1
    have hl0 : l0 < c.n := hl l0 rfl
    have hob0 := hr.obj l0 (hr.n ▸ hl0)
    rw [hg0] at hob0
    obtain ⟨L0, hL0, hok0⟩ := hob0
    obtain ⟨r2, x2⟩ := hr.alloc (.loop { state := .ready, pending := none, fn, tmps := a.tmps, params := ps, assign := ca, body := cb, defers := L0.defers }) (.loop .ready none aa.t ps.toList asg body d0) 0 0
      ⟨_, by rw [Cx.bind_mu]; exact heap_push_new _ _, ⟨rfl, rfl, (hA.t.mono (Cx.le_bind _ _ _ _)), rfl, ha, hb, by
        rw [(Cx.le_bind _ _ _ _).mu d0 hok0.h8]; exact hok0.h7, Nat.lt_succ_of_lt hok0.h8⟩⟩ (by simp)
    generalize hc2 : (c.bind w.heap.size 0 0) = c2 at *
    generalize hw2 : (w.alloc (.loop { state := .ready, pending := none, fn, tmps := a.tmps, params := ps, assign := ca, body := cb, defers := L0.defers })) = w2 at *
    have hmuL : c2.mu s.n = w.heap.size := by rw [← hc2, hr.n]; exact Cx.bind_mu _ _ _ _
    have hnL : s.n < c2.n := by rw [← hc2, hr.n]; simp
    obtain ⟨k1, k2⟩ := call w.heap.size w2 he
    refine ⟨w.heap.size, [], w2, _, w2, g, _, w2, ?_, k1, fun _ _ => trivial, k2, fun hh => by simp [Fw, Fence.wide] at hh, ?_⟩
    · rw [← hw2]
      exact run_enterLoop_inner hL0 fn a.tmps ps ca cb
    · refine (callsIn_Fw (h.2 c2 w2 _ r2 (((hus.mono x2.le).append (RL.cons (by rw [← hmuL]; exact .y s.n hnL) (RL.nil _))).append (hvs.mono x2.le)))).mono ?_
      rintro e w3 ⟨v, c3, x, s3, rfl, m1, m2, m3, st, pend, m4, m5, m6⟩
      have hL3 : s.n < s3.n := AState.lt_of_get m4 (by simp)
      have hob := m2.obj s.n hL3
      rw [m4] at hob
      obtain ⟨L, hL, hok⟩ := hob
      have hmu3 : c3.mu s.n = w.heap.size := by rw [m1.le.mu _ hnL, hmuL]
      rw [hmu3] at hL
      have hrun := run_endLoop (P := P) hL (by rw [hok.h1]; exact m5)
      obtain ⟨r4, x4⟩ := m2.upd (w' := w3.putObj w.heap.size (.loop { L with state := .exhausted })) hL3 (by rw [m4]; simp) ⟨rfl, rfl, rfl⟩ (by simp)
        (fun B hB => World.putObj_heap_other (by rw [← hmu3]; exact hB)) .dead trivial (m2.arr_nil (by rw [hmu3]; exact hL) (fun _ _ _ h => by cases h))
      refine ⟨L.pending, _, hrun, ?_⟩
      have hle3 : c.le c3 := x2.le.trans m1.le
      have hend := fun (A : Act) ha => rangeEnd_Lift (a := A) (F := Fw (Option.map c.mu (some l0))) (ro := none) m6 ((x2.trans m1).trans x4) r4 ha
      rw [← hok.h2] at hend
      exact hend _ (by simpa using hA.mono hle3)
theorem wp_ok {ro : Option Nat} : ∀ {ac : ACode} {Q : Exit → AAct → AState → Prop} {aa : AAct} {s : AState}, wp P ro ac Q aa s → WP (compCode P) P ro ac Q aa s := by
  intro ac
  induction ac with
  | skip =>
    intro Q aa s h code hc
    cases code <;> (try simp [compCode, Option.bind_eq_some_iff] at hc)
    · exact WC_skip h
    · rename_i draw; cases draw <;> simp [compCode] at hc
  | region ops =>
    intro Q aa s h code hc
    cases code <;> (try simp [compCode, Option.bind_eq_some_iff] at hc)
    rename_i id ops' draw
    cases draw <;> simp [compCode] at hc
    · exact WC_region hc h
    · obtain ⟨ds, h1, h2⟩ := hc
      exact WC_draw h1 (plainD_ok (drawN_region.1 h2) h)
  | draw ds =>
    intro Q aa s h code hc
    cases code <;> (try simp [compCode, Option.bind_eq_some_iff] at hc)
    rename_i id ops' draw
    cases draw <;> simp [compCode] at hc
    obtain ⟨ds', h1, h2⟩ := hc
    obtain rfl := drawN_draw h2
    exact WC_draw h1 h
  | seq a b iha ihb =>
    intro Q aa s h code hc
    cases code <;> (try simp [compCode, Option.bind_eq_some_iff] at hc)
    · rename_i draw; cases draw <;> simp [compCode] at hc
    · rename_i x y
      obtain ⟨h1, h2⟩ := hc
      refine WC_seq ((iha h x h1).mono ?_)
      intro e a s k
      cases e <;> first | exact ihb k y h2 | exact k
  | cond c a b iha ihb =>
    intro Q aa s h code hc
    cases code <;> (try simp [compCode, Option.bind_eq_some_iff] at hc)
    · rename_i draw; cases draw <;> simp [compCode] at hc
    · rename_i o x y
      obtain ⟨c', h0, x', h1, y', h2, rfl, rfl, rfl⟩ := hc
      obtain ⟨t, ht, ha, hb⟩ := h
      refine WC_cond h0 ht ?_
      cases t
      · exact ihb (hb rfl) y h2
      · exact iha (ha rfl) x h1
  | block id c ih =>
    intro Q aa s h code hc
    cases code <;> (try simp [compCode, Option.bind_eq_some_iff] at hc)
    · rename_i draw; cases draw <;> simp [compCode] at hc
    · rename_i id' x
      obtain ⟨h1, rfl⟩ := hc
      exact WC_block (ih h x h1)
  | loop c ih =>
    intro Q aa s h code hc
    cases code <;> (try simp [compCode, Option.bind_eq_some_iff] at hc)
    · rename_i draw; cases draw <;> simp [compCode] at hc
    · rename_i x
      obtain ⟨keep, I, m, h0, hI⟩ := h
      refine WC_loop (fun m a s => I m (a.only keep) s) m h0 ?_
      intro m a s hm
      refine ((ih (hI m _ s hm) x hc).mono ?_).only keep
      intro e a s k
      cases e <;> exact k
  | range f ps asg body _ _ =>
    intro Q aa s h code hc
    cases code <;> (try simp [compCode, Option.bind_eq_some_iff] at hc)
    · rename_i draw; cases draw <;> simp [compCode] at hc
    · rename_i fo ps' ca cb
      obtain ⟨f', h0, x', h1, y', h2, rfl, rfl, rfl, rfl⟩ := hc
      exact WC_range h0 h1 h2 h
  | exit id =>
    intro Q aa s h code hc
    cases code <;> (try simp [compCode, Option.bind_eq_some_iff] at hc)
    · rename_i draw; cases draw <;> simp [compCode] at hc
    · subst hc; exact WC_exit h
  | scope c ih =>
    intro Q aa s h code hc
    cases code <;> (try simp [compCode, Option.bind_eq_some_iff] at hc)
    · rename_i draw; cases draw <;> simp [compCode] at hc
    · rename_i x
      obtain ⟨J, h1, h2⟩ := h
      have hfl := findL_ok hc
      have conv : ∀ {l : Nat} {A : Prop} {B : Prop}, (findL c l = none ∧ A) ∨ ((findL c l).isSome = true ∧ B) → (findLabel x l = none ∧ A) ∨ ((findLabel x l).isSome = true ∧ B) := by
        intro l A B h
        rcases hfl l with ⟨k1, k2⟩ | ⟨r, ar, k1, k2, k3⟩
        · rw [k2] at h; rw [k1]; simpa using h
        · rw [k2] at h; rw [k1]; simpa using h
      refine WC_scope J ((ih h1 x hc).mono ?_) ?_
      · intro e a s k
        cases e <;> first | exact conv k | exact k
      · intro m l a s rest hJ hrest
        rcases hfl l with ⟨k1, k2⟩ | ⟨r, ar, k1, k2, k3⟩
        · rw [k1] at hrest; cases hrest
        · rw [k1] at hrest
          cases hrest
          refine (h2 m l a s ar hJ k2 _ k3).mono ?_
          intro e a s k
          cases e <;> first | exact conv k | exact k
  | label l =>
    intro Q aa s h code hc
    cases code <;> (try simp [compCode, Option.bind_eq_some_iff] at hc)
    · rename_i draw; cases draw <;> simp [compCode] at hc
    · exact WC_label h
  | goto l =>
    intro Q aa s h code hc
    cases code <;> (try simp [compCode, Option.bind_eq_some_iff] at hc)
    · rename_i draw; cases draw <;> simp [compCode] at hc
    · subst hc; exact WC_goto h
  | ret =>
    intro Q aa s h code hc
    cases code <;> (try simp [compCode, Option.bind_eq_some_iff] at hc)
    · rename_i draw; cases draw <;> simp [compCode] at hc
    · exact WC_ret h
end Go.Ab
end
