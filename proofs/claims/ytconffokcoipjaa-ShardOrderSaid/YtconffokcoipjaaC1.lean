/- THE OPERATIONS OF A REGION, one behind the other; what an operation looks at. -/
import Derived.Test.YtconffokcoipjaaC0
import Derived.OrdersIn
namespace Go.Ab
open Go.RowKit Go.Proofs
set_option linter.unusedVariables false
set_option linter.unusedSimpArgs false

variable {cmp : Code → Option ACode} {P : Program}

def putT (t : List AV) (dst : Option Nat) (x : AV) : List AV :=
  match dst with
  | some d => t.set d x
  | none => t

def AStepG (cmp : Code → Option ACode) (P : Program) (o : AOper) (t : List AV) (s : AState) (Q : AV → AState → Prop) : Prop :=
  match o.guard with
  | none => AStep cmp P o.op t s Q
  | some (g, b) => (∃ b', t.getD g .any = .v (.bool b') ∧ (if b' = b then AStep cmp P o.op t s Q else Q (.v undef) s)) ∨ (t.getD g .any = .v undef ∧ Q (.v undef) s)

def AOps (cmp : Code → Option ACode) (P : Program) : List AOper → (List AV → AState → Prop) → List AV → AState → Prop
  | [], Q, t, s => Q t s
  | o :: r, Q, t, s => AStepG cmp P o t s (fun x s' => AOps cmp P r Q (putT t o.dst x) s')

def compOper (P : Program) (ops : Array Oper) (o : Oper) : Option AOper := do
  let ao ← compOp P o
  match o.guard with
  | none => some { dst := o.dst, op := ao }
  | some (j, b) => do
    let oj ← ops[j]?
    let d ← oj.dst
    some { dst := o.dst, op := ao, guard := some (d, b) }

theorem compOper_none {ops : Array Oper} {o : Oper} {ao : AOper} (h : compOper P ops o = some ao) : compOp P o = some ao.op ∧ ao.dst = o.dst := by
  unfold compOper at h
  obtain ⟨x, h1, h⟩ := bind_some h
  split at h
  · cases h; exact ⟨h1, rfl⟩
  · obtain ⟨oj, _, h⟩ := bind_some h
    obtain ⟨d, _, h⟩ := bind_some h
    cases h; exact ⟨h1, rfl⟩

/-- is it wanted? -/
theorem wanted_of {ops : Array Oper} {o : Oper} {ao : AOper} (h : compOper P ops o = some ao) {t : List AV} {c : Cx} {a : Act} (ht : Ev c t a.eval) :
    (ao.guard = none → Region.wanted o (yielded ops a.tmps) = true) ∧ (∀ g b b', ao.guard = some (g, b) → t.getD g .any = .v (.bool b') → Region.wanted o (yielded ops a.tmps) = decide (b' = b)) ∧
    (∀ g b, ao.guard = some (g, b) → t.getD g .any = .v undef → Region.wanted o (yielded ops a.tmps) = false) := by
  unfold compOper at h
  obtain ⟨x, h1, h⟩ := bind_some h
  split at h
  · rename_i hg
    cases h
    exact ⟨fun _ => by simp [Region.wanted, hg], (fun g b b' e => by cases e), (fun g b e => by cases e)⟩
  · rename_i j b hg
    obtain ⟨oj, h2, h⟩ := bind_some h
    obtain ⟨d, h3, h⟩ := bind_some h
    cases h
    refine ⟨fun e => by simp at e, fun g b0 b' e hb => ?_, fun g b0 e hb => ?_⟩
    rotate_left
    · simp only [Option.some.injEq, Prod.mk.injEq] at e
      obtain ⟨rfl, rfl⟩ := e
      have e1 := ht (.tmp d) (.t d) rfl
      simp only [Arg.ev, hb] at e1
      have e2 := e1.v_inv
      simp only [Act.eval, Array.getD_eq_getD_getElem?] at e2
      have e3 : yielded ops a.tmps j = none := by
        simp only [yielded, h2, h3, Option.bind_some]
        cases h4 : a.tmps[d]? with
        | none => rfl
        | some v =>
          rw [h4] at e2
          have e2 : v = undef := e2
          rw [e2]; rfl
      simp only [Region.wanted, hg, e3]
      rfl
    simp only [Option.some.injEq, Prod.mk.injEq] at e
    obtain ⟨rfl, rfl⟩ := e
    have e1 := ht (.tmp d) (.t d) rfl
    simp only [Arg.ev, hb] at e1
    have e2 := e1.v_inv
    have e3 : a.tmps[d]? = some (.bool b') := by
      simp only [Act.eval, Array.getD_eq_getD_getElem?] at e2
      cases h4 : a.tmps[d]? with
      | none => rw [h4] at e2; simp [undef] at e2
      | some v => rw [h4] at e2; simpa using e2
    simp [Region.wanted, hg, yielded, h2, h3, e3]
    cases b' <;> cases b <;> rfl

/-- one operation with its guard, of the model's -/
theorem stepG_ok {ro : Option Nat} {ops : Array Oper} {i : Nat} {o : Oper} {ao : AOper} (hi : ops[i]? = some o) (hc : compOper P ops o = some ao) {t : List AV} {s : AState} {Q : AV → AState → Prop} (h : AStepG cmp P ao t s Q)
    {c : Cx} {w : World} {a : Act} {K : Act → World → Prop} {QE : Exit → Act → World → Prop} (hr : Rel cmp c s w) (he : Ev c t a.eval) (hl : ∀ l, ro = some l → l < c.n)
    (hk : ∀ v c' w' x s', Ext c s w c' s' w' → Rel cmp c' s' w' → R c' x v → Q x s' → K (a.put o.dst v) w') : wpOpIn (Fw (ro.map c.mu)) 0 P ops QE i K a w := by
  unfold wpOpIn
  simp only [hi]
  obtain ⟨w1, w2, w3⟩ := wanted_of hc he
  obtain ⟨hco, hdst⟩ := compOper_none hc
  unfold AStepG at h
  split at h
  · rename_i hg
    rw [if_pos (w1 hg)]
    exact ⟨fun _ _ => trivial, astep_ok hco h c w a K QE hr he hl hk⟩
  · rename_i g b hg
    rcases h with ⟨b', hb', h⟩ | ⟨hu, h⟩
    · rw [w2 g b b' hg hb']
      by_cases e : b' = b
      · rw [if_pos e] at h
        rw [if_pos (by simpa using e)]
        exact ⟨fun _ _ => trivial, astep_ok hco h c w a K QE hr he hl hk⟩
      · rw [if_neg e] at h
        rw [if_neg (by simpa using e)]
        exact ⟨fun _ _ => trivial, hk undef c w (.v undef) s (.refl c s w) hr (.v _) h⟩
    · rw [w3 g b hg hu, if_neg (by simp)]
      exact ⟨fun _ _ => trivial, hk undef c w (.v undef) s (.refl c s w) hr (.v _) h⟩

theorem put_RL {c : Cx} {t : List AV} {a : Act} (h : RL c t a.tmps.toList) (d : Option Nat) {x : AV} {v : Value} (hx : R c x v) : RL c (putT t d x) (a.put d v).tmps.toList := by
  cases d with
  | none => exact h
  | some d => simpa [putT, Act.put] using h.set d hx

theorem put_defers (a : Act) (d : Option Nat) (v : Value) : (a.put d v).defers = a.defers := by cases d <;> rfl

/-- THE OPERATIONS IN THE ORDER OF THE TEXT. -/
theorem ops_ok {ro : Option Nat} {ops : Array Oper} {Q : Exit → AAct → AState → Prop} {c0 : Cx} {s0 : AState} {w0 : World} (hl : ∀ l, ro = some l → l < c0.n) (d : List Nat) :
    ∀ (l : List Nat) (aops : List AOper), l.mapM (fun i => (ops[i]?).bind (compOper P ops)) = some aops → ∀ t s, AOps cmp P aops (fun t s => Q .normal { t := t, d := d } s) t s →
      ∀ c w a, Ext c0 s0 w0 c s w → Rel cmp c s w → RA c { t := t, d := d } a →
        wpOpsIn (Fw (ro.map c0.mu)) 0 P ops (Lift cmp c0 s0 w0 Q) l a w := by
  intro l
  induction l with
  | nil =>
    intro aops hm t s h c w a hx hr ha
    simp at hm
    subst hm
    exact ⟨c, _, s, hx, hr, ha, h⟩
  | cons i l ih =>
    intro aops hm t s h c w a hx hr ha
    simp only [List.mapM_cons, bind, Option.bind_eq_some_iff] at hm
    obtain ⟨ao, ⟨o, ho, hc⟩, aops', hm', h'⟩ := hm
    cases h'
    rw [wpOpsIn_cons]
    have hmu : ro.map c0.mu = ro.map c.mu := (ro_map hx.le hl).symm
    rw [hmu]
    refine stepG_ok ho hc h hr (fun x y hxy => ha.t.ev hxy) (fun l' e => Nat.lt_of_lt_of_le (hl l' e) hx.le.n) ?_
    intro v c' w' x s' k1 k2 k3 k4
    rw [← hmu]
    refine ih aops' hm' _ _ k4 c' w' _ (hx.trans k1) k2 ⟨?_, ?_, fun y hy => Nat.lt_of_lt_of_le (ha.dn y hy) k1.le.n⟩
    · rw [(compOper_none hc).2]
      exact put_RL (ha.t.mono k1.le) o.dst k3
    · rw [put_defers, ha.d]
      exact List.map_congr_left fun y hy => by rw [k1.le.mu y (ha.dn y hy)]

/-! ### what an operation looks at -/

def Arg.tmp : Arg → List Nat
  | .t i => [i]
  | .c _ => []
def oTmp : Option Arg → List Nat
  | some x => x.tmp
  | none => []

def AOp.looks : AOp → List Nat
  | .mov x | .box x | .load _ _ x | .nilck x | .un _ x | .conv _ x | .s2b x | .b2s x | .mki _ x | .mksl _ _ x | .fld _ x | .field _ _ _ x | .extract _ x | .len _ x => x.tmp
  | .pick x y z => x.tmp ++ (y.tmp ++ z.tmp)
  | .alloc _ | .mkmap => []
  | .build _ ps => ps.flatMap fun p => p.2.2.tmp
  | .bsl _ ps => ps.flatMap Arg.tmp
  | .store _ x y | .bin _ x y | .eqa _ _ x y | .idxp _ x y | .idxa _ _ x y | .idxs x y | .idxv _ _ _ x y | .lookup _ _ _ x y | .mapdel _ x y | .append _ _ x y => x.tmp ++ y.tmp
  | .mkf _ fs cs => fs.flatMap Arg.tmp ++ cs.flatMap Arg.tmp
  | .slice _ x l h m => x.tmp ++ (oTmp l ++ (oTmp h ++ oTmp m))
  | .mapset _ x y z => x.tmp ++ (y.tmp ++ z.tmp)
  | .mm _ xs => xs.flatMap Arg.tmp
  | .call f args => f.tmp ++ args.flatMap Arg.tmp

def AOper.looks (o : AOper) : List Nat :=
  match o.guard with
  | some (g, _) => g :: o.op.looks
  | none => o.op.looks

/-- alike at these -/
def Like (l : List Nat) (t t' : List AV) : Prop := ∀ u ∈ l, t.getD u .any = t'.getD u .any

theorem Like.left {l m : List Nat} {t t' : List AV} (h : Like (l ++ m) t t') : Like l t t' := fun u hu => h u (List.mem_append_left _ hu)
theorem Like.right {l m : List Nat} {t t' : List AV} (h : Like (l ++ m) t t') : Like m t t' := fun u hu => h u (List.mem_append_right _ hu)
theorem Like.ev {x : Arg} {t t' : List AV} (h : Like x.tmp t t') : x.ev t = x.ev t' := by
  cases x with
  | t i => exact h i (by simp [Arg.tmp])
  | c x => rfl
theorem Like.evs {xs : List Arg} {t t' : List AV} (h : Like (xs.flatMap Arg.tmp) t t') : xs.map (Arg.ev t) = xs.map (Arg.ev t') :=
  List.map_congr_left fun x hx => Like.ev fun u hu => h u (List.mem_flatMap.2 ⟨x, hx, hu⟩)
theorem Like.opt {x : Option Arg} {t t' : List AV} (h : Like (oTmp x) t t') : optInt t x = optInt t' x := by
  cases x with
  | none => rfl
  | some x => simp only [optInt, Like.ev h]

theorem exec_like {op : AOp} {t t' : List AV} (s : AState) (h : Like op.looks t t') : op.exec t s = op.exec t' s := by
  cases op <;> simp only [AOp.looks] at h <;> simp only [AOp.exec]
  case mov x => rw [h.ev]
  case pick x y z => rw [h.left.ev, h.right.left.ev, h.right.right.ev]
  case box x => rw [h.ev]
  case build z ps =>
    have : (ps.map fun x => (x.1, x.2.1, x.2.2.ev t)) = (ps.map fun x => (x.1, x.2.1, x.2.2.ev t')) :=
      List.map_congr_left fun x hx => by rw [Like.ev (fun u hu => h u (List.mem_flatMap.2 ⟨x, hx, hu⟩))]
    simp only [this]
  case bsl k ps => rw [h.evs]
  case load => rw [h.ev]
  case store => rw [h.left.ev, h.right.ev]
  case nilck => rw [h.ev]
  case bin => rw [h.left.ev, h.right.ev]
  case eqa => rw [h.left.ev, h.right.ev]
  case un => rw [h.ev]
  case conv => rw [h.ev]
  case s2b => rw [h.ev]
  case b2s => rw [h.ev]
  case mki => rw [h.ev]
  case mkf => rw [h.left.evs, h.right.evs]
  case mksl => rw [h.ev]
  case slice => rw [h.left.ev, h.right.left.opt, h.right.right.left.opt, h.right.right.right.opt]
  case fld => rw [h.ev]
  case field => rw [h.ev]
  case idxp => rw [h.left.ev, h.right.ev]
  case idxa => rw [h.left.ev, h.right.ev]
  case idxs => rw [h.left.ev, h.right.ev]
  case idxv => rw [h.left.ev, h.right.ev]
  case lookup => rw [h.left.ev, h.right.ev]
  case mapset => rw [h.left.ev, h.right.left.ev, h.right.right.ev]
  case mapdel => rw [h.left.ev, h.right.ev]
  case extract => rw [h.ev]
  case len => rw [h.ev]
  case append => rw [h.left.ev, h.right.ev]
  case mm => rw [h.evs]

theorem astep_like {op : AOp} {t t' : List AV} {s : AState} {Q : AV → AState → Prop} (h : Like op.looks t t') (hs : AStep cmp P op t s Q) : AStep cmp P op t' s Q := by
  have key : (∃ x s', op.exec t s = some (x, s') ∧ Q x s') → ∃ x s', op.exec t' s = some (x, s') ∧ Q x s' := by rw [exec_like s h]; exact id
  cases op <;> first | exact key hs | skip
  case call f args =>
    show ACall cmp P (f.ev t') (args.map (Arg.ev t')) s Q
    have h : Like (f.tmp ++ args.flatMap Arg.tmp) t t' := h
    rw [← h.left.ev, ← h.right.evs]
    exact hs

theorem stepG_like {o : AOper} {t t' : List AV} {s : AState} {Q : AV → AState → Prop} (h : Like o.looks t t') (hs : AStepG cmp P o t s Q) : AStepG cmp P o t' s Q := by
  unfold AStepG at hs ⊢
  unfold AOper.looks at h
  split at hs
  · rename_i hg; rw [hg] at h; exact astep_like h hs
  · rename_i g b hg
    rw [hg] at h
    rcases hs with ⟨b', h1, h2⟩ | ⟨h1, h2⟩
    · refine .inl ⟨b', by rw [← h g (by simp)]; exact h1, ?_⟩
      split at h2
      · rename_i e; rw [if_pos e]; exact astep_like (fun u hu => h u (List.mem_cons_of_mem _ hu)) h2
      · rename_i e; rw [if_neg e]; exact h2
    · exact .inr ⟨by rw [← h g (by simp)]; exact h1, h2⟩

/-! ### which leave the state as it is -/

def AOp.isCall : AOp → Bool
  | .call .. => true
  | _ => false
def AOp.pure' : AOp → Bool
  | .mov _ | .pick .. | .build .. | .bsl .. | .nilck _ | .bin .. | .eqa .. | .un .. | .conv .. | .s2b _ | .mki .. | .mkf .. | .fld .. | .field .. | .idxp .. | .idxa .. | .idxs .. | .idxv .. | .extract .. | .mm .. | .slice .. => true
  | .len .map _ => false
  | .len _ _ => true
  | _ => false
def AOp.reads : AOp → Bool
  | .load .. | .b2s _ | .lookup .. | .len .map _ => true
  | _ => false

/-- knows more (leaves to append may have gone over) -/
def AState.ext (s s' : AState) : Prop := s.n ≤ s'.n ∧ ∀ b, s.get b ≠ .dead → s.get b ≠ .tok → s'.get b = s.get b

theorem AState.ext.refl (s : AState) : s.ext s := ⟨Nat.le_refl _, fun _ _ _ => rfl⟩
theorem AState.ext.trans {a b c : AState} (h : a.ext b) (k : b.ext c) : a.ext c :=
  ⟨Nat.le_trans h.1 k.1, fun x h1 h2 => by have := h.2 x h1 h2; rw [← this] at h1 h2 ⊢; exact k.2 x h1 h2⟩
theorem AState.ext_alloc (s : AState) (o : AObj) : s.ext (s.alloc o) :=
  ⟨Nat.le_succ _, fun b h1 h2 => s.get_alloc_old o (AState.lt_of_get rfl h1)⟩
theorem AState.ext_tok {s : AState} {t : Nat} (h : s.get t = .tok) (o : AObj) : s.ext ((s.set t .dead).alloc o) :=
  ⟨Nat.le_succ _, fun b h1 h2 => by
    have hb : b < s.n := AState.lt_of_get rfl h1
    rw [AState.get_alloc_old _ _ (by simpa using hb), AState.get_set_ne]
    rintro rfl; exact h2 h⟩

theorem exec_pure_map {op : AOp} (hp : op.pure' = true) {t : List AV} (s s1 : AState) : op.exec t s1 = (op.exec t s).map fun r => (r.1, s1) := by
  cases op <;> first | (simp [AOp.pure'] at hp; done) | skip
  case len lk x' =>
    cases lk <;> first | (simp [AOp.pure'] at hp; done) | skip
    all_goals (simp only [AOp.exec]; split <;> simp_all)
  case build => simp only [AOp.exec, Option.map_map]; rfl
  case eqa => simp only [AOp.exec, Option.map_map]; rfl
  case slice =>
    simp only [AOp.exec]
    split
    · split <;> rfl
    · split
      · split
        · rfl
        · split <;> rfl
      · rfl
    · split
      · rfl
      · split <;> rfl
    · split <;> rfl
    · rfl
  all_goals (simp only [AOp.exec]; repeat' split)
  all_goals (first | rfl | (simp_all; done) | skip)
  all_goals (simp only [Option.map_map]; rfl)

theorem exec_pure {op : AOp} (hp : op.pure' = true) {t : List AV} {s s' : AState} {x : AV} (h : op.exec t s = some (x, s')) : s' = s ∧ ∀ s1, op.exec t s1 = some (x, s1) := by
  have h1 := exec_pure_map hp (t := t) s s
  rw [h] at h1
  simp only [Option.map_some, Option.some.injEq, Prod.mk.injEq, true_and] at h1
  exact ⟨h1, fun s1 => by rw [exec_pure_map hp s s1, h]; rfl⟩

theorem cellsAt_ext {s s1 : AState} (he : s.ext s1) {x : AV} {cs : List AV} (h : cellsAt s x = some cs) : cellsAt s1 x = some cs := by
  cases x <;> simp only [cellsAt] at h ⊢ <;> try exact h
  split at h
  · rename_i cs' hg
    rw [he.2 _ (by rw [hg]; simp) (by rw [hg]; simp), hg]; exact h
  · cases h

theorem exec_reads {op : AOp} (hp : op.reads = true) {t : List AV} {s s' : AState} {x : AV} (h : op.exec t s = some (x, s')) : s' = s ∧ ∀ s1, s.ext s1 → op.exec t s1 = some (x, s1) := by
  have keep : ∀ {s1 : AState}, s.ext s1 → ∀ {b : Nat} {o : AObj}, s.get b = o → o ≠ .dead → o ≠ .tok → s1.get b = o := fun he b o hg h1 h2 => by
    rw [he.2 b (by rw [hg]; exact h1) (by rw [hg]; exact h2), hg]
  cases op <;> first | (simp [AOp.reads] at hp; done) | skip
  case load ag k y =>
    simp only [AOp.exec] at h ⊢
    split at h
    · rename_i cs hcs
      split at h
      · rename_i hl
        cases h
        exact ⟨rfl, fun s1 he => by rw [cellsAt_ext he hcs]; simp only []; rw [if_pos hl]⟩
      · cases h
    · cases h
  case b2s y =>
    simp only [AOp.exec] at h ⊢
    split at h
    · rename_i xs tk hy
      simp only [Option.map_eq_some_iff] at h
      obtain ⟨l, hl, h⟩ := h
      cases h
      exact ⟨rfl, fun s1 he => by simp only [hl]; rfl⟩
    · rename_i b off ln hy
      split at h
      · rename_i cs hg
        split at h
        · rename_i hb
          simp only [Option.map_eq_some_iff] at h
          obtain ⟨l, hl, h⟩ := h
          cases h
          exact ⟨rfl, fun s1 he => by simp only [keep he hg (by simp) (by simp)]; rw [if_pos hb, hl]; rfl⟩
        · cases h
      · cases h
    · cases h
  case lookup kk z ok m k =>
    simp only [AOp.exec] at h ⊢
    split at h
    · rename_i b hm
      split at h
      · rename_i es hg
        split at h
        · rename_i hk
          refine ⟨?_, fun s1 he => ?_⟩
          · split at h <;> first | (cases h; done) | (cases h; rfl)
          · simp only [keep he hg (by simp) (by simp)]
            rw [if_pos hk]
            split at h <;> first | (cases h; done) | skip
            · rename_i i hf; cases h; simp only [hf]
            · rename_i hf; cases h; simp only [hf]
        · cases h
      · cases h
    · cases h
  case len lk y =>
    cases lk <;> first | (simp [AOp.reads] at hp; done) | skip
    simp only [AOp.exec] at h ⊢
    split at h <;> first | (cases h; done) | skip
    all_goals (first | contradiction | skip)
    rename_i b hy
    split at h
    · rename_i es hg
      cases h
      exact ⟨rfl, fun s1 he => by simp only [keep he hg (by simp) (by simp)]⟩
    · cases h

end Go.Ab
