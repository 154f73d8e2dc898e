/- CONTRACTS AS EQUATIONS; states that have grown; what may be forgotten of a value; ranges over iterators. -/
import Derived.Test.YtconffokcoipjaaD1
namespace Go.Ab
open Go.RowKit Go.Proofs
set_option linter.unusedVariables false
set_option linter.unusedSimpArgs false

variable {cmp : Code → Option ACode} {P : Program}

/-! ### states that have grown -/

theorem AState.ext' {s s' : AState} (hn : s.n = s'.n) (h : ∀ b, s.at_ b = s'.at_ b) : s = s' := by
  cases s; cases s'; simp only at hn h; subst hn; congr; exact funext h

def allocs (s : AState) (g : List AObj) : AState := g.foldl AState.alloc s
theorem allocs_nil (s : AState) : allocs s [] = s := rfl
theorem allocs_snoc (s : AState) (g : List AObj) (o : AObj) : (allocs s g).alloc o = allocs s (g ++ [o]) := by simp [allocs]
theorem allocs_cons (s : AState) (g : List AObj) (o : AObj) : allocs (s.alloc o) g = allocs s (o :: g) := rfl
theorem allocs_allocs (s : AState) (g h : List AObj) : allocs (allocs s g) h = allocs s (g ++ h) := by simp [allocs]
theorem n_allocs (s : AState) (g : List AObj) : (allocs s g).n = s.n + g.length := by
  induction g generalizing s with
  | nil => rfl
  | cons o g ih => rw [← allocs_cons, ih]; simp; omega
theorem get_allocs {s : AState} {g : List AObj} {b : Nat} (h : b < s.n) : (allocs s g).get b = s.get b := by
  induction g generalizing s with
  | nil => rfl
  | cons o g ih => rw [← allocs_cons, ih (by simp; omega), AState.get_alloc_old _ _ h]
theorem set_allocs {s : AState} {g : List AObj} {b : Nat} (o : AObj) (h : b < s.n) : (allocs s g).set b o = allocs (s.set b o) g := by
  induction g generalizing s with
  | nil => rfl
  | cons o' g ih => rw [← allocs_cons, ← allocs_cons, ih (by simp; omega), set_alloc_low _ _ _ h]
theorem get_allocs_new {s : AState} {g : List AObj} {b : Nat} (h : s.n ≤ b) : (allocs s g).get b = g.getD (b - s.n) .dead := by
  induction g generalizing s with
  | nil => rw [allocs_nil, AState.get_ge _ h]; simp
  | cons o g ih =>
    rw [← allocs_cons]
    by_cases e : b = s.n
    · subst e
      rw [get_allocs (by simp), AState.get_alloc_new]; simp
    · rw [ih (by simp; omega)]
      simp only [AState.n_alloc]
      rw [show b - s.n = (b - (s.n + 1)) + 1 by omega]; simp
theorem set_allocs_new {s : AState} {g : List AObj} {b : Nat} (o : AObj) (h : s.n ≤ b) (h2 : b < s.n + g.length) : (allocs s g).set b o = allocs s (g.set (b - s.n) o) := by
  induction g generalizing s with
  | nil => simp at h2; omega
  | cons o' g ih =>
    rw [← allocs_cons]
    by_cases e : b = s.n
    · subst e
      rw [set_allocs _ (by simp), set_alloc_top]; simp [allocs_cons]
    · rw [ih (by simp; omega) (by simp at h2 ⊢; omega)]
      simp only [AState.n_alloc]
      rw [show b - s.n = (b - (s.n + 1)) + 1 by omega]; simp [allocs_cons]

theorem get_alloc_eq {s : AState} {b : Nat} {o : AObj} (h : b = s.n) : (s.alloc o).get b = o := by subst h; simp
theorem get_alloc_ne {s : AState} {b : Nat} {o : AObj} (h : b ≠ s.n) : (s.alloc o).get b = s.get b := by simp [AState.get_alloc, h]
theorem set_alloc_eq {s : AState} {b : Nat} {o o' : AObj} (h : b = s.n) : (s.alloc o).set b o' = s.alloc o' := by subst h; exact set_alloc_top _ _ _
theorem set_alloc_lt {s : AState} {b : Nat} {o o' : AObj} (h : b < s.n) : (s.alloc o).set b o' = (s.set b o').alloc o := set_alloc_low _ _ _ h
theorem get_set_eq {s : AState} {b x : Nat} {o : AObj} (h : b = x ∧ x < s.n) : (s.set b o).get x = o := by obtain ⟨rfl, h⟩ := h; exact AState.get_set_same _ _ h
theorem get_set_ne' {s : AState} {b x : Nat} {o : AObj} (h : b ≠ x) : (s.set b o).get x = s.get x := AState.get_set_ne _ _ (Ne.symm h)
theorem set_set (s : AState) (b : Nat) (o o' : AObj) : (s.set b o).set b o' = s.set b o' := by
  refine AState.ext' rfl fun x => ?_
  simp only [AState.set]; split <;> rfl
theorem set_comm {s : AState} {b b' : Nat} (o o' : AObj) (h : b ≠ b') : (s.set b o).set b' o' = (s.set b' o').set b o := by
  refine AState.ext' rfl fun x => ?_
  simp only [AState.set]
  by_cases e : x = b
  · subst e; simp [h]
  · simp [e]
theorem set_get {s : AState} {b : Nat} {o : AObj} (h : s.get b = o) (hd : o ≠ .dead) : s.set b o = s := by
  have hb := AState.lt_of_get h hd
  refine AState.ext' rfl fun x => ?_
  simp only [AState.set]
  split
  · rename_i e; subst e; rw [← h]; simp [AState.get, hb]
  · rfl

/-- the state has grown, no more -/
def Grows (s s' : AState) : Prop := ∃ g, s' = allocs s g
theorem Grows.refl (s : AState) : Grows s s := ⟨[], rfl⟩
theorem Grows.alloc {s s' : AState} (h : Grows s s') (o : AObj) : Grows s (s'.alloc o) := by obtain ⟨g, rfl⟩ := h; exact ⟨_, allocs_snoc _ _ _⟩
theorem Grows.allocs {s s' : AState} (h : Grows s s') (g : List AObj) : Grows s (allocs s' g) := by obtain ⟨g, rfl⟩ := h; exact ⟨_, allocs_allocs _ _ _⟩
theorem Grows.trans {a b c : AState} (h : Grows a b) (k : Grows b c) : Grows a c := by obtain ⟨g, rfl⟩ := k; exact h.allocs g
theorem Grows.set {s s' : AState} (h : Grows s s') {b : Nat} (o : AObj) (hb : s.n ≤ b) (hb' : b < s'.n) : Grows s (s'.set b o) := by
  obtain ⟨g, rfl⟩ := h
  rw [n_allocs] at hb'
  exact ⟨_, set_allocs_new o hb hb'⟩
theorem Grows.n {s s' : AState} (h : Grows s s') : s.n ≤ s'.n := by obtain ⟨g, rfl⟩ := h; rw [n_allocs]; omega
theorem Grows.get {s s' : AState} (h : Grows s s') {b : Nat} (hb : b < s.n) : s'.get b = s.get b := by obtain ⟨g, rfl⟩ := h; exact get_allocs hb
theorem Grows.sub {s s' : AState} (h : Grows s s') : s.sub s' := ⟨h.n, fun b hb => .inl (h.get hb).symm⟩
theorem Grows.ext {s s' : AState} (h : Grows s s') : s.ext s' := ⟨h.n, fun b hd _ => h.get (AState.lt_of_get rfl hd)⟩

/-! ### what may be forgotten -/

/-- y says less than x -/
def AV.le (x y : AV) : Prop := ∀ c v, R c x v → R c y v
theorem AV.le.refl (x : AV) : x.le x := fun _ _ h => h
theorem AV.le.trans {x y z : AV} (h : x.le y) (k : y.le z) : x.le z := fun c v r => k c v (h c v r)
theorem AV.le_any (x : AV) : x.le .any := fun c v _ => .any v
theorem AV.le_no (xs : List AV) (t : Tok) : (AV.sl xs t).le (.sl xs .no) := fun c v h => by
  cases h with
  | sl _ _ k B o cap g h1 h2 h3 h4 h5 => exact .sl xs .no k B o cap g h1 h2 h3 h4 trivial
  | sl0 _ p ht => exact .sl0 .no p (fun k => by simp)
theorem le_bool {x y : Bool} (h : x = y) : (AV.v (.bool x)).le (.v (.bool y)) := by subst h; exact .refl _
theorem le_int {k : IntKind} {x y : Int} (h : x = y) : (AV.v (.int k x)).le (.v (.int k y)) := by subst h; exact .refl _
theorem RL.le {c : Cx} {xs ys : List AV} {vs : List Value} (hl : xs.length = ys.length) (h : ∀ j, (xs.getD j .any).le (ys.getD j .any)) (r : RL c xs vs) : RL c ys vs := by
  refine ⟨by rw [r.1, hl], fun j hj => ?_⟩
  have h1 := h j c _ (r.get j)
  rwa [List.getD_eq_getElem?_getD (l := ys), List.getElem?_eq_getElem hj] at h1
theorem AV.le_agg {xs ys : List AV} (hl : xs.length = ys.length) (h : ∀ j, (xs.getD j .any).le (ys.getD j .any)) : (AV.agg xs).le (.agg ys) := fun c v r => by
  obtain ⟨vs, rfl, hr⟩ := r.agg_inv
  exact R.agg' (hr.le hl h)
theorem AV.le_tup {xs ys : List AV} (hl : xs.length = ys.length) (h : ∀ j, (xs.getD j .any).le (ys.getD j .any)) : (AV.tup xs).le (.tup ys) := fun c v r => by
  obtain ⟨vs, rfl, hr⟩ := r.tup_inv
  exact R.tup' (hr.le hl h)
theorem AV.le_strip1 (x : AV) : x.le x.strip1 := by
  cases x <;> first | exact .refl _ | exact AV.le_no _ _
theorem AV.le_strip (x : AV) : x.le x.strip := by
  cases x <;> first | exact .refl _ | exact AV.le_no _ _ | skip
  rename_i cs
  refine AV.le_agg (by simp) fun j => ?_
  rw [List.getD_eq_getElem?_getD, List.getD_eq_getElem?_getD, List.getElem?_map]
  cases cs[j]? with
  | none => exact .refl _
  | some x => exact AV.le_strip1 x

/-- no part of it is in the state -/
def Flat (x : AV) : Prop := ∀ n, x.In n
theorem Flat.v (x : Value) : Flat (.v x) := fun n => .v x
theorem Flat.agg {cs : List AV} (h : ∀ x ∈ cs, Flat x) : Flat (.agg cs) := fun n => .agg cs fun x hx => h x hx n
theorem Flat.tup {cs : List AV} (h : ∀ x ∈ cs, Flat x) : Flat (.tup cs) := fun n => .tup cs fun x hx => h x hx n
theorem Flat.sl {xs : List AV} (h : ∀ x ∈ xs, ∀ y ∈ x.cells, Flat y) {t : Tok} (ht : ∀ k, t ≠ .own k) : Flat (.sl xs t) := fun n => .sl xs t (fun x hx y hy => h x hx y hy n) (fun k e => absurd e (ht k))

/-! ### contracts -/

/-- called so, it hands back x; the state is s' then -/
def Gives (P : Program) (f : FuncId) (args : List AV) (s : AState) (x : AV) (s' : AState) : Prop := Runs (compCode P) P f args s (fun r t => r = x ∧ t = s')

theorem Runs.weak {f : FuncId} {args args' : List AV} {s : AState} {Q : AV → AState → Prop} (hl : args.length = args'.length) (h : ∀ j, (args.getD j .any).le (args'.getD j .any)) (k : Runs cmp P f args' s Q) : Runs cmp P f args s Q :=
  ⟨k.1, fun c w vs hr ha => k.2 c w vs hr (ha.le hl h)⟩
theorem Runs.strip {f : FuncId} {args : List AV} {s : AState} {Q : AV → AState → Prop} (k : Runs cmp P f (args.map AV.strip) s Q) : Runs cmp P f args s Q := by
  refine Runs.weak (by simp) (fun j => ?_) k
  rw [List.getD_eq_getElem?_getD, List.getD_eq_getElem?_getD, List.getElem?_map]
  cases args[j]? with
  | none => exact .refl _
  | some x => exact AV.le_strip x

/-- the result, known less of -/
theorem Runs.less {f : FuncId} {args : List AV} {s : AState} {Q Q' : AV → AState → Prop} (k : Runs cmp P f args s Q) (h : ∀ x s', Q x s' → ∃ y, x.le y ∧ Q' y s') : Runs cmp P f args s Q' :=
  ⟨k.1, fun c w vs hr ha => (k.2 c w vs hr ha).mono fun e w' ⟨v, c', x, s', h1, h2, h3, h4, h5⟩ => by
    obtain ⟨y, hy, hq⟩ := h x s' h5
    exact ⟨v, c', y, s', h1, h2, h3, hy _ _ h4, hq⟩⟩

/-- all that it left behind is forgotten -/
theorem Runs.gives {f : FuncId} {args : List AV} {s : AState} {x : AV} (k : Runs (compCode P) P f args s (fun r t => s.sub t ∧ r.le x)) (hx : Flat x) : Gives P f args s x s :=
  Runs.quiet (Runs.less k fun r t h => ⟨x, h.2, rfl, h.1, fun _ => hx _⟩)
theorem Runs.gives' {f : FuncId} {args : List AV} {s : AState} {x : AV} (k : Runs (compCode P) P f args s (fun r t => Grows s t ∧ r.le x)) (hx : Flat x) : Gives P f args s x s :=
  Runs.gives (k.mono fun r t h => ⟨h.1.sub, h.2⟩) hx

/-! ### steps by contracts -/
section
variable {K : List AV → AState → Prop} {n : Nat} {e : List (Nat × AV)} {s s' : AState} {d : Nat} {f : Arg} {args : List Arg} {r : List AOper} {g : FuncId} {fs caps args' args'' : List AV} {x : AV}

theorem o_giv (hf : f.ev (den n e) = .f (.func g) fs caps) (ha : fs ++ args.map (Arg.ev (den n e)) ++ caps = args') (hs : args'.map AV.strip = args'') (h : Gives P g args'' s x s')
    (hk : AOps (compCode P) P r K (den n ((d, x) :: e)) s') : AOps (compCode P) P (⟨some d, .call f args, none⟩ :: r) K (den n e) s := by
  subst ha; subst hs
  exact o_call hf h.strip (by rintro _ _ ⟨rfl, rfl⟩; exact hk)
theorem o_giv2 (hf : f.ev (den n e) = .f (.func g) fs caps) (ha : (fs ++ args.map (Arg.ev (den n e)) ++ caps).map AV.strip = args'') (h : Gives P g args'' s x s')
    (hk : AOps (compCode P) P r K (den n ((d, x) :: e)) s') : AOps (compCode P) P (⟨some d, .call f args, none⟩ :: r) K (den n e) s := o_giv hf rfl ha h hk
theorem o_run {Q : AV → AState → Prop} (hf : f.ev (den n e) = .f (.func g) fs caps) (ha : fs ++ args.map (Arg.ev (den n e)) ++ caps = args') (h : Runs (compCode P) P g args' s Q)
    (hk : ∀ x s', Q x s' → AOps (compCode P) P r K (den n ((d, x) :: e)) s') : AOps (compCode P) P (⟨some d, .call f args, none⟩ :: r) K (den n e) s := by
  subst ha
  exact o_call hf h hk
variable {rd : List DOper} {opens : List AOper} {am : Bool}
theorem d_giv (hf : f.ev (den n e) = .f (.func g) fs caps) (ha : fs ++ args.map (Arg.ev (den n e)) ++ caps = args') (hs : args'.map AV.strip = args'') (h : Gives P g args'' s x s')
    (ho : Opens (compCode P) P opens s (den n ((d, x) :: e)) s') (hk : DWalk (compCode P) P rd K (den n ((d, x) :: e)) s') : DWalk (compCode P) P (⟨⟨some d, .call f args, none⟩, true, am, opens⟩ :: rd) K (den n e) s := by
  subst ha; subst hs
  exact d_call hf h.strip (by rintro _ _ ⟨rfl, rfl⟩; exact ⟨ho, hk⟩)
theorem d_run {Q : AV → AState → Prop} (hf : f.ev (den n e) = .f (.func g) fs caps) (ha : fs ++ args.map (Arg.ev (den n e)) ++ caps = args') (h : Runs (compCode P) P g args' s Q)
    (hk : ∀ x s', Q x s' → Opens (compCode P) P opens s (den n ((d, x) :: e)) s' ∧ DWalk (compCode P) P rd K (den n ((d, x) :: e)) s') : DWalk (compCode P) P (⟨⟨some d, .call f args, none⟩, true, am, opens⟩ :: rd) K (den n e) s := by
  subst ha
  exact d_call hf h hk
/-- a call that leaves all as it is, whatever has come -/
theorem d_givQ (hf : f.ev (den n e) = .f (.func g) fs caps) (ha : fs ++ args.map (Arg.ev (den n e)) ++ caps = args') (hs : args'.map AV.strip = args'') (h : ∀ s1, s.ext s1 → Gives P g args'' s1 x s1)
    (hk : DWalk (compCode P) P rd K (den n ((d, x) :: e)) s) : DWalk (compCode P) P (⟨⟨some d, .call f args, none⟩, false, am, opens⟩ :: rd) K (den n e) s := by
  subst ha; subst hs
  exact d_callQ hf (fun s1 h1 => (h s1 h1).strip) hk

theorem o_split {op : AOp} {i : Nat} {b b' : Bool} (h : look n e i = .v (.bool b')) (k1 : b' = b → AOps cmp P (⟨some d, op, none⟩ :: r) K (den n e) s) (k2 : b' = !b → AOps cmp P r K (den n ((d, .v undef) :: e)) s) :
    AOps cmp P (⟨some d, op, some (i, b)⟩ :: r) K (den n e) s := by
  by_cases hb : b' = b
  · subst hb; exact o_want h (k1 rfl)
  · exact o_skip h hb (k2 (by cases b <;> cases b' <;> simp_all))
theorem d_split {op : AOp} {i : Nat} {b b' ef : Bool} (h : look n e i = .v (.bool b')) (k1 : b' = b → DWalk cmp P (⟨⟨some d, op, none⟩, ef, am, opens⟩ :: rd) K (den n e) s) (k2 : b' = !b → DWalk cmp P rd K (den n ((d, .v undef) :: e)) s) :
    DWalk cmp P (⟨⟨some d, op, some (i, b)⟩, ef, am, opens⟩ :: rd) K (den n e) s := by
  by_cases hb : b' = b
  · subst hb; exact d_want h (k1 rfl)
  · exact d_skip h hb (k2 (by cases b <;> cases b' <;> simp_all))
end

/-! ### draws whose order tells nothing -/
/-- a draw's operations in their order, where none may float past another that counts -/
def plainD : List DOper → Option (List AOper)
  | [] => some []
  | d :: r => match plainD r with
    | some l => if d.eff = true then (if d.opens.isEmpty then some (d.o :: l) else none) else (if d.o.op.isCall = true then none else if d.o.op.pure' || d.o.op.reads then some (d.o :: l) else none)
    | none => none

theorem plainD_ok : ∀ {ds : List DOper} {ops : List AOper} {K : List AV → AState → Prop} {t : List AV} {s : AState}, plainD ds = some ops → AOps cmp P ops K t s → DWalk cmp P ds K t s := by
  intro ds
  induction ds with
  | nil => intro ops K t s h k; simp only [plainD, Option.some.injEq] at h; subst h; exact k
  | cons d r ih =>
    intro ops K t s h k
    simp only [plainD] at h
    split at h
    · rename_i l hl
      unfold DWalk
      split at h
      · rename_i he
        rw [if_pos he]
        split at h
        · rename_i ho
          simp only [Option.some.injEq] at h; subst h
          exact AStepG.mono (fun x s' k' => ⟨.inl (List.isEmpty_iff.1 ho), ih hl k'⟩) k
        · cases h
      · rename_i he
        rw [if_neg he]
        split at h
        · cases h
        · rename_i hc
          split at h
          · rename_i hp
            simp only [Option.some.injEq] at h; subst h
            have hc' : d.o.op.isCall = false := by simpa using hc
            have key : ∀ {Q : AV → AState → Prop}, AStep cmp P d.o.op t s Q → ∃ x, AStep cmp P d.o.op t s (fun x' s' => x' = x ∧ s' = s) ∧ Q x s := by
              intro Q hq
              have : ∃ x s', d.o.op.exec t s = some (x, s') ∧ Q x s' := by
                generalize d.o.op = op at hc' hq
                cases op <;> first | exact hq | (simp [AOp.isCall] at hc')
              obtain ⟨x, s', h1, h2⟩ := this
              have e : s' = s := by
                rcases Bool.or_eq_true _ _ ▸ hp with h | h
                · exact (exec_pure h h1).1
                · exact (exec_reads h h1).1
              subst e
              exact ⟨x, astep_of_exec hc' h1 ⟨rfl, rfl⟩, h2⟩
            have k2 : AStepG cmp P d.o t s (fun x s' => AOps cmp P l K (putT t d.o.dst x) s') := k
            unfold AStepG at k2
            have fin : ∀ x, AStepG cmp P d.o t s (fun x' s' => x' = x ∧ s' = s) → AOps cmp P l K (putT t d.o.dst x) s → ∃ x, Stab cmp P d t s x ∧ DWalk cmp P r K (putT t d.o.dst x) s :=
              fun x hx hk => ⟨x, ⟨hx, fun _ hcall => by rw [hc'] at hcall; cases hcall⟩, ih hl hk⟩
            split at k2
            · rename_i hg
              obtain ⟨x, h1, h2⟩ := key k2
              exact fin x (by unfold AStepG; rw [hg]; exact h1) h2
            · rename_i g b hg
              rcases k2 with ⟨b', h1, h2⟩ | ⟨h1, h2⟩
              · split at h2
                · rename_i e
                  obtain ⟨x, h3, h4⟩ := key h2
                  exact fin x (by unfold AStepG; rw [hg]; exact .inl ⟨b', h1, by rw [if_pos e]; exact h3⟩) h4
                · rename_i e
                  exact fin _ (by unfold AStepG; rw [hg]; exact .inl ⟨b', h1, by rw [if_neg e]; exact ⟨rfl, rfl⟩⟩) h2
              · exact fin _ (by unfold AStepG; rw [hg]; exact .inr ⟨h1, rfl, rfl⟩) h2
          · cases h
    · cases h
theorem w_plain {ro : Option Nat} {Q : Exit → AAct → AState → Prop} {d : List Nat} {t : List AV} {s : AState} {ds : List DOper} {ops : List AOper} (h : plainD ds = some ops) (k : AOps (compCode P) P ops (fun t s => Q .normal { t := t, d := d } s) t s) :
    wp P ro (.draw ds) Q { t := t, d := d } s := plainD_ok h k

/-! ### iterators -/

/-- a function that hands its yield these, one behind the other, until that says no; of the state Pre is asked -/
def Iter (P : Program) (g : FuncId) (fs caps : List AV) (xs : List (List AV)) (Pre : AState → Prop) : Prop :=
  ∀ (l : Nat) (s : AState) (I : Nat → AState → Prop) (J : AState → Prop),
    (∀ k s, I k s → Pre s) → (∀ k s o, I k s → I k (s.alloc o)) → (∀ s o, J s → J (s.alloc o)) →
    (∀ k (hk : k < xs.length) s, I k s → YRuns (compCode P) P l xs[k] s (fun r s' => (r = .v (.bool true) ∧ I (k + 1) s') ∨ (r = .v (.bool false) ∧ J s'))) →
    I 0 s → Runs (compCode P) P g (fs ++ [.y l] ++ caps) s (fun _ s' => I xs.length s' ∨ J s')

section
variable {f : Arg} {ps : List Nat} {asg body : ACode} {Q : Exit → AAct → AState → Prop} {t : List AV} {d : List Nat} {s : AState} {g : FuncId} {fs caps : List AV} {xs : List (List AV)} {Pre : AState → Prop}

/-- one round of a range: the variables are laid, the body is walked; 'fin' behind it, with the loop's object as it is between rounds -/
def Round (P : Program) (L : Nat) (ps : List Nat) (asg body : ACode) (t : List AV) (D : Nat) (args : List AV) (fin : Option AJump → AState → Prop) (s : AState) : Prop :=
  wp P (some L) asg (fun e a1 s1 => e = .normal ∧ s1.get L = .loop .ready none t ps asg body D ∧ wp P (some L) body (fun e _ s2 => s2.get L = .loop .busy none t ps asg body D ∧
    match e with
    | .normal => fin none (s2.set L (.loop .ready none t ps asg body D))
    | .ret => fin (some .ret) (s2.set L (.loop .done (some .ret) t ps asg body D))
    | .exit id => fin (some (.exit id)) (s2.set L (.loop .done (some (.exit id)) t ps asg body D))
    | .goto i => fin (some (.goto i)) (s2.set L (.loop .done (some (.goto i)) t ps asg body D))
    | _ => False) a1 (s1.set L (.loop .busy none t ps asg body D))) { t := fillT t ps args, d := [] } s

theorem Round.yruns {L : Nat} {D : Nat} {args : List AV} {fin : Option AJump → AState → Prop} (h : Round P L ps asg body t D args fin s) (hL : s.get L = .loop .ready none t ps asg body D) (hl : args.length = ps.length) {Q : AV → AState → Prop}
    (hq : ∀ s', fin none s' → Q (.v (.bool true)) s') (hq2 : ∀ j s', fin (some j) s' → Q (.v (.bool false)) s') : YRuns (compCode P) P L args s Q := by
  refine ⟨t, ps, asg, body, D, hL, hl, wp_ok (wp_mono ?_ h)⟩
  rintro e a1 s1 ⟨rfl, k2, k3⟩
  refine ⟨rfl, k2, wp_ok (wp_mono ?_ k3)⟩
  rintro e a2 s2 ⟨m1, m2⟩
  refine ⟨m1, ?_⟩
  cases e with
  | normal => exact hq _ m2
  | ret => exact hq2 _ _ m2
  | exit id => exact hq2 _ _ m2
  | goto i => exact hq2 _ _ m2
  | panic _ => exact m2
  | outgrown => exact m2

/-- A RANGE OVER AN ITERATOR (outside of others). Inv k: behind k rounds; J: behind a jump out. -/
theorem w_range (hf : f.ev t = .f (.func g) fs caps) (hit : Iter P g fs caps xs Pre) (hps : ∀ x ∈ xs, x.length = ps.length) (Inv : Nat → AState → Prop) (J : AJump → AState → Prop)
    (h0 : Inv 0 ((s.alloc .defd).alloc (.loop .ready none t ps asg body s.n)))
    (hp : ∀ k s', Inv k s' → Pre s') (ha : ∀ k s' o, Inv k s' → Inv k (s'.alloc o)) (hj : ∀ j s' o, J j s' → J j (s'.alloc o))
    (hL : ∀ k s', Inv k s' → s'.get (s.n + 1) = .loop .ready none t ps asg body s.n) (hJ : ∀ j s', J j s' → s'.get (s.n + 1) = .loop .done (some j) t ps asg body s.n)
    (hr : ∀ k (hk : k < xs.length) s', Inv k s' → Round P (s.n + 1) ps asg body t s.n xs[k] (fun j s'' => match j with | none => Inv (k + 1) s'' | some j => J j s'') s')
    (hn : ∀ s', Inv xs.length s' → Q .normal { t := t, d := s.n :: d } (s'.set (s.n + 1) .dead)) (hq : ∀ j s', J j s' → Q j.exitOf { t := t, d := s.n :: d } (s'.set (s.n + 1) .dead)) :
    wp P none (.range f ps asg body) Q { t := t, d := d } s := by
  refine ⟨g, fs, caps, hf, ?_⟩
  refine Runs.mono (hit (s.n + 1) _ Inv (fun s' => ∃ j, J j s') hp ha (fun s' o ⟨j, h⟩ => ⟨j, hj _ _ _ h⟩) (fun k hk s' hI => ?_) h0) ?_
  · exact (hr k hk s' hI).yruns (hL k s' hI) (hps _ (List.getElem_mem hk)) (fun s'' h => .inl ⟨rfl, h⟩) (fun j s'' h => .inr ⟨rfl, j, h⟩)
  · rintro x s' (h | ⟨j, h⟩)
    · exact ⟨_, _, hL _ _ h, by simp, hn _ h⟩
    · exact ⟨_, _, hJ _ _ h, by simp, hq _ _ h⟩

/-- .. inside the round of another -/
theorem w_rangeIn {l0 : Nat} {st0 : LoopState} {pe0 : Option AJump} {t0 : List AV} {ps0 : List Nat} {a0 b0 : ACode} {d0 : Nat} (h00 : s.get l0 = .loop st0 pe0 t0 ps0 a0 b0 d0)
    (hf : f.ev t = .f (.func g) fs caps) (hit : Iter P g fs caps xs Pre) (hps : ∀ x ∈ xs, x.length = ps.length) (Inv : Nat → AState → Prop) (J : AJump → AState → Prop)
    (h0 : Inv 0 (s.alloc (.loop .ready none t ps asg body d0)))
    (hp : ∀ k s', Inv k s' → Pre s') (ha : ∀ k s' o, Inv k s' → Inv k (s'.alloc o)) (hj : ∀ j s' o, J j s' → J j (s'.alloc o))
    (hL : ∀ k s', Inv k s' → s'.get s.n = .loop .ready none t ps asg body d0) (hJ : ∀ j s', J j s' → s'.get s.n = .loop .done (some j) t ps asg body d0)
    (hr : ∀ k (hk : k < xs.length) s', Inv k s' → Round P s.n ps asg body t d0 xs[k] (fun j s'' => match j with | none => Inv (k + 1) s'' | some j => J j s'') s')
    (hn : ∀ s', Inv xs.length s' → Q .normal { t := t, d := d } (s'.set s.n .dead)) (hq : ∀ j s', J j s' → Q j.exitOf { t := t, d := d } (s'.set s.n .dead)) :
    wp P (some l0) (.range f ps asg body) Q { t := t, d := d } s := by
  refine ⟨g, fs, caps, hf, ?_⟩
  refine ⟨_, _, _, _, _, _, _, h00, ?_⟩
  refine Runs.mono (hit s.n _ Inv (fun s' => ∃ j, J j s') hp ha (fun s' o ⟨j, h⟩ => ⟨j, hj _ _ _ h⟩) (fun k hk s' hI => ?_) h0) ?_
  · exact (hr k hk s' hI).yruns (hL k s' hI) (hps _ (List.getElem_mem hk)) (fun s'' h => .inl ⟨rfl, h⟩) (fun j s'' h => .inr ⟨rfl, j, h⟩)
  · rintro x s' (h | ⟨j, h⟩)
    · exact ⟨_, _, hL _ _ h, by simp, hn _ h⟩
    · exact ⟨_, _, hJ _ _ h, by simp, hq _ _ h⟩
end

/-! one round, by its steps: the loop's own object only by name -/
def IsLoop (o : AObj) (d0 : Nat) : Prop := ∃ st pe t ps a b, o = .loop st pe t ps a b d0
def roundB (L : Nat) (LR LB : AObj) (LJ : AJump → AObj) (fin : Option AJump → AState → Prop) : Exit → AAct → AState → Prop := fun e _ s2 => s2.get L = LB ∧
    match e with
    | .normal => fin none (s2.set L LR)
    | .ret => fin (some .ret) (s2.set L (LJ .ret))
    | .exit id => fin (some (.exit id)) (s2.set L (LJ (.exit id)))
    | .goto i => fin (some (.goto i)) (s2.set L (LJ (.goto i)))
    | _ => False
def roundA (P : Program) (L : Nat) (LR LB : AObj) (LJ : AJump → AObj) (body : ACode) (fin : Option AJump → AState → Prop) : Exit → AAct → AState → Prop := fun e a1 s1 =>
  e = .normal ∧ s1.get L = LR ∧ wp P (some L) body (roundB L LR LB LJ fin) a1 (s1.set L LB)
section
variable {L D : Nat} {LR LB : AObj} {LJ : AJump → AObj} {body : ACode} {fin : Option AJump → AState → Prop} {a : AAct} {s s' : AState} {id : Nat}
theorem r_a (hL : s.get L = LR) (hs : s.set L LB = s') (k : wp P (some L) body (roundB L LR LB LJ fin) a s') : roundA P L LR LB LJ body fin .normal a s := ⟨rfl, hL, by rw [hs]; exact k⟩
theorem r_n (hL : s.get L = LB) (hs : s.set L LR = s') (k : fin none s') : roundB L LR LB LJ fin .normal a s := ⟨hL, by rw [← hs] at k; exact k⟩
theorem r_r (hL : s.get L = LB) (hs : s.set L (LJ .ret) = s') (k : fin (some .ret) s') : roundB L LR LB LJ fin .ret a s := ⟨hL, by rw [← hs] at k; exact k⟩
theorem r_e (hL : s.get L = LB) (hs : s.set L (LJ (.exit id)) = s') (k : fin (some (.exit id)) s') : roundB L LR LB LJ fin (.exit id) a s := ⟨hL, by rw [← hs] at k; exact k⟩
theorem r_g (hL : s.get L = LB) (hs : s.set L (LJ (.goto id)) = s') (k : fin (some (.goto id)) s') : roundB L LR LB LJ fin (.goto id) a s := ⟨hL, by rw [← hs] at k; exact k⟩
end

section
variable {α β : Type} {f : Arg} {ps : List Nat} {asg body : ACode} {Q : Exit → AAct → AState → Prop} {d : List Nat} {s : AState} {g : FuncId} {fs caps : List AV} {xs : List (List AV)} {Pre : AState → Prop} {n : Nat} {e : List (Nat × AV)}

/-- how a round ends -/
def Fin (N : Nat) (LR : AObj) (LJ : AJump → AObj) (H : α → AState) (C : α → AState → Prop) (HJ : AJump → β → AState) (CJ : AJump → β → AState → Prop) (defd : Bool) : Option AJump → AState → Prop
  | none, s' => ∃ a, (H a).n = N ∧ Grows ((if defd then (H a).alloc .defd else H a).alloc LR) s' ∧ C a s'
  | some j, s' => ∃ b, (HJ j b).n = N ∧ Grows ((if defd then (HJ j b).alloc .defd else HJ j b).alloc (LJ j)) s' ∧ CJ j b s'

/-- A RANGE OVER AN ITERATOR: behind k rounds the state is H k a, the loop's own objects, and what has come; C: what is known besides. -/
theorem w_rangeG (hf : f.ev (den n e) = .f (.func g) fs caps) (hit : Iter P g fs caps xs Pre) (hps : ∀ x ∈ xs, x.length = ps.length) {m : Nat} (hm : xs.length = m) (H : Nat → α → AState) (C : Nat → α → AState → Prop) (HJ : AJump → β → AState) (CJ : AJump → β → AState → Prop) (a0 : α)
    (h0 : H 0 a0 = s) (hC0 : ∀ s', Grows s s' → C 0 a0 s')
    (hp : ∀ k a s', C k a s' → (H k a).n = s.n → Grows (H k a) s' → Pre s') (hC : ∀ k a s' o, C k a s' → C k a (s'.alloc o)) (hCJ : ∀ j b s' o, CJ j b s' → CJ j b (s'.alloc o))
    (hr : ∀ LR LB LJ, IsLoop LB s.n → ∀ k (hk : k < xs.length) a g', (H k a).n = s.n → C k a (allocs (((H k a).alloc .defd).alloc LR) g') →
      wp P (some (s.n + 1)) asg (roundA P (s.n + 1) LR LB LJ body (Fin s.n LR LJ (H (k + 1)) (C (k + 1)) HJ CJ true)) { t := den n ((ps.zip xs[k]).reverse ++ e), d := [] } (allocs (((H k a).alloc .defd).alloc LR) g'))
    (hn : ∀ LR a g', (H m a).n = s.n → C m a (allocs (((H m a).alloc .defd).alloc LR) g') → Q .normal { t := den n e, d := s.n :: d } (allocs (((H m a).alloc .defd).alloc .dead) g'))
    (hq : ∀ LJ j b g', (HJ j b).n = s.n → CJ j b (allocs (((HJ j b).alloc .defd).alloc LJ) g') → Q j.exitOf { t := den n e, d := s.n :: d } (allocs (((HJ j b).alloc .defd).alloc .dead) g')) :
    wp P none (.range f ps asg body) Q { t := den n e, d := d } s := by
  subst hm
  refine w_range hf hit hps (fun k s' => ∃ a, (H k a).n = s.n ∧ Grows (((H k a).alloc .defd).alloc (.loop .ready none (den n e) ps asg body s.n)) s' ∧ C k a s')
    (fun j s' => ∃ b, (HJ j b).n = s.n ∧ Grows (((HJ j b).alloc .defd).alloc (.loop .done (some j) (den n e) ps asg body s.n)) s' ∧ CJ j b s') ?_ ?_ ?_ ?_ ?_ ?_ ?_ ?_ ?_
  · exact ⟨a0, by rw [h0], by rw [h0]; exact .refl _, hC0 _ (((Grows.refl s).alloc _).alloc _)⟩
  · rintro k s' ⟨a, h1, h2, h3⟩
    exact hp k a s' h3 h1 ((((Grows.refl _).alloc _).alloc _).trans h2)
  · rintro k s' o ⟨a, h1, h2, h3⟩
    exact ⟨a, h1, h2.alloc _, hC _ _ _ _ h3⟩
  · rintro j s' o ⟨a, h1, h2, h3⟩
    exact ⟨a, h1, h2.alloc _, hCJ _ _ _ _ h3⟩
  · rintro k s' ⟨a, h1, h2, h3⟩
    rw [h2.get (by simp [h1])]; exact get_alloc_eq (by simp [h1])
  · rintro k s' ⟨a, h1, h2, h3⟩
    rw [h2.get (by simp [h1])]; exact get_alloc_eq (by simp [h1])
  · rintro k hk s' ⟨a, h1, ⟨g', rfl⟩, h3⟩
    unfold Round
    rw [fillT_den]
    refine wp_mono ?_ (hr _ (.loop .busy none (den n e) ps asg body s.n) (fun j => .loop .done (some j) (den n e) ps asg body s.n) ⟨_, _, _, _, _, _, rfl⟩ k hk a g' h1 h3)
    rintro e' a1 s1 ⟨rfl, k2, k3⟩
    refine ⟨rfl, k2, wp_mono ?_ k3⟩
    rintro e' a2 s2 ⟨m1, m2⟩
    refine ⟨m1, ?_⟩
    cases e' <;> exact m2
  · rintro s' ⟨a, h1, ⟨g', rfl⟩, h3⟩
    have := hn _ a g' h1 h3
    rw [set_allocs _ (by simp [h1]), set_alloc_eq (by simp [h1])]
    exact this
  · rintro j s' ⟨a, h1, ⟨g', rfl⟩, h3⟩
    have := hq _ j a g' h1 h3
    rw [set_allocs _ (by simp [h1]), set_alloc_eq (by simp [h1])]
    exact this

/-- .. inside the round of another -/
theorem w_rangeGI {l0 d0 : Nat} {LO : AObj} (h00 : s.get l0 = LO) (hLO : IsLoop LO d0)
    (hf : f.ev (den n e) = .f (.func g) fs caps) (hit : Iter P g fs caps xs Pre) (hps : ∀ x ∈ xs, x.length = ps.length) {m : Nat} (hm : xs.length = m) (H : Nat → α → AState) (C : Nat → α → AState → Prop) (HJ : AJump → β → AState) (CJ : AJump → β → AState → Prop) (a0 : α)
    (h0 : H 0 a0 = s) (hC0 : ∀ s', Grows s s' → C 0 a0 s')
    (hp : ∀ k a s', C k a s' → (H k a).n = s.n → Grows (H k a) s' → Pre s') (hC : ∀ k a s' o, C k a s' → C k a (s'.alloc o)) (hCJ : ∀ j b s' o, CJ j b s' → CJ j b (s'.alloc o))
    (hr : ∀ LR LB LJ, IsLoop LB d0 → ∀ k (hk : k < xs.length) a g', (H k a).n = s.n → C k a (allocs ((H k a).alloc LR) g') →
      wp P (some s.n) asg (roundA P s.n LR LB LJ body (Fin s.n LR LJ (H (k + 1)) (C (k + 1)) HJ CJ false)) { t := den n ((ps.zip xs[k]).reverse ++ e), d := [] } (allocs ((H k a).alloc LR) g'))
    (hn : ∀ LR a g', (H m a).n = s.n → C m a (allocs ((H m a).alloc LR) g') → Q .normal { t := den n e, d := d } (allocs ((H m a).alloc .dead) g'))
    (hq : ∀ LJ j b g', (HJ j b).n = s.n → CJ j b (allocs ((HJ j b).alloc LJ) g') → Q j.exitOf { t := den n e, d := d } (allocs ((HJ j b).alloc .dead) g')) :
    wp P (some l0) (.range f ps asg body) Q { t := den n e, d := d } s := by
  subst hm
  obtain ⟨st0, pe0, t0, ps0, as0, b0, rfl⟩ := hLO
  refine w_rangeIn h00 hf hit hps (fun k s' => ∃ a, (H k a).n = s.n ∧ Grows ((H k a).alloc (.loop .ready none (den n e) ps asg body d0)) s' ∧ C k a s')
    (fun j s' => ∃ b, (HJ j b).n = s.n ∧ Grows ((HJ j b).alloc (.loop .done (some j) (den n e) ps asg body d0)) s' ∧ CJ j b s') ?_ ?_ ?_ ?_ ?_ ?_ ?_ ?_ ?_
  · exact ⟨a0, by rw [h0], by rw [h0]; exact .refl _, hC0 _ ((Grows.refl s).alloc _)⟩
  · rintro k s' ⟨a, h1, h2, h3⟩
    exact hp k a s' h3 h1 (((Grows.refl _).alloc _).trans h2)
  · rintro k s' o ⟨a, h1, h2, h3⟩
    exact ⟨a, h1, h2.alloc _, hC _ _ _ _ h3⟩
  · rintro j s' o ⟨a, h1, h2, h3⟩
    exact ⟨a, h1, h2.alloc _, hCJ _ _ _ _ h3⟩
  · rintro k s' ⟨a, h1, h2, h3⟩
    rw [h2.get (by simp [h1])]; exact get_alloc_eq (by simp [h1])
  · rintro k s' ⟨a, h1, h2, h3⟩
    rw [h2.get (by simp [h1])]; exact get_alloc_eq (by simp [h1])
  · rintro k hk s' ⟨a, h1, ⟨g', rfl⟩, h3⟩
    unfold Round
    rw [fillT_den]
    refine wp_mono ?_ (hr _ (.loop .busy none (den n e) ps asg body d0) (fun j => .loop .done (some j) (den n e) ps asg body d0) ⟨_, _, _, _, _, _, rfl⟩ k hk a g' h1 h3)
    rintro e' a1 s1 ⟨rfl, k2, k3⟩
    refine ⟨rfl, k2, wp_mono ?_ k3⟩
    rintro e' a2 s2 ⟨m1, m2⟩
    refine ⟨m1, ?_⟩
    cases e' <;> exact m2
  · rintro s' ⟨a, h1, ⟨g', rfl⟩, h3⟩
    have := hn _ a g' h1 h3
    rw [set_allocs _ (by simp [h1]), set_alloc_eq (by simp [h1])]
    exact this
  · rintro j s' ⟨a, h1, ⟨g', rfl⟩, h3⟩
    have := hq _ j a g' h1 h3
    rw [set_allocs _ (by simp [h1]), set_alloc_eq (by simp [h1])]
    exact this
end

/-! ### ending with deferred lists -/
theorem ret_okD {res : List ARes} {Q : AV → AState → Prop} {t : List AV} {s : AState} {D : List Nat} {xs : List AV} (hd : ∀ x ∈ D, s.get x = .defd) (hn : D.Nodup) (h : evRess t (killAll D s) res = some xs) (hq : Q (retVal xs) (killAll D s)) : fnQ res Q .ret { t := t, d := D } s :=
  ⟨hd, hn, xs, h, hq⟩
theorem end_okD {res : List ARes} {Q : AV → AState → Prop} {t : List AV} {s : AState} {D : List Nat} {xs : List AV} (hd : ∀ x ∈ D, s.get x = .defd) (hn : D.Nodup) (h : evRess t (killAll D s) res = some xs) (hq : Q (retVal xs) (killAll D s)) : fnQ res Q .normal { t := t, d := D } s :=
  ⟨hd, hn, xs, h, hq⟩

/-! ### leaves to append -/
/-- xs may be appended to by tk; what the leave hangs on lies above n -/
def May (n : Nat) (s : AState) (xs : List AV) : Tok → Prop
  | .no => False
  | .zero => True
  | .own t => s.get t = .tok ∧ xs.isEmpty = false ∧ n ≤ t
def eat (s : AState) : Tok → AState
  | .own t => s.set t .dead
  | _ => s
theorem May.alloc {n : Nat} {s : AState} {xs : List AV} {tk : Tok} (h : May n s xs tk) (o : AObj) : May n (s.alloc o) xs tk := by
  cases tk with
  | own t => obtain ⟨h1, h2, h3⟩ := h; exact ⟨by rw [AState.get_alloc_old _ _ (AState.lt_of_get h1 (by simp))]; exact h1, h2, h3⟩
  | _ => exact h
theorem May.grows {n : Nat} {s s' : AState} {xs : List AV} {tk : Tok} (h : May n s xs tk) (hg : Grows s s') : May n s' xs tk := by
  cases tk with
  | own t => obtain ⟨h1, h2, h3⟩ := h; exact ⟨by rw [hg.get (AState.lt_of_get h1 (by simp))]; exact h1, h2, h3⟩
  | _ => exact h
theorem May.set {n : Nat} {s : AState} {xs : List AV} {tk : Tok} (h : May n s xs tk) {b : Nat} (o : AObj) (hb : b < n) : May n (s.set b o) xs tk := by
  cases tk with
  | own t => obtain ⟨h1, h2, h3⟩ := h; exact ⟨by rw [AState.get_set_ne _ _ (by omega)]; exact h1, h2, h3⟩
  | _ => exact h
theorem May.swap {N : Nat} {X X' : AState} {g : List AObj} {xs : List AV} {tk : Tok} (hn : X.n = X'.n) (hN : X.n ≤ N) (h : May N (Ab.allocs X g) xs tk) : May N (Ab.allocs X' g) xs tk := by
  cases tk with
  | own t => obtain ⟨h1, h2, h3⟩ := h; exact ⟨by rw [get_allocs_new (by omega)] at h1 ⊢; rw [← hn]; exact h1, h2, h3⟩
  | _ => exact h
theorem May.low {N M : Nat} {s : AState} {xs : List AV} {tk : Tok} (h : May N s xs tk) (hN : M ≤ N) : May M s xs tk := by
  cases tk with
  | own t => obtain ⟨h1, h2, h3⟩ := h; exact ⟨h1, h2, by omega⟩
  | _ => exact h
theorem Grows.eat {n : Nat} {s s' : AState} (h : Grows s s') {xs : List AV} {tk : Tok} (hm : May n s' xs tk) (hn : s.n ≤ n) : Grows s (eat s' tk) := by
  cases tk with
  | own t => obtain ⟨h1, h2, h3⟩ := hm; exact h.set _ (by omega) (AState.lt_of_get h1 (by simp))
  | _ => exact h
@[simp] theorem n_eat (s : AState) (tk : Tok) : (eat s tk).n = s.n := by cases tk <;> rfl
theorem get_eat {n : Nat} {s : AState} {xs : List AV} {tk : Tok} (hm : May n s xs tk) {b : Nat} (h : b < n) : (eat s tk).get b = s.get b := by
  cases tk with
  | own t => obtain ⟨h1, h2, h3⟩ := hm; exact AState.get_set_ne _ _ (by omega)
  | _ => rfl
/-- append, where there is leave -/
theorem exec_append {k bytes : Nat} {a : List AV} {s : AState} {sx sy : Arg} {xs ys : List AV} {tk t2 : Tok} {n : Nat} (hx : sx.ev a = .sl xs tk) (hy : sy.ev a = .sl ys t2) (hm : May n s xs tk) (hne : ys.isEmpty = false)
    (h1 : headK k xs = true) (h2 : ys.all (okRow k) = true) (h3 : (xs.length + ys.length) * bytes ≤ 140737488355328) (h4 : xs.length + ys.length ≤ 4611686018427387904) :
    (AOp.append k bytes sx sy).exec a s = some (.sl (xs ++ ys.map AV.strip) (.own s.n), (eat s tk).alloc .tok) := by
  simp only [AOp.exec, hx, hy, hne, h1, h2, h3, h4]
  cases tk with
  | no => exact hm.elim
  | zero => simp [eat]
  | own t => obtain ⟨m1, m2, m3⟩ := hm; simp [m1, m2, eat]
theorem May.new {n : Nat} {s : AState} {xs ys : List AV} {tk : Tok} (hm : May n s xs tk) (hne : ys.isEmpty = false) (hn : n ≤ s.n) : May n ((eat s tk).alloc .tok) (xs ++ ys) (.own s.n) := by
  refine ⟨?_, ?_, hn⟩
  · rw [← n_eat s tk, AState.get_alloc_new]
  · cases ys <;> simp_all

theorem take_snoc {α β : Type} {f : α → β} {l : List α} {k : Nat} (h : k < l.length) : (l.map f).take (k + 1) = (l.map f).take k ++ [f l[k]] := by
  rw [List.take_succ_eq_append_getElem (by simpa using h)]; simp
/-- deferred lists that ranges have left -/
def Dfs (N : Nat) (s : AState) (ds : List Nat) : Prop := (∀ x ∈ ds, N ≤ x ∧ s.get x = .defd) ∧ ds.Nodup
theorem Dfs.nil (N : Nat) (s : AState) : Dfs N s [] := ⟨(fun x h => by cases h), List.nodup_nil⟩
theorem Dfs.ext {N : Nat} {s s' : AState} {ds : List Nat} (h : Dfs N s ds) (he : s.ext s') : Dfs N s' ds :=
  ⟨fun x hx => ⟨(h.1 x hx).1, by rw [he.2 x (by rw [(h.1 x hx).2]; simp) (by rw [(h.1 x hx).2]; simp)]; exact (h.1 x hx).2⟩, h.2⟩
theorem Dfs.low {N : Nat} {s s' : AState} {ds : List Nat} (h : Dfs N s ds) (he : ∀ x, N ≤ x → s.get x = .defd → s'.get x = .defd) : Dfs N s' ds :=
  ⟨fun x hx => ⟨(h.1 x hx).1, he x (h.1 x hx).1 (h.1 x hx).2⟩, h.2⟩
theorem Dfs.cons {N : Nat} {s : AState} {ds : List Nat} (h : Dfs N s ds) {x : Nat} (h1 : N ≤ x) (h2 : s.get x = .defd) (h3 : ∀ y ∈ ds, y ≠ x) : Dfs N s (x :: ds) :=
  ⟨fun y hy => (List.mem_cons.1 hy).elim (fun e => by subst e; exact ⟨h1, h2⟩) (fun hy => h.1 y hy), List.nodup_cons.2 ⟨fun hx => h3 x hx rfl, h.2⟩⟩
theorem Dfs.lt {N : Nat} {s : AState} {ds : List Nat} (h : Dfs N s ds) {x : Nat} (hx : x ∈ ds) : x < s.n := AState.lt_of_get (h.1 x hx).2 (by simp)
theorem Dfs.swap {N : Nat} {X X' : AState} {g : List AObj} {ds : List Nat} (hn : X.n = X'.n) (hN : X.n ≤ N) (h : Dfs N (Ab.allocs X g) ds) : Dfs N (Ab.allocs X' g) ds :=
  h.low fun x hx h1 => by rw [get_allocs_new (by omega)] at h1 ⊢; rw [← hn]; exact h1
theorem killAll_grows {N : Nat} {B s : AState} : ∀ {ds : List Nat}, Grows B s → B.n ≤ N → Dfs N s ds → Grows B (killAll ds s) := by
  intro ds
  induction ds generalizing s with
  | nil => intro h _ _; exact h
  | cons x ds ih =>
    intro h hN hd
    have hx := hd.1 x (by simp)
    refine ih (h.set .dead (by omega) (AState.lt_of_get hx.2 (by simp))) hN ⟨fun y hy => ?_, (List.nodup_cons.1 hd.2).2⟩
    have hne : y ≠ x := fun e => (List.nodup_cons.1 hd.2).1 (e ▸ hy)
    rw [AState.get_set_ne _ _ hne]
    exact hd.1 y (by simp [hy])
theorem killAll_get {s : AState} {b : Nat} : ∀ {ds : List Nat}, b ∉ ds → (killAll ds s).get b = s.get b := by
  intro ds
  induction ds generalizing s with
  | nil => intro _; rfl
  | cons x ds ih =>
    intro h
    have : (killAll (x :: ds) s) = killAll ds (s.set x .dead) := rfl
    rw [this, ih (fun hb => h (by simp [hb])), AState.get_set_ne _ _ (fun e => h (by simp [e]))]

theorem drop_mid {α : Type} {L R : List α} {x : α} {i : Nat} (h : L.length = i) : (L ++ x :: R).drop i = x :: R := by subst h; simp
theorem take_mid {α : Type} {L R : List α} {x : α} {i : Nat} (h : L.length = i) : (L ++ x :: R).take i = L := by subst h; simp
theorem drop_mid1 {α : Type} {L R : List α} {x : α} {i : Nat} (h : L.length = i) : (L ++ x :: R).drop (i + 1) = R := by
  subst h; rw [List.drop_append]; simp
/-! ### lists that are filtered -/
section
variable {α : Type} {p : α → Bool} {l : List α} {j : Nat}
theorem ftake (h : j < l.length) : (l.take (j + 1)).filter p = (l.take j).filter p ++ (if p l[j] then [l[j]] else []) := by
  rw [List.take_succ_eq_append_getElem h, List.filter_append]
  congr 1
  by_cases e : p l[j] = true <;> simp [e]
theorem fget (h : j < l.length) (hp : p l[j] = true) : ∃ hk : ((l.take j).filter p).length < (l.filter p).length, (l.filter p)[((l.take j).filter p).length] = l[j] := by
  have e : l.filter p = (l.take j).filter p ++ l[j] :: (l.drop (j + 1)).filter p := by
    conv => lhs; rw [← List.take_append_drop j l, List.drop_eq_getElem_cons h]
    rw [List.filter_append, List.filter_cons_of_pos hp]
  refine ⟨by rw [e]; simp, ?_⟩
  simp only [e]
  rw [List.getElem_append_right (Nat.le_refl _)]
  simp
end

theorem o_yld {K : List AV → AState → Prop} {n : Nat} {e : List (Nat × AV)} {s : AState} {d : Nat} {f : Arg} {args : List Arg} {r : List AOper} {l : Nat} {args' : List AV} {Q : AV → AState → Prop} (hf : f.ev (den n e) = .y l)
    (ha : args.map (Arg.ev (den n e)) = args') (h : YRuns cmp P l args' s Q)
    (hk : ∀ x s', Q x s' → AOps cmp P r K (den n ((d, x) :: e)) s') : AOps cmp P (⟨some d, .call f args, none⟩ :: r) K (den n e) s := by
  subst ha; exact o_yield hf h hk

/-- append, where there is leave: what came above B is forgotten, but for what is no leave, and what lies below N -/
theorem o_app {K : List AV → AState → Prop} {n : Nat} {e : List (Nat × AV)} {s B : AState} {d k bytes N : Nat} {sx sy : Arg} {xs ys : List AV} {tk t2 : Tok} {r : List AOper} (hx : sx.ev (den n e) = .sl xs tk) (hy : sy.ev (den n e) = .sl ys t2)
    (hB : Grows B s) (hN : B.n ≤ N) (hN2 : N ≤ s.n) (hm : May N s xs tk) (hne : ys.isEmpty = false) (h1 : headK k xs = true) (h2 : ys.all (okRow k) = true) (h3 : (xs.length + ys.length) * bytes ≤ 140737488355328) (h4 : xs.length + ys.length ≤ 4611686018427387904)
    (hk : ∀ g2 tk2, May N (allocs B g2) (xs ++ ys.map AV.strip) tk2 → (∀ x, x < N → (allocs B g2).get x = s.get x) → s.ext (allocs B g2) → AOps cmp P r K (den n ((d, .sl (xs ++ ys.map AV.strip) tk2) :: e)) (allocs B g2)) : AOps cmp P (⟨some d, .append k bytes sx sy, none⟩ :: r) K (den n e) s := by
  have he := exec_append (a := den n e) hx hy hm hne h1 h2 h3 h4
  obtain ⟨g2, hg2⟩ := (hB.eat hm hN).alloc .tok
  refine o_one (x := _) rfl (by simp only [stepE]; exact he) ?_
  have hm2 := hm.new (ys := ys.map AV.strip) (by cases ys <;> simp_all) hN2
  have hlow : ∀ x, x < N → ((eat s tk).alloc .tok).get x = s.get x := fun x hx => by
    rw [get_alloc_ne (by simp; omega), get_eat hm hx]
  have hext : s.ext ((eat s tk).alloc .tok) := by
    cases tk with
    | own t => exact AState.ext_tok hm.1 _
    | _ => exact AState.ext_alloc _ _
  rw [hg2] at hm2 hlow hext ⊢
  exact hk _ _ hm2 hlow hext
/-- of nothing -/
theorem o_app0 {K : List AV → AState → Prop} {n : Nat} {e : List (Nat × AV)} {s : AState} {d k bytes : Nat} {sx sy : Arg} {xs : List AV} {tk t2 : Tok} {r : List AOper} (hx : sx.ev (den n e) = .sl xs tk) (hy : sy.ev (den n e) = .sl [] t2)
    (hk : AOps cmp P r K (den n ((d, .sl xs tk) :: e)) s) : AOps cmp P (⟨some d, .append k bytes sx sy, none⟩ :: r) K (den n e) s := by
  refine o_one (x := .sl xs tk) (s' := s) rfl ?_ hk
  simp only [stepE, AOp.exec, hx, hy]; simp

/-! ### those that may come behind, by computing -/
def opensE (n : Nat) (e : List (Nat × AV)) (s : AState) : List AOper → Prop
  | [] => True
  | ⟨some d, op, g⟩ :: r => op.isCall = false ∧ stepE ⟨some d, op, g⟩ (den n e) s = some (look n e d, s) ∧ opensE n e s r
  | ⟨none, _, _⟩ :: _ => False
theorem opensE.mem {n : Nat} {e : List (Nat × AV)} {s : AState} : ∀ {l : List AOper}, opensE n e s l → ∀ o ∈ l, o.op.isCall = false ∧ ∃ d, o.dst = some d ∧ stepE o (den n e) s = some (look n e d, s) := by
  intro l
  induction l with
  | nil => intro _ o h; cases h
  | cons x l ih =>
    obtain ⟨xd, op, g⟩ := x
    cases xd with
    | none => intro h; exact h.elim
    | some d =>
      rintro ⟨h1, h2, h3⟩ o ho
      rcases List.mem_cons.1 ho with rfl | ho
      · exact ⟨h1, d, rfl, h2⟩
      · exact ih h3 o ho
theorem Opens.of_E {n : Nat} {e : List (Nat × AV)} {s s' : AState} {opens : List AOper} (h : opensE n e s' opens) : Opens cmp P opens s (den n e) s' := by
  refine .inr (.inr fun o ho => ?_)
  obtain ⟨h1, d, h2, h3⟩ := h.mem o ho
  refine ⟨h1, stepG_of_E h1 h3 ⟨fun d' hd' _ => ?_, rfl⟩⟩
  rw [h2] at hd'; cases hd'
  exact getD_den _ _ _
theorem d_effE {K : List AV → AState → Prop} {n : Nat} {e : List (Nat × AV)} {s s' : AState} {r : List DOper} {x : AV} {op : AOp} {g : Option (Nat × Bool)} {am : Bool} {opens : List AOper} {d : Nat} (hc : op.isCall = false)
    (h : stepE ⟨some d, op, g⟩ (den n e) s = some (x, s')) (ho : opensE n ((d, x) :: e) s' opens) (k : DWalk cmp P r K (den n ((d, x) :: e)) s') : DWalk cmp P (⟨⟨some d, op, g⟩, true, am, opens⟩ :: r) K (den n e) s :=
  d_eff hc h (.of_E ho) k
theorem d_effNE {K : List AV → AState → Prop} {n : Nat} {e : List (Nat × AV)} {s s' : AState} {r : List DOper} {x : AV} {op : AOp} {g : Option (Nat × Bool)} {am : Bool} {opens : List AOper} (hc : op.isCall = false)
    (h : stepE ⟨none, op, g⟩ (den n e) s = some (x, s')) (ho : opensE n e s' opens) (k : DWalk cmp P r K (den n e) s') : DWalk cmp P (⟨⟨none, op, g⟩, true, am, opens⟩ :: r) K (den n e) s :=
  d_effN hc h (.of_E ho) k
attribute [simp] opensE

/-! ### boolean loops -/
theorem all_step {p : Nat → Bool} {i : Nat} (h : ((List.range i).all p) = true) (hp : p i = true) : ((List.range (i + 1)).all p) = true := by
  rw [List.range_succ, List.all_append, h]; simp [hp]
theorem all_stop {p : Nat → Bool} {i n : Nat} (hi : i < n) (hp : p i = false) : ((List.range n).all p) = false := by
  rw [List.all_eq_false]; exact ⟨i, by simpa using hi, by simp [hp]⟩
theorem all_congr {p q : Nat → Bool} {n : Nat} (h : ∀ i, i < n → p i = q i) : ((List.range n).all p) = ((List.range n).all q) := by
  rw [Bool.eq_iff_iff]; simp only [List.all_eq_true, List.mem_range]
  exact ⟨fun k i hi => by rw [← h i hi]; exact k i hi, fun k i hi => by rw [h i hi]; exact k i hi⟩
theorem all_eq {α : Type} [DecidableEq α] [Inhabited α] {l m : List α} (h : l.length = m.length) : ((List.range l.length).all fun i => decide (l.getD i default = m.getD i default)) = decide (l = m) := by
  rw [Bool.eq_iff_iff]; simp only [List.all_eq_true, List.mem_range, decide_eq_true_eq]
  constructor
  · intro k
    apply List.ext_getElem h
    intro i h1 h2
    have := k i h1
    rwa [List.getD_eq_getElem?_getD, List.getElem?_eq_getElem h1, List.getD_eq_getElem?_getD, List.getElem?_eq_getElem h2] at this
  · rintro rfl i _; rfl

/-! ### the steps, of operations without a guard -/
section
variable {K : List AV → AState → Prop} {n : Nat} {e : List (Nat × AV)} {s s' : AState} {r : List AOper} {rd : List DOper} {x : AV} {op : AOp} {am : Bool} {opens : List AOper} {d : Nat}
theorem o_1 (hc : op.isCall = false) (h : op.exec (den n e) s = some (x, s')) (k : AOps cmp P r K (den n ((d, x) :: e)) s') : AOps cmp P (⟨some d, op, none⟩ :: r) K (den n e) s := o_one hc h k
theorem o_0 (hc : op.isCall = false) (h : op.exec (den n e) s = some (x, s')) (k : AOps cmp P r K (den n e) s') : AOps cmp P (⟨none, op, none⟩ :: r) K (den n e) s := o_none hc h k
theorem exec_same {op : AOp} {t : List AV} (hp : (op.pure' || op.reads) = true) (h : op.exec t s = some (x, s')) : s' = s := by
  rcases Bool.or_eq_true _ _ ▸ hp with hp | hp
  · exact (exec_pure hp h).1
  · exact (exec_reads hp h).1
theorem isCall_of {op : AOp} (hp : (op.pure' || op.reads) = true) : op.isCall = false := by cases op <;> first | rfl | (simp [AOp.pure', AOp.reads] at hp)
theorem d_1 (hp : (op.pure' || op.reads) = true) (h : op.exec (den n e) s = some (x, s')) (k : DWalk cmp P rd K (den n ((d, x) :: e)) s') : DWalk cmp P (⟨⟨some d, op, none⟩, false, am, opens⟩ :: rd) K (den n e) s := by
  have := exec_same hp h; subst this; exact d_one (isCall_of hp) h k
theorem d_0 (hp : (op.pure' || op.reads) = true) (h : op.exec (den n e) s = some (x, s')) (k : DWalk cmp P rd K (den n e) s') : DWalk cmp P (⟨⟨none, op, none⟩, false, am, opens⟩ :: rd) K (den n e) s := by
  have := exec_same hp h; subst this; exact d_none (isCall_of hp) h k
theorem d_E (hc : op.isCall = false) (h : op.exec (den n e) s = some (x, s')) (ho : opensE n ((d, x) :: e) s' opens) (k : DWalk cmp P rd K (den n ((d, x) :: e)) s') : DWalk cmp P (⟨⟨some d, op, none⟩, true, am, opens⟩ :: rd) K (den n e) s := d_effE hc h ho k
theorem d_E0 (hc : op.isCall = false) (h : op.exec (den n e) s = some (x, s')) (ho : opensE n e s' opens) (k : DWalk cmp P rd K (den n e) s') : DWalk cmp P (⟨⟨none, op, none⟩, true, am, opens⟩ :: rd) K (den n e) s := d_effNE hc h ho k
end

theorem d_yld {K : List AV → AState → Prop} {n : Nat} {e : List (Nat × AV)} {s : AState} {d : Nat} {f : Arg} {args : List Arg} {r : List DOper} {l : Nat} {args' : List AV} {Q : AV → AState → Prop} {am : Bool} (hf : f.ev (den n e) = .y l)
    (ha : args.map (Arg.ev (den n e)) = args') (h : YRuns cmp P l args' s Q)
    (hk : ∀ x s', Q x s' → DWalk cmp P r K (den n ((d, x) :: e)) s') : DWalk cmp P (⟨⟨some d, .call f args, none⟩, true, am, []⟩ :: r) K (den n e) s := by
  subst ha; exact d_yield hf h fun x s' hq => ⟨.inl rfl, hk x s' hq⟩

theorem o_mksl {K : List AV → AState → Prop} {n : Nat} {e : List (Nat × AV)} {s : AState} {d bytes : Nat} {z : List AV} {lx : Arg} {k : IntKind} {m : Int} {r : List AOper} (hx : lx.ev (den n e) = .v (.int k m))
    (h : 0 ≤ m ∧ m * bytes ≤ 140737488355328 ∧ m ≤ 4611686018427387904) (hk : AOps cmp P r K (den n ((d, .ms s.n 0 m.toNat) :: e)) (s.alloc (.cells (List.replicate m.toNat z).flatten))) :
    AOps cmp P (⟨some d, .mksl z bytes lx, none⟩ :: r) K (den n e) s := by
  refine o_1 rfl ?_ hk
  simp only [AOp.exec]
  split
  · rename_i k' m' he
    rw [hx] at he; cases he
    rw [if_pos h]
  · rename_i hne; exact absurd hx (hne _ _)

end Go.Ab
