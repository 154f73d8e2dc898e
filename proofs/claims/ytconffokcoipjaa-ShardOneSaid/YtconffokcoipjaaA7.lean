/- The model does what 'exec' says, operation by operation: those that need no memory. -/
import Derived.Test.YtconffokcoipjaaA6
namespace Go.Ab
open Go.RowKit
set_option linter.unusedVariables false
set_option linter.unusedSimpArgs false

variable {cmp : Code → Option ACode} {P : Program}

/-- the operands' values are as the abstract ones -/
def Ev (c : Cx) (t : List AV) (ρ : Operand → Value) : Prop := ∀ x y, cArg x = some y → R c (y.ev t) (ρ x)

def OpOk (cmp : Code → Option ACode) (P : Program) (o : Oper) (t : List AV) (s : AState) (x : AV) (s' : AState) : Prop :=
  ∀ (c : Cx) (w : World) (ρ : Operand → Value), Rel cmp c s w → Ev c t ρ → ∃ v w' c',
    ((execOp ρ o).run P w = .ok (.value v) w' ∨ ((execOp ρ o).run P w = .ok .skip w' ∧ v = undef)) ∧ Ext c s w c' s' w' ∧ Rel cmp c' s' w' ∧ R c' x v

theorem OpOk.pure {o : Oper} {t : List AV} {s : AState} {x : AV}
    (h : ∀ (c : Cx) (w : World) (ρ : Operand → Value), Rel cmp c s w → Ev c t ρ → ∃ v, (execOp ρ o).run P w = .ok (.value v) w ∧ R c x v) : OpOk cmp P o t s x s := by
  intro c w ρ hr ht
  obtain ⟨v, h1, h2⟩ := h c w ρ hr ht
  exact ⟨v, w, c, .inl h1, .refl c s w, hr, h2⟩

theorem int?_inv {c : Cx} {x : AV} {n : Int} {y : Value} (h : R c x y) (hi : x.int? = some n) : ∃ k, y = .int k n := by
  cases x <;> simp [AV.int?] at hi
  rename_i u
  cases u <;> simp at hi
  subst hi
  exact ⟨_, h.v_inv⟩

theorem RL_args {c : Cx} {t : List AV} {ρ : Operand → Value} (ht : Ev c t ρ) : ∀ {xs : List Operand} {ys : List Arg}, xs.mapM cArg = some ys → RL c (ys.map (Arg.ev t)) (xs.map ρ) := by
  intro xs
  induction xs with
  | nil => intro ys h; simp at h; subst h; exact RL.nil c
  | cons x xs ih =>
    intro ys h
    simp only [List.mapM_cons, bind, Option.bind_eq_some_iff] at h
    obtain ⟨y, hy, ys', hys, h⟩ := h
    cases h
    exact RL.cons (ht _ _ hy) (ih hys)

theorem cArgs_ev {c : Cx} {t : List AV} {ρ : Operand → Value} (ht : Ev c t ρ) {xs : Array Operand} {ys : List Arg} (h : cArgs xs = some ys) : RL c (ys.map (Arg.ev t)) ((xs.map ρ).toList) := by
  rw [Array.toList_map]; exact RL_args ht h

section
variable {o : Oper} {t : List AV} {s : AState}

theorem ok_mov {x : Operand} {y : Arg} (ho : o.op = .move x ∨ o.op = .assign x) (h : cArg x = some y) : OpOk cmp P o t s (y.ev t) s :=
  .pure fun c w ρ hr ht => ⟨ρ x, by rcases ho with ho | ho <;> simp [execOp, ho], ht _ _ h⟩

theorem ok_pick {x y z : Operand} {x' y' z' : Arg} (ho : o.op = .pick x y z) (h1 : cArg x = some x') (h2 : cArg y = some y') (h3 : cArg z = some z') {b : Bool} (hb : x'.ev t = .v (.bool b)) :
    OpOk cmp P o t s (if b then y'.ev t else z'.ev t) s :=
  .pure fun c w ρ hr ht => by
    have := ht _ _ h1
    rw [hb] at this
    refine ⟨if b then ρ y else ρ z, by cases b <;> simp [execOp, ho, this.v_inv, asBool], ?_⟩
    split
    · exact ht _ _ h2
    · exact ht _ _ h3

theorem ok_nilck {x : Operand} {y : Arg} (ho : o.op = .nilCheck x) (h : cArg x = some y)
    (hy : (∃ b off, y.ev t = .p b off) ∨ (∃ cs off, y.ev t = .q cs off) ∨ (∃ l, y.ev t = .y l) ∨ (∃ g fs caps, y.ev t = .f (.func g) fs caps)) : OpOk cmp P o t s (y.ev t) s :=
  .pure fun c w ρ hr ht => by
    have hx := ht _ _ h
    have : ∀ v, ρ x = v → (∃ a, v = .pointer (some a)) ∨ (∃ l a b, v = .func (.yield l) a b) ∨ (∃ g a b, v = .func (.func g) a b) → (execOp ρ o).run P w = .ok (.value v) w := by
      intro v hv hc
      simp only [execOp, ho]
      rw [hv]
      rcases hc with ⟨a, rfl⟩ | ⟨l, a, b, rfl⟩ | ⟨g, a, b, rfl⟩ <;> rfl
    refine ⟨ρ x, this _ rfl ?_, hx⟩
    generalize ρ x = v at hx
    rcases hy with ⟨b, off, e⟩ | ⟨cs, off, e⟩ | ⟨l, e⟩ | ⟨g, fs, caps, e⟩ <;> rw [e] at hx <;> cases hx
    · exact .inl ⟨_, rfl⟩
    · exact .inl ⟨_, rfl⟩
    · exact .inr (.inl ⟨_, _, _, rfl⟩)
    · exact .inr (.inr ⟨_, _, _, rfl⟩)

theorem eqGuard_scalar {op : BinOp} {ty : TypeId} {x y : Operand} {a b : Value} (h1 : a ≠ .nilIface ∨ b ≠ .nilIface) (h2 : (∀ cs, a ≠ .agg cs) ∨ ∀ cs, b ≠ .agg cs) (w : World) :
    (eqGuard op ty x y a b).run P w = .ok () w := by
  cases a with
  | nilIface => cases b with
    | nilIface => simp at h1
    | _ => unfold eqGuard; split <;> rfl
  | agg cs => cases b with
    | agg cs => simp at h2
    | _ => unfold eqGuard; split <;> rfl
  | _ => unfold eqGuard; split <;> rfl

theorem ok_bin {op : BinOp} {ty ty2 : TypeId} {x y : Operand} {x' y' : Arg} (ho : o.op = .binOp op ty x y ty2) (h1 : cArg x = some x') (h2 : cArg y = some y') {u v r : Value}
    (hu : x'.ev t = .v u) (hv : y'.ev t = .v v) (hr : binV op u v = some r) : OpOk cmp P o t s (.v r) s :=
  .pure fun c w ρ _ ht => by
    have e1 := ht _ _ h1
    have e2 := ht _ _ h2
    rw [hu] at e1
    rw [hv] at e2
    refine ⟨r, ?_, .v r⟩
    have e1 := e1.v_inv
    have e2 := e2.v_inv
    have hne : (u ≠ .nilIface ∨ v ≠ .nilIface) ∧ ((∀ cs, u ≠ .agg cs) ∨ ∀ cs, v ≠ .agg cs) := by
      cases u <;> cases v <;> simp [binV] at hr ⊢
    simp only [execOp, ho, e1, e2, Sem.run_bind, eqGuard_scalar hne.1 hne.2, Result.andThen_ok, run_binV hr, Sem.run_pure]

theorem ok_un {op : UnOp} {ty : TypeId} {x : Operand} {x' : Arg} (ho : o.op = .unOp op ty x) (h1 : cArg x = some x') {u r : Value}
    (hu : x'.ev t = .v u) (hr : unV op u = some r) : OpOk cmp P o t s (.v r) s :=
  .pure fun c w ρ _ ht => by
    have e1 := ht _ _ h1
    rw [hu] at e1
    exact ⟨r, by simp only [execOp, ho, e1.v_inv, Sem.run_bind, run_unV hr, Result.andThen_ok, Sem.run_pure], .v r⟩

theorem ok_conv {src dst : TypeId} {x : Operand} {x' : Arg} (ho : o.op = .convert src dst x) (h1 : cArg x = some x') {k k' k0 : IntKind} {n : Int} (hs : P.underlying src = some (.int k0)) (hd : P.underlying dst = some (.int k))
    (hu : x'.ev t = .v (.int k' n)) : OpOk cmp P o t s (.v (.int k (k.wrap n))) s :=
  .pure fun c w ρ _ ht => by
    have e1 := ht _ _ h1
    rw [hu] at e1
    refine ⟨.int k (k.wrap n), ?_, .v _⟩
    simp [execOp, ho, e1.v_inv, convert, run_underlying hs, run_underlying hd, Conv.intToInt]

theorem ok_convS {src dst : TypeId} {x : Operand} {x' : Arg} (ho : o.op = .convert src dst x) (h1 : cArg x = some x') (hs : P.underlying src = some .string) (hd : P.underlying dst = some .string)
    {b : ByteArray} (hu : x'.ev t = .v (.string b)) : OpOk cmp P o t s (x'.ev t) s :=
  .pure fun c w ρ _ ht => by
    have e1 := ht _ _ h1
    refine ⟨ρ x, ?_, e1⟩
    rw [hu] at e1
    simp [execOp, ho, e1.v_inv, convert, run_underlying hs, run_underlying hd]

theorem ok_mki {ty : TypeId} {x : Operand} {x' : Arg} (ho : o.op = .makeInterface ty x) (h1 : cArg x = some x') (hc : P.concrete ty = true) {u : Value} (hu : x'.ev t = .v u) : OpOk cmp P o t s (.v (.iface ty u)) s :=
  .pure fun c w ρ _ ht => by
    have e1 := ht _ _ h1
    rw [hu] at e1
    exact ⟨.iface ty u, by simp [execOp, ho, e1.v_inv, run_makeInterface _ _ _ hc], .v _⟩

theorem ok_mkf {fn : Fn} {fs caps : Array Operand} {fs' caps' : List Arg} (ho : o.op = .makeFunc fn fs caps) (h1 : cArgs fs = some fs') (h2 : cArgs caps = some caps') :
    OpOk cmp P o t s (.f fn (fs'.map (Arg.ev t)) (caps'.map (Arg.ev t))) s :=
  .pure fun c w ρ _ ht => by
    have e1 := cArgs_ev ht h1
    have e2 := cArgs_ev ht h2
    refine ⟨.func fn (fs.map ρ) (caps.map ρ), by simp [execOp, ho, Instr.makeFunc], ?_⟩
    have := R.f (c := c) fn _ _ _ _ e1.1 e1.2 e2.1 e2.2
    rwa [Array.toArray_toList, Array.toArray_toList] at this

theorem ok_extract {x : Operand} {x' : Arg} {i : Nat} (ho : o.op = .extract x i) (h1 : cArg x = some x') {vs : List AV} (hu : x'.ev t = .tup vs) (hi : i < vs.length) : OpOk cmp P o t s (vs.getD i .any) s :=
  .pure fun c w ρ _ ht => by
    have e1 := ht _ _ h1
    rw [hu] at e1
    obtain ⟨us, hus, h⟩ := e1.tup_inv
    refine ⟨us.getD i undef, ?_, h.get i⟩
    have hi' : i < us.length := by rw [h.1]; exact hi
    simp [execOp, ho, hus, Instr.extract, hi', List.getD_eq_getElem?_getD]

theorem mm_ints {c : Cx} (mx : Bool) (w : World) (k : IntKind) : ∀ (rest : List AV) (us : List Value) (n r : Int), RL c rest us → mmV mx n rest = some r →
    (us.foldlM (if mx then Builtin.max2 else Builtin.min2) (.int k n)).run P w = .ok (.int k r) w := by
  intro rest
  induction rest with
  | nil =>
    intro us n r hu h
    have := hu.nil_inv
    subst this
    simp [mmV] at h
    simp [h]
  | cons x rest ih =>
    intro us n r hu h
    obtain ⟨u, us, rfl, hx, ht⟩ := hu.cons_inv
    · cases x with
      | v y =>
        cases y with
        | int k' m =>
          simp only [mmV] at h
          have := hx.v_inv
          subst this
          cases mx
          · simp only [Bool.false_eq_true, if_false] at h ⊢
            rw [List.foldlM_cons]
            simp only [Sem.run_bind, Builtin.min2, Sem.run_pure, Result.andThen_ok]
            exact ih us _ r ht h
          · simp only [if_true] at h ⊢
            rw [List.foldlM_cons]
            simp only [Sem.run_bind, Builtin.max2, Sem.run_pure, Result.andThen_ok]
            exact ih us _ r ht h
        | _ => simp [mmV] at h
      | _ => simp [mmV] at h

theorem ok_mm {mx : Bool} {cl : Call} {xs : List Arg} (ho : o.op = .call cl) (hc : cl.callee = .builtin (if mx then .max else .min)) (h1 : cArgs cl.args = some xs) {k : IntKind} {n r : Int} {rest : List AV}
    (hx : xs.map (Arg.ev t) = .v (.int k n) :: rest) (hr : mmV mx n rest = some r) : OpOk cmp P o t s (.v (.int k r)) s :=
  .pure fun c w ρ _ ht => by
    have e1 := cArgs_ev ht h1
    rw [hx] at e1
    refine ⟨.int k r, ?_, .v _⟩
    obtain ⟨u, us, hus, hu, hrest⟩ := e1.cons_inv
    have hu := hu.v_inv
    subst hu
    have := mm_ints (P := P) mx w k rest us n r hrest hr
    cases mx
    · simp only [Bool.false_eq_true, if_false] at hc this
      simp only [execOp, ho, resolve, hc, invoke, builtin, Builtin.min_, hus, Sem.run_bind, Sem.run_pure, Result.andThen_ok, this]
    · simp only [if_true] at hc this
      simp only [execOp, ho, resolve, hc, invoke, builtin, Builtin.max_, hus, Sem.run_bind, Sem.run_pure, Result.andThen_ok, this]

end
end Go.Ab
