/- '==' on structs of numbers, bools, strings; then: whatever 'exec' does the model does. -/
import Derived.Test.YtconffokcoipjaaB3
namespace Go.Ab
open Go.RowKit
set_option linter.unusedVariables false
set_option linter.unusedSimpArgs false

variable {cmp : Code → Option ACode} {P : Program}

def valsEq : List SKd → List Value → List Value → Option Bool
  | [], [], [] => some true
  | k :: ks, a :: xs, b :: ys => match litEq k a b, valsEq ks xs ys with
    | some r, some r' => some (r && r')
    | _, _ => none
  | _, _, _ => none

theorem cellsEq_vals {c : Cx} : ∀ {ks : List SKd} {xs ys : List AV} {us vs : List Value} {r : Bool}, RL c xs us → RL c ys vs → cellsEq ks xs ys = some r → valsEq ks us vs = some r := by
  intro ks
  induction ks with
  | nil =>
    intro xs ys us vs r h1 h2 h
    cases xs <;> cases ys <;> try (simp [cellsEq] at h; done)
    obtain rfl := h1.nil_inv; obtain rfl := h2.nil_inv; simpa [cellsEq, valsEq] using h
  | cons k ks ih =>
    intro xs ys us vs r h1 h2 h
    cases xs with
    | nil => simp [cellsEq] at h
    | cons x xs =>
      cases ys with
      | nil => cases x <;> simp [cellsEq] at h
      | cons y ys =>
        obtain ⟨u, us, rfl, h1, h1'⟩ := h1.cons_inv
        obtain ⟨v, vs, rfl, h2, h2'⟩ := h2.cons_inv
        cases x <;> try (simp [cellsEq] at h; done)
        cases y <;> try (simp [cellsEq] at h; done)
        simp only [cellsEq] at h
        split at h
        · rename_i e1 e2
          injection h with h
          rw [h1.v_inv, h2.v_inv, valsEq, e1, ih h1' h2' e2, ← h]
        · cases h

theorem valsEq_len : ∀ {ks : List SKd} {xs ys : List Value} {r : Bool}, valsEq ks xs ys = some r → xs.length = ks.length ∧ ys.length = ks.length := by
  intro ks
  induction ks with
  | nil => intro xs ys r h; cases xs <;> cases ys <;> simp [valsEq] at h ⊢
  | cons k ks ih =>
    intro xs ys r h
    cases xs <;> cases ys <;> try (simp [valsEq] at h; done)
    simp only [valsEq] at h
    split at h
    · rename_i e1 e2
      have := ih e2
      simp [this]
    · cases h

theorem valsEq_append : ∀ (ks ks' : List SKd) (xs ys : List Value) (r : Bool), valsEq (ks ++ ks') xs ys = some r →
    ∃ r1 r2, valsEq ks (xs.take ks.length) (ys.take ks.length) = some r1 ∧ valsEq ks' (xs.drop ks.length) (ys.drop ks.length) = some r2 ∧ r = (r1 && r2) := by
  intro ks
  induction ks with
  | nil => intro ks' xs ys r h; exact ⟨true, r, by simp [valsEq], by simpa using h, by simp⟩
  | cons k ks ih =>
    intro ks' xs ys r h
    cases xs <;> cases ys <;> try (simp [valsEq] at h; done)
    simp only [List.cons_append, valsEq] at h
    split at h
    · rename_i r1 r2 e1 e2
      injection h with h
      obtain ⟨s1, s2, g1, g2, g3⟩ := ih ks' _ _ r2 e2
      refine ⟨r1 && s1, s2, ?_, by simpa using g2, by rw [← h, g3, Bool.and_assoc]⟩
      simp [valsEq, e1, g1]
    · cases h

def asT (ag : Bool) (xs : List Value) : Value := if ag then .agg xs.toArray else xs.getD 0 undef

theorem eqFlat_agg {d : Nat} {t : TypeId} {ks : List SKd} (h : eqFlat P d t = some ks) : ∃ ag, aggOf P t = some ag ∧ (ag = true ∨ ks.length = 1) := by
  cases d with
  | zero => simp [eqFlat] at h
  | succ d =>
    simp only [eqFlat] at h
    split at h
    · rename_i hu
      split at h
      · injection h with h; subst h; exact ⟨false, by simp [aggOf, hu], .inr rfl⟩
      · cases h
    · rename_i hu
      split at h
      · injection h with h; subst h; exact ⟨false, by simp [aggOf, hu], .inr rfl⟩
      · cases h
    · rename_i hu
      split at h
      · injection h with h; subst h; exact ⟨false, by simp [aggOf, hu], .inr rfl⟩
      · cases h
    · rename_i hu
      exact ⟨true, by simp [aggOf, hu], .inl rfl⟩
    · cases h

theorem eqFlat_ok : ∀ (d : Nat) (t : TypeId) (ks : List SKd), eqFlat P d t = some ks → ∀ (n : Nat) (w : World) (xs ys : List Value) (r : Bool) (ag : Bool), aggOf P t = some ag → valsEq ks xs ys = some r →
    (Op.equalIn (d + n) t (asT ag xs) (asT ag ys)).run P w = .ok r w := by
  intro d
  induction d with
  | zero => intro t ks h; simp [eqFlat] at h
  | succ d ih =>
    intro t ks h n w xs ys r ag hag hv
    have hd : d + 1 + n = (d + n) + 1 := by omega
    rw [hd]
    simp only [eqFlat] at h
    split at h
    · rename_i k0 hu
      split at h
      · injection h with h; subst h
        have : ag = false := by simp [aggOf, hu] at hag; exact hag
        subst this
        obtain ⟨l1, l2⟩ := valsEq_len hv
        match xs, ys, l1, l2 with
        | [a], [b], _, _ =>
          simp only [valsEq] at hv
          cases a <;> try (simp [litEq] at hv; done)
          cases b <;> try (simp [litEq] at hv; done)
          simp only [litEq] at hv
          split at hv
          · rename_i r1 r2 e1 e2
            split at e1
            · rename_i e3
              injection e1 with e1; injection e2 with e2; injection hv with hv
              subst e1 e2 hv e3
              simp only [asT, Bool.false_eq_true, if_false, Bool.and_true]
              exact run_equalIn_int w _ t _ _ _ _ hu
            · cases e1
          · cases hv
      · cases h
    · rename_i hu
      split at h
      · injection h with h; subst h
        have : ag = false := by simp [aggOf, hu] at hag; exact hag
        subst this
        obtain ⟨l1, l2⟩ := valsEq_len hv
        match xs, ys, l1, l2 with
        | [a], [b], _, _ =>
          simp only [valsEq] at hv
          cases a <;> try (simp [litEq] at hv; done)
          cases b <;> try (simp [litEq] at hv; done)
          simp only [litEq, Option.some.injEq, Bool.and_true] at hv
          subst hv
          exact run_equalIn_bool w _ t _ _ hu
      · cases h
    · rename_i hu
      split at h
      · injection h with h; subst h
        have : ag = false := by simp [aggOf, hu] at hag; exact hag
        subst this
        obtain ⟨l1, l2⟩ := valsEq_len hv
        match xs, ys, l1, l2 with
        | [a], [b], _, _ =>
          simp only [valsEq] at hv
          cases a <;> try (simp [litEq] at hv; done)
          cases b <;> try (simp [litEq] at hv; done)
          simp only [litEq, Option.some.injEq, Bool.and_true] at hv
          subst hv
          simp only [asT, Bool.false_eq_true, if_false, List.getD_cons_zero, strEq]
          rw [run_equalIn_string w (d + n) t _ _ hu, ByteArray.toList_eq, ByteArray.toList_eq]
      · cases h
    · rename_i fs hu
      split at h
      · cases h
      · rename_i hst
        have : ag = true := by simp [aggOf, hu] at hag; exact hag
        subst this
        have hf : P.fieldsOf t = fs := by simp [Program.fieldsOf, hu]
        simp only [asT, if_true]
        rw [run_equalIn_struct w _ t _ _ (by rw [hf]; exact hu) (by simpa using hst), hf]
        -- over the fields
        have key : ∀ (l : List Field) (acc ks : List SKd), l.foldlM (fun (acc : List SKd) (f : Field) => match eqFlat P d f.type with
            | some ks => if f.name ≠ "_" ∧ f.offset = acc.length ∧ kOf P f.type = some ks.length then some (acc ++ ks) else none
            | none => none) acc = some ks → ∃ ks', ks = acc ++ ks' ∧ ∀ (r : Bool), valsEq ks' (xs.drop acc.length) (ys.drop acc.length) = some r → acc.length ≤ xs.length → acc.length ≤ ys.length →
              (Op.eqFields (d + n) xs.toArray ys.toArray l).run P w = .ok r w := by
          intro l
          induction l with
          | nil =>
            intro acc ks h
            simp at h
            subst h
            refine ⟨[], by simp, fun r hr _ _ => ?_⟩
            obtain ⟨l1, l2⟩ := valsEq_len hr
            rw [List.eq_nil_of_length_eq_zero l1, List.eq_nil_of_length_eq_zero l2] at hr
            simp only [valsEq, Option.some.injEq] at hr
            subst hr
            simp [Op.eqFields]
          | cons f l ihl =>
            intro acc ks h
            simp only [List.foldlM_cons, bind, Option.bind_eq_some_iff] at h
            obtain ⟨acc', h1, h2⟩ := h
            split at h1
            · rename_i kf hkf
              split at h1
              · rename_i hc
                obtain ⟨hname, hoff, hsz⟩ := hc
                injection h1 with h1
                subst h1
                obtain ⟨ks'', rfl, hks⟩ := ihl _ _ h2
                refine ⟨kf ++ ks'', by simp, fun r hr hl1 hl2 => ?_⟩
                obtain ⟨r1, r2, g1, g2, rfl⟩ := valsEq_append kf ks'' _ _ r hr
                obtain ⟨agf, ha, hak⟩ := eqFlat_agg hkf
                obtain ⟨m1, m2⟩ := valsEq_len hr
                simp only [List.length_drop, List.length_append] at m1 m2
                have p1 := run_part (P := P) ha hsz hak (us := xs) (off := f.offset) (by omega) w
                have p2 := run_part (P := P) ha hsz hak (us := ys) (off := f.offset) (by omega) w
                have hv1 : ∀ zs : List Value, (if agf = true then Value.agg ((zs.drop f.offset).take kf.length).toArray else zs.getD f.offset undef) = asT agf ((zs.drop acc.length).take kf.length) := by
                  intro zs
                  rw [hoff]
                  cases agf with
                  | true => simp [asT]
                  | false =>
                    have : kf.length = 1 := by simpa using hak
                    simp only [Bool.false_eq_true, if_false, asT, this]
                    simp [List.getD_eq_getElem?_getD, List.getElem?_take]
                have heq := ih f.type kf hkf n w _ _ r1 agf ha g1
                have hrest := hks r2 (by simpa [Nat.add_comm, List.drop_drop] using g2) (by simp; omega) (by simp; omega)
                simp only [Op.eqFields]
                rw [if_pos hname]
                simp only [Sem.run_bind, p1, p2, Result.andThen_ok, hv1, heq]
                cases r1
                · simp
                · simpa using hrest
              · cases h1
            · cases h1
        obtain ⟨ks', e, hk⟩ := key fs.toList [] ks h
        simp only [List.nil_append] at e
        subst e
        exact hk r (by simpa using hv) (by simp) (by simp)
    · cases h

section
variable {o : Oper} {t : List AV} {s : AState}

theorem eqGuard_flat {ty : TypeId} {op : BinOp} {x y : Operand} {a b : Array Value} (h : P.eqGuardType P.depth ty = false) (w : World) : (eqGuard op ty x y (.agg a) (.agg b)).run P w = .ok () w := by
  unfold eqGuard
  split <;> simp [h]

theorem ok_eqa_agg {neg : Bool} {ty ty2 : TypeId} {x y : Operand} {x' y' : Arg} {ks : List SKd} (ho : o.op = .binOp (if neg then .neq else .eql) ty x y ty2) (h1 : cArg x = some x') (h2 : cArg y = some y') {fs : Array Field} (hu : P.underlying ty = some (.struct fs))
    (hf : eqFlat P 10 ty = some ks) (hg : P.eqGuardType P.depth ty = false) {xs ys : List AV} (hx : x'.ev t = .agg xs) (hy : y'.ev t = .agg ys) {r : Bool} (hr : cellsEq ks xs ys = some r) :
    OpOk cmp P o t s (.v (.bool (if neg then !r else r))) s :=
  .pure fun c w ρ _ ht => by
    have e1 := ht _ _ h1
    have e2 := ht _ _ h2
    rw [hx] at e1
    rw [hy] at e2
    obtain ⟨us, hus, g1⟩ := e1.agg_inv
    obtain ⟨vs, hvs, g2⟩ := e2.agg_inv
    have hv := cellsEq_vals g1 g2 hr
    have hag : aggOf P ty = some true := by simp [aggOf, hu]
    have heq := eqFlat_ok (P := P) 10 ty ks hf 9990 w us vs r true hag hv
    simp only [asT, if_true] at heq
    have heq' : (Op.equal ty (.agg us.toArray) (.agg vs.toArray)).run P w = .ok r w := heq
    refine ⟨.bool (if neg then !r else r), ?_, .v _⟩
    cases neg
    · simp only [Bool.false_eq_true, if_false] at ho ⊢
      simp only [execOp, ho, hus, hvs, Sem.run_bind, eqGuard_flat hg, Result.andThen_ok, binOp, heq', Sem.run_pure]
    · simp only [if_true] at ho ⊢
      simp only [execOp, ho, hus, hvs, Sem.run_bind, eqGuard_flat hg, Result.andThen_ok, binOp, heq', Sem.run_pure]

theorem ok_eqa_bool {neg : Bool} {ty ty2 : TypeId} {x y : Operand} {x' y' : Arg} (ho : o.op = .binOp (if neg then .neq else .eql) ty x y ty2) (h1 : cArg x = some x') (h2 : cArg y = some y') (hu : P.underlying ty = some .bool)
    {a b : Bool} (hx : x'.ev t = .v (.bool a)) (hy : y'.ev t = .v (.bool b)) : OpOk cmp P o t s (.v (.bool (if neg then !(a == b) else (a == b)))) s :=
  .pure fun c w ρ _ ht => by
    have e1 := ht _ _ h1
    have e2 := ht _ _ h2
    rw [hx] at e1
    rw [hy] at e2
    have e1 := e1.v_inv
    have e2 := e2.v_inv
    refine ⟨.bool (if neg then !(a == b) else (a == b)), ?_, .v _⟩
    cases neg
    · simp only [Bool.false_eq_true, if_false] at ho ⊢
      simp only [execOp, ho, e1, e2, Sem.run_bind, eqGuard_scalar (a := .bool a) (b := .bool b) (.inl (by simp)) (.inl (fun cs => by simp)), Result.andThen_ok, run_eql_bool w ty _ _ hu, Sem.run_pure]
    · simp only [if_true] at ho ⊢
      simp only [execOp, ho, e1, e2, Sem.run_bind, eqGuard_scalar (a := .bool a) (b := .bool b) (.inl (by simp)) (.inl (fun cs => by simp)), Result.andThen_ok, run_neq_bool w ty _ _ hu, Sem.run_pure]

theorem ok_eqa_ptr {neg : Bool} {ty ty2 e : TypeId} {x y : Operand} {x' y' : Arg} (ho : o.op = .binOp (if neg then .neq else .eql) ty x y ty2) (h1 : cArg x = some x') (h2 : cArg y = some y') (hu : P.underlying ty = some (.pointer e))
    {r : Bool} (hr : eqAV .ptr (x'.ev t) (y'.ev t) = some r) : OpOk cmp P o t s (.v (.bool (if neg then !r else r))) s :=
  .pure fun c w ρ _ ht => by
    have e1 := ht _ _ h1
    have e2 := ht _ _ h2
    have hcase : ∃ a b : Option Addr, ρ x = .pointer a ∧ ρ y = .pointer b ∧ ((a = none ∧ r = b.isNone) ∨ ((∃ a', a = some a') ∧ b = none ∧ r = false)) := by
      generalize x'.ev t = u at e1 hr
      generalize y'.ev t = v at e2 hr
      unfold eqAV at hr
      split at hr
      · contradiction
      · contradiction
      · injection hr with hr
        exact ⟨none, none, e1.v_inv, e2.v_inv, .inl ⟨rfl, by simp [← hr]⟩⟩
      · injection hr with hr
        exact ⟨none, _, e1.v_inv, e2.p_inv.1, .inl ⟨rfl, by simp [← hr]⟩⟩
      · injection hr with hr
        exact ⟨_, none, e1.p_inv.1, e2.v_inv, .inr ⟨⟨_, rfl⟩, rfl, hr.symm⟩⟩
      · cases hr
    obtain ⟨a, b, g1, g2, g3⟩ := hcase
    have heq : (Op.equal ty (.pointer a) (.pointer b)).run P w = .ok r w := by
      have : ∀ n, (Op.equalIn (n + 1) ty (.pointer a) (.pointer b)).run P w = .ok r w := by
        intro n
        rcases g3 with ⟨rfl, rfl⟩ | ⟨⟨a', rfl⟩, rfl, rfl⟩
        · simp [Op.equalIn, run_underlying hu]
        · simp [Op.equalIn, run_underlying hu]
      exact this 9999
    refine ⟨.bool (if neg then !r else r), ?_, .v _⟩
    have hgd := fun op => eqGuard_scalar (P := P) (op := op) (ty := ty) (x := x) (y := y) (a := .pointer a) (b := .pointer b) (.inl (by simp)) (.inl (fun cs => by simp)) w
    cases neg
    · simp only [Bool.false_eq_true, if_false] at ho ⊢
      simp only [execOp, ho, g1, g2, Sem.run_bind, hgd, Result.andThen_ok, binOp, heq, Sem.run_pure]
    · simp only [if_true] at ho ⊢
      simp only [execOp, ho, g1, g2, Sem.run_bind, hgd, Result.andThen_ok, binOp, heq, Sem.run_pure]

end
end Go.Ab
