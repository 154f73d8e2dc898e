/- THE ROW, ONCE FOR ALL: a law whose contract is 'true' of whatever the arguments are read as returns true, and the arguments read as they did. -/
import Derived.Test.YtconffokcoipjaaD5
import Derived.ProofKit
import Derived.Carry
namespace Go.Ab
open Go.RowKit Go.Proofs Go.Deep Go.ChangeShapes
set_option linter.unusedVariables false
set_option linter.unusedSimpArgs false

variable {P : Program}

theorem cell_no_agg {w : World} {base : Nat} {t : TypeId} {cs : Array Value} : ¬ Cell.okWide P w .any base t (.agg cs) := by
  intro h
  unfold Cell.okWide Cell.ok at h
  cases hu : P.underlying t with
  | none => simp [hu] at h
  | some d => cases d <;> simp [hu] at h

/-- one parameter: what it is read as -/
def RdV (P : Program) (t : TypeId) (g : AV → Prop) : Prop := ∀ {H : Type} (enc : TypeId × Value → H) (W : World) (base : Nat) (v : Value) (d : DataW H) (ps : List MemPlace),
  Value.okWide P W .any base t v → DataW.Trod enc P W 0 (fun _ => true) true t v d ps → ∃ x, g x ∧ R (Cx.all W) x v

theorem RdV.one {t : TypeId} {g : AV → Prop} (ht : aggOf P t = some false) (h : Rd P t (fun xs => ∃ x, xs = [x] ∧ g x)) : RdV P t g := fun enc W base v d ps hv hd => by
  obtain ⟨xs, ⟨x, rfl, hg⟩, hr⟩ := Rd.arg h hd
  have hc : v.cells = #[v] := by
    cases v with
    | agg cs =>
      exfalso
      unfold Value.okWide at hv
      unfold aggOf at ht
      cases hu : P.underlying t with
      | none => simp [hu] at ht
      | some d => cases d <;> simp [hu] at ht hv <;> exact cell_no_agg hv
    | _ => rfl
  rw [hc] at hr
  exact ⟨x, hg, by simpa using hr.2 0 (by simp)⟩
theorem RdV.agg {t : TypeId} {g : List AV → Prop} (ht : aggOf P t = some true) (h : Rd P t g) : RdV P t (fun x => ∃ xs, g xs ∧ x = .agg xs) := fun enc W base v d ps hv hd => by
  obtain ⟨xs, hg, hr⟩ := Rd.arg h hd
  have hc : ∃ cs, v = .agg cs := by
    unfold Value.okWide at hv
    unfold aggOf at ht
    cases hu : P.underlying t with
    | none => simp [hu] at ht
    | some d => cases d <;> simp [hu] at ht hv <;> exact ⟨_, hv.choose_spec.1⟩
  obtain ⟨cs, rfl⟩ := hc
  refine ⟨_, ⟨xs, hg, rfl⟩, ?_⟩
  have := R.agg (c := Cx.all W) xs cs.toList hr.1 (fun j hj => by have := hr.2 j hj; simpa [Value.cells] using this)
  simpa using this
theorem RdV.int {t : TypeId} {k : IntKind} (ht : P.underlying t = some (.int k)) : RdV P t (fun x => ∃ n, x = .v (.int k n) ∧ (Lit.int k n).wf = true) :=
  RdV.one (by simp [aggOf, ht]) (Rd.mono (Rd.int ht) fun xs ⟨n, h1, h2⟩ => ⟨_, h1, n, rfl, h2⟩)
theorem RdV.bool {t : TypeId} (ht : P.underlying t = some .bool) : RdV P t (fun x => ∃ b, x = .v (.bool b)) :=
  RdV.one (by simp [aggOf, ht]) (Rd.mono (Rd.bool ht) fun xs ⟨n, h1⟩ => ⟨_, h1, n, rfl⟩)
theorem RdV.string {t : TypeId} (ht : P.underlying t = some .string) : RdV P t (fun x => ∃ b : ByteArray, x = .v (.string b) ∧ b.size ≤ maxLen) :=
  RdV.one (by simp [aggOf, ht]) (Rd.mono (Rd.string ht) fun xs ⟨n, h1, h2⟩ => ⟨_, h1, n, rfl, h2⟩)
theorem RdV.mono {t : TypeId} {g g' : AV → Prop} (h : RdV P t g) (hg : ∀ x, g x → g' x) : RdV P t g' := fun enc W base v d ps hv hd => by
  obtain ⟨x, h1, h2⟩ := h enc W base v d ps hv hd; exact ⟨x, hg _ h1, h2⟩

/-- all parameters -/
def RdAll (P : Program) : List TypeId → List (AV → Prop) → Prop
  | [], [] => True
  | t :: ts, g :: gs => RdV P t g ∧ RdAll P ts gs
  | _, _ => False
def Each : List (AV → Prop) → List AV → Prop
  | [], xs => xs = []
  | g :: gs, xs => ∃ x ys, xs = x :: ys ∧ g x ∧ Each gs ys

theorem rd_all {H : Type} {enc : TypeId × Value → H} {W : World} {base : Nat} : ∀ {ts : List TypeId} {gs : List (AV → Prop)} {vs : List Value} {ds : List (DataW H)} {ps : List MemPlace}, RdAll P ts gs →
    (∀ (j : Nat) t v, ts[j]? = some t → vs[j]? = some v → Value.okWide P W .any base t v) → DataW.TrodAll enc P W 0 (fun _ => true) true ts vs ds ps → ∃ xs, Each gs xs ∧ RL (Cx.all W) xs vs
  | [], [], [], [], _, _, _, _ => ⟨[], rfl, RL.nil _⟩
  | t :: ts, g :: gs, v :: vs, d :: ds, _, ⟨h1, h2⟩, hv, ⟨p, q, k1, k2, _⟩ => by
    obtain ⟨x, g1, g2⟩ := h1 enc W base v d p (hv 0 t v rfl rfl) k1
    obtain ⟨xs, g3, g4⟩ := rd_all h2 (fun j t v e1 e2 => hv (j + 1) t v (by simpa using e1) (by simpa using e2)) k2
    exact ⟨x :: xs, ⟨x, xs, rfl, g1, g3⟩, RL.cons g2 g4⟩

theorem stays_all {H : Type} {enc : TypeId × Value → H} (hl : laidOutB P = true) {W W' : World} (hb : Below W.heap.size W W') :
    ∀ {ts : List TypeId} {vs : List Value} {ds : List (DataW H)} {ps : List MemPlace}, (∀ t ∈ ts, P.readableRec t = true ∧ t < P.types.size) → DataW.TrodAll enc P W 0 (fun _ => true) true ts vs ds ps → (∀ x ∈ ps, x.block < W.heap.size) →
      DataW.TrodAll enc P W' 0 (fun b => decide (b < W.heap.size)) true ts vs ds ps
  | [], [], [], _, _, h, _ => h
  | t :: ts, v :: vs, d :: ds, _, ht, ⟨p, q, k1, k2, e⟩, hp => by
    subst e
    exact ⟨p, q, Below.trod hl (ht t (by simp)).1 (ht t (by simp)).2 k1 hb (fun x hx => hp x (by simp [hx])), stays_all hl hb (fun t h => ht t (by simp [h])) k2 (fun x hx => hp x (by simp [hx])), rfl⟩

/-- a contract that holds of whatever it is called on, read of the model's world -/
theorem Runs.calls0 {f : FuncId} {args : List AV} {r : Value} (h : Gives P f args AState.empty (.v r) AState.empty) {W : World} {vs : List Value}
    (ha : RL (Cx.all W) args vs) : Calls P f vs.toArray W (fun e w' => e = .returned r ∧ Below W.heap.size W w') := by
  refine (h.2 (Cx.all W) W vs (rel_all _ W) ha).mono ?_
  rintro e w' ⟨v, c', x, s', rfl, h1, h2, h3, rfl, rfl⟩
  exact ⟨by rw [h3.v_inv], h1.below rfl⟩

theorem lift_true {C : Checked} {os : Os} {f : FuncId} {fn : Func} {s : ChangeSpec} {conds : List PathCond} {H : Type} {enc : TypeId × Value → H} {r : TypeId} (gs : List (AV → Prop))
    (own : ownKnob C.prog.godebug = none) (started : os.Started) (noInit : C.prog.inits.idxOf? f = none) (hfn : C.prog.funcs[f]? = some fn)
    (witness : ∃ (w : World) (tape : Tape) (i : Input), w.os = os ∧ (w.forCall tape i).Shaped C.prog ∧ i.vars = [] ∧ Input.okWide C.prog (w.forCall tape i) .any w.heap.size f i ∧
      s.pre6 enc C.prog fn conds false (w.forCall tape i).memory i.args ∧ ({} : Assume).holds C.prog (lone (Frame.enter C.prog f i.args .normal) [] (w.forCall tape i)))
    (hvars : s.vars = []) (hs : ∀ ds : List (DataW H), ds.length = fn.params.size → s.fn H ds = { results := [.lit (.bool true)], args := ds })
    (hres : fn.resultTypes = #[r]) (hbool : C.prog.underlying r = some .bool) (hl : laidOutB C.prog = true)
    (hread : ∀ t ∈ fn.params.toList, C.prog.readableRec t = true ∧ t < C.prog.types.size)
    (hrd : RdAll C.prog fn.params.toList gs)
    (hrun : ∀ xs, Each gs xs → Gives C.prog f xs AState.empty (.v (.bool true)) AState.empty) :
    ReturnsInHanded {} C os f .any (s.pre6 enc C.prog fn conds false) (s.post enc C.prog fn false true false false) := by
  refine returnsInHanded_of_change own started noInit hfn witness ?_
  intro W base args ds gs' before hval hW hcnd _
  have hW' := hW
  obtain ⟨p, q, hA, hV, rfl, hfz, hnd⟩ := hW
  rw [hvars] at hV
  obtain ⟨rfl, rfl⟩ := trodVars_none hV
  obtain ⟨xs, hx, hr⟩ := rd_all hrd (fun j t v e1 e2 => hval j t v (by simpa using e1) (by simpa using e2)) hA
  have hlen : ds.length = fn.params.size := by
    have : ∀ {ts : List TypeId} {vs : List Value} {ds : List (DataW H)} {ps : List MemPlace}, DataW.TrodAll enc C.prog W 0 (fun _ => true) true ts vs ds ps → ds.length = ts.length := by
      intro ts
      induction ts with
      | nil => intro vs ds ps h; cases vs <;> cases ds <;> first | rfl | exact h.elim
      | cons t ts ih =>
        intro vs ds ps h
        cases vs <;> cases ds <;> first | exact h.elim | skip
        obtain ⟨_, _, _, h2, _⟩ := h
        simp [ih h2]
    simpa using this hA
  refine (Runs.calls0 (hrun xs hx) hr).mono fun e W' ⟨he, hw⟩ => ?_
  subst he
  refine ⟨_, rfl, ds, [], _, [], p, [], hW', ?_, ?_, ?_, hw.frame _, fun h => by cases h⟩
  · simp only [List.append_nil]
    rw [hs ds hlen, hres]
    exact trodAll_mk1 (shut_bool hbool true)
  · simp only [List.append_nil]
    rw [hs ds hlen]
    exact stays_all hl hw hread hA hA.lt
  · simp only [List.append_nil]
    rw [hs ds hlen, hvars]
    exact rfl

end Go.Ab
