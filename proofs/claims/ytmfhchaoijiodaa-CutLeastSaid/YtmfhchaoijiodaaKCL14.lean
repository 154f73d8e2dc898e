/- Going on. -/
import Derived.ProofKit
import Derived.Carry
import Derived.Test.YtmfhchaoijiodaaKCL13
section
namespace Go.Ab
open Go.RowKit Go.Proofs Go.Deep Go.ChangeShapes
set_option linter.unusedVariables false
set_option linter.unusedSimpArgs false
variable {P : Program}
theorem cell_no_agg {w : World} {base : Nat} {t : TypeId} {cs : Array Value} : ¬ Cell.okWide P w .any base t (.agg cs) := by
  intro h
  unfold Cell.okWide Cell.ok at h
  cases hu : P.underlying t with
  | none => simp [hu] at h
  | some d => cases d <;> simp [hu] at h
def RdV (P : Program) (t : TypeId) (g : AV → Prop) : Prop := ∀ {H : Type} (enc : TypeId × Value → H) (W : World) (base : Nat) (v : Value) (d : DataW H) (ps : List MemPlace),
  Value.okWide P W .any base t v → DataW.Trod enc P W 0 (fun _ => true) true t v d ps → ∃ x, g x ∧ R (Cx.all W) x v
theorem RdV.one {t : TypeId} {g : AV → Prop} (ht : aggOf P t = some false) (h : Rd P t (fun xs => ∃ x, xs = [x] ∧ g x)) : RdV P t g := fun enc W base v d ps hv hd => by
  obtain ⟨xs, ⟨x, rfl, hg⟩, hr⟩ := Rd.arg h hd
  have hc : v.cells = #[v] := by
    cases v with
    | agg cs =>
      exfalso
      unfold Value.okWide at hv
      unfold aggOf at ht
      cases hu : P.underlying t with
      | none => simp [hu] at ht
      | some d => cases d <;> simp [hu] at ht hv <;> exact cell_no_agg hv
    | _ => rfl
  rw [hc] at hr
  exact ⟨x, hg, by simpa using hr.2 0 (by simp)⟩
theorem RdV.agg {t : TypeId} {g : List AV → Prop} (ht : aggOf P t = some true) (h : Rd P t g) : RdV P t (fun x => ∃ xs, g xs ∧ x = .agg xs) := fun enc W base v d ps hv hd => by
  obtain ⟨xs, hg, hr⟩ := Rd.arg h hd
  have hc : ∃ cs, v = .agg cs := by
    unfold Value.okWide at hv
    unfold aggOf at ht
    cases hu : P.underlying t with
    | none => simp [hu] at ht
    | some d => cases d <;> simp [hu] at ht hv <;> exact ⟨_, hv.choose_spec.1⟩
  obtain ⟨cs, rfl⟩ := hc
  refine ⟨_, ⟨xs, hg, rfl⟩, ?_⟩
  have := R.agg (c := Cx.all W) xs cs.toList hr.1 (fun j hj => by have := hr.2 j hj; simpa [Value.cells] using this)
  simpa using this
def RdAll (P : Program) : List TypeId → List (AV → Prop) → Prop
  | [], [] => True
  | t :: ts, g :: gs => RdV P t g ∧ RdAll P ts gs
  | _, _ => False
def Each : List (AV → Prop) → List AV → Prop
  | [], xs => xs = []
  | g :: gs, xs => ∃ x ys, xs = x :: ys ∧ g x ∧ Each gs ys
theorem rd_all {H : Type} {enc : TypeId × Value → H} {W : World} {base : Nat} : ∀ {ts : List TypeId} {gs : List (AV → Prop)} {vs : List Value} {ds : List (DataW H)} {ps : List MemPlace}, RdAll P ts gs →
    (∀ (j : Nat) t v, ts[j]? = some t → vs[j]? = some v → Value.okWide P W .any base t v) → DataW.TrodAll enc P W 0 (fun _ => true) true ts vs ds ps → ∃ xs, Each gs xs ∧ RL (Cx.all W) xs vs
  | [], [], [], [], _, _, _, _ => ⟨[], rfl, RL.nil _⟩
  | t :: ts, g :: gs, v :: vs, d :: ds, _, ⟨h1, h2⟩, hv, ⟨p, q, k1, k2, _⟩ => by
    obtain ⟨x, g1, g2⟩ := h1 enc W base v d p (hv 0 t v rfl rfl) k1
    obtain ⟨xs, g3, g4⟩ := rd_all h2 (fun j t v e1 e2 => hv (j + 1) t v (by simpa using e1) (by simpa using e2)) k2
    exact ⟨x :: xs, ⟨x, xs, rfl, g1, g3⟩, RL.cons g2 g4⟩
theorem stays_all {H : Type} {enc : TypeId × Value → H} (hl : laidOutB P = true) {W W' : World} (hb : Below W.heap.size W W') :
    ∀ {ts : List TypeId} {vs : List Value} {ds : List (DataW H)} {ps : List MemPlace}, (∀ t ∈ ts, P.readableRec t = true ∧ t < P.types.size) → DataW.TrodAll enc P W 0 (fun _ => true) true ts vs ds ps → (∀ x ∈ ps, x.block < W.heap.size) →
      DataW.TrodAll enc P W' 0 (fun b => decide (b < W.heap.size)) true ts vs ds ps
  | [], [], [], _, _, h, _ => h
  | t :: ts, v :: vs, d :: ds, _, ht, ⟨p, q, k1, k2, e⟩, hp => by
    subst e
    exact ⟨p, q, Below.trod hl (ht t (by simp)).1 (ht t (by simp)).2 k1 hb (fun x hx => hp x (by simp [hx])), stays_all hl hb (fun t h => ht t (by simp [h])) k2 (fun x hx => hp x (by simp [hx])), rfl⟩
theorem Runs.calls0 {f : FuncId} {args : List AV} {r : Value} (h : Gives P f args AState.empty (.v r) AState.empty) {W : World} {vs : List Value}
    (ha : RL (Cx.all W) args vs) : Calls P f vs.toArray W (fun e w' => e = .returned r ∧ Below W.heap.size W w') := by
  refine (h.2 (Cx.all W) W vs (rel_all _ W) ha).mono ?_
  rintro e w' ⟨v, c', x, s', rfl, h1, h2, h3, rfl, rfl⟩
  exact ⟨by rw [h3.v_inv], h1.below rfl⟩
theorem lift_true {C : Checked} {os : Os} {f : FuncId} {fn : Func} {s : ChangeSpec} {conds : List PathCond} {H : Type} {enc : TypeId × Value → H} {r : TypeId} (gs : List (AV → Prop))
    (own : ownKnob C.prog.godebug = none) (started : os.Started) (noInit : C.prog.inits.idxOf? f = none) (hfn : C.prog.funcs[f]? = some fn)
    (witness : ∃ (w : World) (tape : Tape) (i : Input), w.os = os ∧ (w.forCall tape i).Shaped C.prog ∧ i.vars = [] ∧ Input.okWide C.prog (w.forCall tape i) .any w.heap.size f i ∧
      s.pre6 enc C.prog fn conds false (w.forCall tape i).memory i.args ∧ ({} : Assume).holds C.prog (lone (Frame.enter C.prog f i.args .normal) [] (w.forCall tape i)))
    (hvars : s.vars = []) (hs : ∀ ds : List (DataW H), ds.length = fn.params.size → s.fn H ds = { results := [.lit (.bool true)], args := ds })
    (hres : fn.resultTypes = #[r]) (hbool : C.prog.underlying r = some .bool) (hl : laidOutB C.prog = true)
    (hread : ∀ t ∈ fn.params.toList, C.prog.readableRec t = true ∧ t < C.prog.types.size)
    (hrd : RdAll C.prog fn.params.toList gs)
    (hrun : ∀ xs, Each gs xs → Gives C.prog f xs AState.empty (.v (.bool true)) AState.empty) :
    ReturnsInHanded {} C os f .any (s.pre6 enc C.prog fn conds false) (s.post enc C.prog fn false true false false) := by
  refine returnsInHanded_of_change own started noInit hfn witness ?_
  intro W base args ds gs' before hval hW hcnd _
  have hW' := hW
  obtain ⟨p, q, hA, hV, rfl, hfz, hnd⟩ := hW
  rw [hvars] at hV
  obtain ⟨rfl, rfl⟩ := trodVars_none hV
  obtain ⟨xs, hx, hr⟩ := rd_all hrd (fun j t v e1 e2 => hval j t v (by simpa using e1) (by simpa using e2)) hA
  have hlen : ds.length = fn.params.size := by
    have : ∀ {ts : List TypeId} {vs : List Value} {ds : List (DataW H)} {ps : List MemPlace}, DataW.TrodAll enc C.prog W 0 (fun _ => true) true ts vs ds ps → ds.length = ts.length := by
      intro ts
      induction ts with
      | nil => intro vs ds ps h; cases vs <;> cases ds <;> first | rfl | exact h.elim
      | cons t ts ih =>
        intro vs ds ps h
        cases vs <;> cases ds <;> first | exact h.elim | skip
        obtain ⟨_, _, _, h2, _⟩ := h
        simp [ih h2]
    simpa using this hA
  refine (Runs.calls0 (hrun xs hx) hr).mono fun e W' ⟨he, hw⟩ => ?_
  subst he
  refine ⟨_, rfl, ds, [], _, [], p, [], hW', ?_, ?_, ?_, hw.frame _, fun h => by cases h⟩
  · simp only [List.append_nil]
    rw [hs ds hlen, hres]
    exact trodAll_mk1 (shut_bool hbool true)
  · simp only [List.append_nil]
    rw [hs ds hlen]
    exact stays_all hl hw hread hA hA.lt
  · simp only [List.append_nil]
    rw [hs ds hlen, hvars]
    exact rfl
end Go.Ab
end
section
namespace Go.Ab
open Go.RowKit Go.Proofs Go.Deep Go.ChangeShapes
set_option linter.unusedVariables false
set_option linter.unusedSimpArgs false
inductive Sh where
  | int (k : IntKind) | bool | str | slice (e : Sh) | st (fs : Sh) | fnil | fcons (a b : Sh)
def Sh.len : Sh → Nat
  | .st fs => fs.len
  | .fnil => 0
  | .fcons a b => a.len + b.len
  | _ => 1
def Sh.ok (P : Program) : Sh → TypeId → List Field → Nat → Nat → Bool
  | .int k, t, _, _, _ => match P.underlying t with | some (.int k') => k' == k | _ => false
  | .bool, t, _, _, _ => match P.underlying t with | some .bool => true | _ => false
  | .str, t, _, _, _ => match P.underlying t with | some .string => true | _ => false
  | .slice e, t, _, _, _ => match P.underlying t with | some (.slice u) => (Nat.blt 0 e.len && P.cellsOf u == e.len && e.ok P u [] 0 0) | _ => false
  | .st fs, t, _, _, _ => match P.underlying t with | some (.struct l) => fs.ok P 0 l.toList 0 (P.cellsOf t) | _ => false
  | .fnil, _, l, off, tot => l.isEmpty && off == tot
  | .fcons a b, _, l, off, tot => match l with | f :: fs => f.offset == off && a.ok P f.type [] 0 0 && b.ok P 0 fs (off + P.cellsOf f.type) tot | [] => false
def Sh.mk : Sh → List AV → AV
  | .st _, r => .agg r
  | _, r => r.headD .any
def Sh.good : Sh → List AV → Prop
  | .int k, xs => ∃ n, xs = [.v (.int k n)] ∧ (Lit.int k n).wf = true
  | .bool, xs => ∃ b, xs = [.v (.bool b)]
  | .str, xs => ∃ b : ByteArray, xs = [.v (.string b)] ∧ b.size ≤ maxLen
  | .slice e, xs => ∃ rows : List (List AV), (∀ r ∈ rows, e.good r) ∧ rows.length ≤ maxLen ∧ xs = [.sl (rows.map e.mk) .no]
  | .st fs, xs => fs.good xs
  | .fnil, xs => xs = []
  | .fcons a b, xs => ∃ x y, a.good x ∧ b.good y ∧ xs = x ++ y
def Sh.isF : Sh → Bool
  | .fnil => true
  | .fcons _ _ => true
  | _ => false
def Sh.wf : Sh → Bool
  | .slice e => !e.isF && e.wf
  | .st fs => fs.isF && fs.wf
  | .fcons a b => !a.isF && b.isF && a.wf && b.wf
  | _ => true
theorem Sh.good_len : ∀ (s : Sh) (xs : List AV), s.good xs → xs.length = s.len
  | .int _, _, ⟨_, h, _⟩ => by simp [h, Sh.len]
  | .bool, _, ⟨_, h⟩ => by simp [h, Sh.len]
  | .str, _, ⟨_, h, _⟩ => by simp [h, Sh.len]
  | .slice _, _, ⟨_, _, _, h⟩ => by simp [h, Sh.len]
  | .st fs, _, h => Sh.good_len fs _ h
  | .fnil, _, h => by simp [Sh.good] at h; simp [h, Sh.len]
  | .fcons a b, _, ⟨x, y, h1, h2, h⟩ => by simp [h, Sh.len, Sh.good_len a _ h1, Sh.good_len b _ h2]
theorem Sh.good_one (s : Sh) (hs : s.wf = true) (hf : s.isF = false) (hn : ∀ fs, s ≠ .st fs) (xs : List AV) (h : s.good xs) : ∃ x, xs = [x] ∧ x.cells = [x] := by
  cases s with
  | int k => obtain ⟨n, h, _⟩ := h; exact ⟨_, h, rfl⟩
  | bool => obtain ⟨n, h⟩ := h; exact ⟨_, h, rfl⟩
  | str => obtain ⟨n, h, _⟩ := h; exact ⟨_, h, rfl⟩
  | slice e => obtain ⟨_, _, _, h⟩ := h; exact ⟨_, h, rfl⟩
  | st fs => exact absurd rfl (hn fs)
  | fnil => simp [Sh.isF] at hf
  | fcons a b => simp [Sh.isF] at hf
theorem Sh.mk_cells (s : Sh) (hs : s.wf = true) (hf : s.isF = false) (xs : List AV) (h : s.good xs) : (s.mk xs).cells = xs := by
  by_cases hn : ∃ fs, s = .st fs
  · obtain ⟨fs, rfl⟩ := hn; rfl
  · obtain ⟨x, rfl, hx⟩ := s.good_one hs hf (fun fs e => hn ⟨fs, e⟩) xs h
    have : s.mk [x] = x := by cases s <;> first | rfl | (exact absurd ⟨_, rfl⟩ hn)
    rw [this, hx]
theorem Sh.rd {P : Program} : ∀ (s : Sh), s.wf = true → (s.isF = false → ∀ t, s.ok P t [] 0 0 = true → Rd P t s.good) ∧
    (s.isF = true → ∀ t l off tot, s.ok P t l off tot = true → ∃ gs, RdF P l gs off tot ∧ ∀ xs, Cat gs xs → s.good xs)
  | .int k, _ => ⟨fun _ t h => by
      simp only [Sh.ok] at h
      cases hu : P.underlying t with
      | none => simp [hu] at h
      | some d => cases d <;> simp [hu] at h; subst h; exact Rd.int hu, fun h => by simp [Sh.isF] at h⟩
  | .bool, _ => ⟨fun _ t h => by
      simp only [Sh.ok] at h
      cases hu : P.underlying t with
      | none => simp [hu] at h
      | some d => cases d <;> simp [hu] at h; exact Rd.bool hu, fun h => by simp [Sh.isF] at h⟩
  | .str, _ => ⟨fun _ t h => by
      simp only [Sh.ok] at h
      cases hu : P.underlying t with
      | none => simp [hu] at h
      | some d => cases d <;> simp [hu] at h; exact Rd.string hu, fun h => by simp [Sh.isF] at h⟩
  | .slice e, hw => ⟨fun _ t h => by
      simp only [Sh.wf, Bool.and_eq_true, Bool.not_eq_true'] at hw
      simp only [Sh.ok] at h
      cases hu : P.underlying t with
      | none => simp [hu] at h
      | some d =>
        cases d <;> simp [hu, Bool.and_eq_true] at h
        obtain ⟨⟨h1, h2⟩, h3⟩ := h
        exact Rd.slice (k := e.len) e.mk hu h2 h1 ((Sh.rd e hw.2).1 hw.1 _ h3) (fun r hr => Sh.good_len e r hr) (fun r hr => Sh.mk_cells e hw.2 hw.1 r hr), fun h => by simp [Sh.isF] at h⟩
  | .st fs, hw => ⟨fun _ t h => by
      simp only [Sh.wf, Bool.and_eq_true] at hw
      simp only [Sh.ok] at h
      cases hu : P.underlying t with
      | none => simp [hu] at h
      | some d =>
        cases d <;> simp [hu] at h
        obtain ⟨gs, h1, h2⟩ := (Sh.rd fs hw.2).2 hw.1 _ _ _ _ h
        exact Rd.mono (Rd.struct hu h1) h2, fun h => by simp [Sh.isF] at h⟩
  | .fnil, _ => ⟨fun h => by simp [Sh.isF] at h, fun _ t l off tot h => by
      simp only [Sh.ok, Bool.and_eq_true, List.isEmpty_iff, beq_iff_eq] at h
      obtain ⟨rfl, rfl⟩ := h
      exact ⟨[], rfl, fun xs h => h⟩⟩
  | .fcons a b, hw => ⟨fun h => by simp [Sh.isF] at h, fun _ t l off tot h => by
      simp only [Sh.wf, Bool.and_eq_true, Bool.not_eq_true'] at hw
      cases l with
      | nil => simp [Sh.ok] at h
      | cons f fs =>
        simp only [Sh.ok, Bool.and_eq_true, beq_iff_eq] at h
        obtain ⟨⟨h1, h2⟩, h3⟩ := h
        obtain ⟨gs, k1, k2⟩ := (Sh.rd b hw.2).2 hw.1.1.2 _ _ _ _ h3
        exact ⟨a.good :: gs, ⟨h1, (Sh.rd a hw.1.2).1 hw.1.1.1 _ h2, k1⟩, fun xs ⟨x, y, q1, q2, q3⟩ => ⟨x, y, q1, k2 y q2, q3⟩⟩⟩
def Sh.goodV : Sh → AV → Prop
  | .st fs, x => ∃ xs, fs.good xs ∧ x = .agg xs
  | s, x => s.good [x]
theorem Sh.rdv {P : Program} (s : Sh) (hw : s.wf = true) (hf : s.isF = false) {t : TypeId} (h : s.ok P t [] 0 0 = true) : RdV P t s.goodV := by
  have hr : Rd P t s.good := (Sh.rd s hw).1 hf t h
  show RdV P t s.goodV
  rcases Classical.em (∃ fs, s = .st fs) with hn | hn
  · obtain ⟨fs, rfl⟩ := hn
    refine RdV.agg ?_ hr
    simp only [Sh.ok] at h
    cases hu : P.underlying t with
    | none => simp [hu] at h
    | some d => cases d <;> simp [hu] at h; simp [aggOf, hu]
  · refine RdV.one ?_ (Rd.mono hr fun xs hx => ?_)
    · cases s with
      | st fs => exact absurd ⟨_, rfl⟩ hn
      | fnil => simp [Sh.isF] at hf
      | fcons a b => simp [Sh.isF] at hf
      | _ =>
        simp only [Sh.ok] at h
        cases hu : P.underlying t with
        | none => simp [hu] at h
        | some d => cases d <;> simp [hu] at h <;> simp [aggOf, hu]
    · obtain ⟨x, rfl, _⟩ := s.good_one hw hf (fun fs e => hn ⟨fs, e⟩) xs hx
      refine ⟨x, rfl, ?_⟩
      cases s <;> first | exact hx | exact absurd ⟨_, rfl⟩ hn
def allOk (P : Program) : List TypeId → List Sh → Bool
  | [], [] => true
  | t :: ts, s :: ss => s.wf && !s.isF && s.ok P t [] 0 0 && allOk P ts ss
  | _, _ => false
theorem rd_of_ok {P : Program} : ∀ {ts : List TypeId} {ss : List Sh}, allOk P ts ss = true → RdAll P ts (ss.map Sh.goodV)
  | [], [], _ => trivial
  | t :: ts, s :: ss, h => by
    simp only [allOk, Bool.and_eq_true, Bool.not_eq_true'] at h
    exact ⟨s.rdv h.1.1.1 h.1.1.2 h.1.2, rd_of_ok h.2⟩
  | [], _ :: _, h => by simp [allOk] at h
  | _ :: _, [], h => by simp [allOk] at h
theorem u8_wf {n : Int} (h : (Lit.int .u8 n).wf = true) : 0 ≤ n ∧ n < 256 := by
  have h' : IntKind.u8.min ≤ n ∧ n ≤ IntKind.u8.max := by simpa [Lit.wf] using h
  have e1 : IntKind.u8.min = 0 := by decide
  have e2 : IntKind.u8.max = 255 := by decide
  constructor <;> omega
end Go.Ab
end
section
namespace Go.Ab
open Go.RowKit Go.Proofs
set_option linter.unusedVariables false
set_option linter.unusedSimpArgs false
variable {P : Program} {cmp : Code → Option ACode}
theorem app_core {n : Nat} {e : List (Nat × AV)} {s B : AState} {k bytes N : Nat} {sx sy : Arg} {xs ys : List AV} {tk t2 : Tok} (hx : sx.ev (den n e) = .sl xs tk) (hy : sy.ev (den n e) = .sl ys t2)
    (hB : Grows B s) (hN : B.n ≤ N) (hN2 : N ≤ s.n) (hm : May N s xs tk) (h1 : headK k xs = true) (h2 : ys.all (okRow k) = true) (h3 : (xs.length + ys.length) * bytes ≤ 140737488355328) (h4 : xs.length + ys.length ≤ 4611686018427387904) :
    ∃ s' tk2, (AOp.append k bytes sx sy).exec (den n e) s = some (.sl (xs ++ ys.map AV.strip) tk2, s') ∧ Grows B s' ∧ May N s' (xs ++ ys.map AV.strip) tk2 ∧ (∀ x, x < N → s'.get x = s.get x) ∧ s.ext s' := by
  cases hne : ys.isEmpty with
  | true =>
    obtain rfl := List.isEmpty_iff.1 hne
    exact ⟨s, tk, by simp only [AOp.exec, hx, hy]; simp, hB, by simpa using hm, fun _ _ => rfl, .refl s⟩
  | false =>
    have he := exec_append (a := den n e) hx hy hm hne h1 h2 h3 h4
    have hg2 := (hB.eat hm hN).alloc .tok
    have hm2 := hm.new (ys := ys.map AV.strip) (by cases ys <;> simp_all) hN2
    have hlow : ∀ x, x < N → ((eat s tk).alloc .tok).get x = s.get x := fun x hx => by
      rw [get_alloc_ne (by simp; omega), get_eat hm hx]
    refine ⟨_, _, he, hg2, hm2, hlow, ?_⟩
    cases tk with
    | own t => exact AState.ext_tok hm.1 _
    | _ => exact AState.ext_alloc _ _
theorem o_appA {K : List AV → AState → Prop} {n : Nat} {e : List (Nat × AV)} {s B : AState} {d k bytes N : Nat} {sx sy : Arg} {xs ys : List AV} {tk t2 : Tok} {r : List AOper} (hx : sx.ev (den n e) = .sl xs tk) (hy : sy.ev (den n e) = .sl ys t2)
    (hB : Grows B s) (hN : B.n ≤ N) (hN2 : N ≤ s.n) (hm : May N s xs tk) (h1 : headK k xs = true) (h2 : ys.all (okRow k) = true) (h3 : (xs.length + ys.length) * bytes ≤ 140737488355328) (h4 : xs.length + ys.length ≤ 4611686018427387904)
    (hk : ∀ s' tk2, Grows B s' → May N s' (xs ++ ys.map AV.strip) tk2 → (∀ x, x < N → s'.get x = s.get x) → s.ext s' → AOps cmp P r K (den n ((d, .sl (xs ++ ys.map AV.strip) tk2) :: e)) s') : AOps cmp P (⟨some d, .append k bytes sx sy, none⟩ :: r) K (den n e) s := by
  obtain ⟨s', tk2, he, g1, g2, g3, g4⟩ := app_core hx hy hB hN hN2 hm h1 h2 h3 h4
  exact o_one (x := _) rfl (by simp only [stepE]; exact he) (hk s' tk2 g1 g2 g3 g4)
theorem d_appA {K : List AV → AState → Prop} {n : Nat} {e : List (Nat × AV)} {s B : AState} {d k bytes N : Nat} {sx sy : Arg} {xs ys : List AV} {tk t2 : Tok} {r : List DOper} {am : Bool} {opens : List AOper} (hx : sx.ev (den n e) = .sl xs tk) (hy : sy.ev (den n e) = .sl ys t2)
    (hB : Grows B s) (hN : B.n ≤ N) (hN2 : N ≤ s.n) (hm : May N s xs tk) (h1 : headK k xs = true) (h2 : ys.all (okRow k) = true) (h3 : (xs.length + ys.length) * bytes ≤ 140737488355328) (h4 : xs.length + ys.length ≤ 4611686018427387904)
    (hk : ∀ s' tk2, Grows B s' → May N s' (xs ++ ys.map AV.strip) tk2 → (∀ x, x < N → s'.get x = s.get x) → s.ext s' → DWalk cmp P r K (den n ((d, .sl (xs ++ ys.map AV.strip) tk2) :: e)) s') : DWalk cmp P (⟨⟨some d, .append k bytes sx sy, none⟩, true, am, opens⟩ :: r) K (den n e) s := by
  obtain ⟨s', tk2, he, g1, g2, g3, g4⟩ := app_core hx hy hB hN hN2 hm h1 h2 h3 h4
  exact d_eff rfl (by simp only [stepE]; exact he) (.of_ext g4) (hk s' tk2 g1 g2 g3 g4)
end Go.Ab
end
section
namespace Go.Ab
open Go.RowKit Go.Proofs
set_option linter.unusedVariables false
set_option linter.unusedSimpArgs false
set_option linter.unusedSectionVars false
section
variable {κ β γ : Type} [DecidableEq κ]
def lkI (A : List (κ × β)) (k : κ) : Option Nat := A.findIdx? fun x => k == x.1
def lk (A : List (κ × β)) (k : κ) : Option β := (A.find? fun x => k == x.1).map (·.2)
def setM (A : List (κ × β)) (k : κ) (x : β) : List (κ × β) := match lkI A k with | some i => A.set i (k, x) | none => A ++ [(k, x)]
def delM (A : List (κ × β)) (k : κ) : List (κ × β) := match lkI A k with | some i => A.eraseIdx i | none => A
theorem lk_lkI (A : List (κ × β)) (k : κ) : lk A k = (lkI A k).bind fun i => (A[i]?).map (·.2) := by
  unfold lk lkI
  induction A with
  | nil => rfl
  | cons x A ih =>
    rw [List.find?_cons, List.findIdx?_cons]
    by_cases h : k == x.1
    · simp [h]
    · simp only [h, ih]
      cases A.findIdx? fun x => k == x.1 <;> simp
@[simp] theorem lk_nil (k : κ) : lk ([] : List (κ × β)) k = none := rfl
theorem lk_cons (a : κ × β) (l : List (κ × β)) (k : κ) : lk (a :: l) k = if k = a.1 then some a.2 else lk l k := by
  unfold lk
  rw [List.find?_cons]
  by_cases h : k = a.1
  · simp [h]
  · have : (k == a.1) = false := by simp [h]
    simp [this, h]
theorem lk_append {a b : List (κ × β)} {k : κ} : lk (a ++ b) k = (lk a k).or (lk b k) := by
  induction a with
  | nil => simp
  | cons x a ih => rw [List.cons_append, lk_cons, lk_cons, ih]; split <;> rfl
theorem lk_mem {l : List (κ × β)} {k : κ} {x : β} (h : lk l k = some x) : (k, x) ∈ l := by
  induction l with
  | nil => cases h
  | cons a l ih =>
    rw [lk_cons] at h
    split at h
    · next e => cases h; subst e; exact List.mem_cons_self
    · exact List.mem_cons_of_mem _ (ih h)
theorem lk_none1 {l : List (κ × β)} {k : κ} : lk l k = none ↔ ∀ x ∈ l, x.1 ≠ k := by
  induction l with
  | nil => simp
  | cons a l ih =>
    rw [lk_cons]
    by_cases h : k = a.1
    · subst h; simp
    · rw [if_neg h, ih]; simp [Ne.symm h]
theorem lk_none {A : List (κ × β)} {k : κ} : lk A k = none ↔ k ∉ A.map (·.1) := by
  rw [lk_none1]
  constructor
  · intro h hm; obtain ⟨x, hx, e⟩ := List.mem_map.1 hm; exact h x hx e
  · intro h x hx e; exact h (List.mem_map.2 ⟨x, hx, e⟩)
theorem lk_of_mem {l : List (κ × β)} (h : (l.map (·.1)).Nodup) {k : κ} {x : β} (hm : (k, x) ∈ l) : lk l k = some x := by
  induction l with
  | nil => cases hm
  | cons a l ih =>
    rw [lk_cons]
    simp only [List.map_cons, List.nodup_cons] at h
    rcases List.mem_cons.1 hm with e | hm
    · subst e; simp
    · rw [if_neg (fun e => h.1 (by rw [← e]; exact List.mem_map_of_mem (f := (·.1)) hm)), ih h.2 hm]
theorem setM_keys {A : List (κ × β)} {k : κ} {x : β} : (setM A k x).map (·.1) = if k ∈ A.map (·.1) then A.map (·.1) else A.map (·.1) ++ [k] := by
  unfold setM
  cases h : lkI A k with
  | none =>
    have : lk A k = none := by rw [lk_lkI, h]; rfl
    rw [if_neg (lk_none.1 this)]; simp
  | some i =>
    obtain ⟨hi, hk, _⟩ := List.findIdx?_eq_some_iff_getElem.1 h
    have hk' : k = A[i].1 := by simpa using hk
    rw [if_pos (List.mem_map.2 ⟨A[i], List.getElem_mem hi, hk'.symm⟩)]
    rw [List.map_set]
    show (A.map (·.1)).set i k = _
    rw [hk']
    have : A[i].1 = (A.map (·.1))[i]'(by simpa using hi) := by simp
    rw [this, List.set_getElem_self]
theorem setM_nodup {A : List (κ × β)} {k : κ} {x : β} (h : (A.map (·.1)).Nodup) : ((setM A k x).map (·.1)).Nodup := by
  rw [setM_keys]
  split
  · exact h
  · next hk => rw [List.nodup_append]; exact ⟨h, by simp, by rintro a ha b hb rfl; simp at hb; subst hb; exact hk ha⟩
theorem lk_setM {A : List (κ × β)} {k j : κ} {x : β} : lk (setM A k x) j = if j = k then some x else lk A j := by
  unfold setM
  cases h : lkI A k with
  | none =>
    have h0 : lk A k = none := by rw [lk_lkI, h]; rfl
    show lk (A ++ [(k, x)]) j = _
    rw [lk_append, lk_cons]
    by_cases e : j = k
    · subst e; rw [h0, if_pos rfl]; simp
    · rw [if_neg e]; simp [e]
  | some i =>
    show lk (A.set i (k, x)) j = _
    obtain ⟨hi, hk, hno⟩ := List.findIdx?_eq_some_iff_getElem.1 h
    have hk' : k = A[i].1 := by simpa using hk
    have hs : A.set i (k, x) = A.take i ++ (k, x) :: A.drop (i + 1) := List.set_eq_take_append_cons_drop .. |>.trans (by rw [if_pos hi])
    have hA : A = A.take i ++ A[i] :: A.drop (i + 1) := by rw [← List.drop_eq_getElem_cons hi, List.take_append_drop]
    rw [hs, lk_append]
    conv => rhs; rw [hA, lk_append]
    have hpre : ∀ j, j = k → lk (A.take i) j = none := fun j hj => by
      subst hj
      rw [lk_none]; intro hm
      obtain ⟨y, hy, e⟩ := List.mem_map.1 hm
      obtain ⟨l, hl, rfl⟩ := List.getElem_of_mem hy
      simp at hl
      have := hno l (by omega)
      simp at this e
      exact this e.symm
    rw [lk_cons, lk_cons, ← hk']
    by_cases e : j = k
    · rw [if_pos e, hpre j e, if_pos e]; simp
    · rw [if_neg e, if_neg e, if_neg e]
theorem lk_perm {a b : List (κ × β)} (hn : (a.map (·.1)).Nodup) (h : a.Perm b) (k : κ) : lk a k = lk b k := by
  have hb : (b.map (·.1)).Nodup := (h.map _).nodup_iff.1 hn
  cases hk : lk a k with
  | some x => exact (lk_of_mem hb (h.mem_iff.1 (lk_mem hk))).symm
  | none =>
    symm; rw [lk_none1] at hk ⊢
    exact fun x hx => hk x (h.mem_iff.2 hx)
theorem perm_of_lk {a b : List (κ × β)} (ha : (a.map (·.1)).Nodup) (hb : (b.map (·.1)).Nodup) (h : ∀ k, lk a k = lk b k) : a.Perm b := by
  induction a generalizing b with
  | nil =>
    cases b with
    | nil => exact .refl _
    | cons y b => have := h y.1; simp [lk_cons] at this
  | cons x a ih =>
    have h1 := h x.1
    rw [lk_cons, if_pos rfl] at h1
    obtain ⟨s, t, rfl⟩ := List.append_of_mem (lk_mem h1.symm)
    refine (List.Perm.cons _ (ih ?_ ?_ fun k => ?_)).trans List.perm_middle.symm
    · simp only [List.map_cons, List.nodup_cons] at ha; exact ha.2
    · have hp : (((x.1, x.2) :: (s ++ t)).map (·.1)).Nodup := (List.perm_middle.map _).nodup_iff.1 hb
      simp only [List.map_cons, List.nodup_cons] at hp; exact hp.2
    · have hp := lk_perm hb List.perm_middle k
      have hk := h k
      rw [hp, lk_cons, lk_cons] at hk
      by_cases e : k = x.1
      · subst e
        have hp' : (((x.1, x.2) :: (s ++ t)).map (·.1)).Nodup := (List.perm_middle.map _).nodup_iff.1 hb
        simp only [List.map_cons, List.nodup_cons] at ha hp'
        rw [lk_none1.2 (fun z hz e => ha.1 (by rw [← e]; exact List.mem_map_of_mem (f := (·.1)) hz)), lk_none1.2 (fun z hz e => hp'.1 (by rw [← e]; exact List.mem_map_of_mem (f := (·.1)) hz))]
      · simpa [e] using hk
theorem lk_eraseIdx {A : List (κ × β)} (hn : (A.map (·.1)).Nodup) {k : κ} {i : Nat} (h : lkI A k = some i) (j : κ) : lk (A.eraseIdx i) j = if j = k then none else lk A j := by
  obtain ⟨hi, hk, hno⟩ := List.findIdx?_eq_some_iff_getElem.1 h
  have hk' : k = A[i].1 := by simpa using hk
  have hA : A = A.take i ++ A[i] :: A.drop (i + 1) := by rw [← List.drop_eq_getElem_cons hi, List.take_append_drop]
  have hn2 : ((A.take i ++ A[i] :: A.drop (i + 1)).map (·.1)).Nodup := by rw [← hA]; exact hn
  rw [List.eraseIdx_eq_take_drop_succ]
  have hp := lk_perm hn2 List.perm_middle j
  rw [← hA, lk_cons] at hp
  rw [hp]
  have hn3 : ((A[i] :: (A.take i ++ A.drop (i + 1))).map (·.1)).Nodup := (List.perm_middle.map _).nodup_iff.1 hn2
  rw [List.map_cons, List.nodup_cons] at hn3
  by_cases e : j = k
  · rw [if_pos e, lk_none, e, hk']; exact hn3.1
  · rw [if_neg e, if_neg (by rw [← hk']; exact e)]
theorem eraseIdx_nodup {A : List (κ × β)} (hn : (A.map (·.1)).Nodup) (i : Nat) : ((A.eraseIdx i).map (·.1)).Nodup :=
  List.Nodup.sublist ((List.eraseIdx_sublist _ _).map _) hn
theorem delM_nodup {A : List (κ × β)} (hn : (A.map (·.1)).Nodup) (k : κ) : ((delM A k).map (·.1)).Nodup := by
  unfold delM; split
  · exact eraseIdx_nodup hn _
  · exact hn
theorem lk_delM {A : List (κ × β)} (hn : (A.map (·.1)).Nodup) (k j : κ) : lk (delM A k) j = if j = k then none else lk A j := by
  unfold delM
  split
  · next i hi => exact lk_eraseIdx hn hi j
  · next hi =>
    have : lk A k = none := by rw [lk_lkI, hi]; rfl
    split
    · next e => rw [e]; exact this
    · rfl
end
class Key (κ : Type) where
  lt : κ → κ → Prop
  dec : ∀ a b, Decidable (lt a b)
  irrefl : ∀ a, ¬ lt a a
  trans : ∀ {a b c}, lt a b → lt b c → lt a c
  tri : ∀ {a b}, ¬ lt a b → a ≠ b → lt b a
instance : Key Int := ⟨fun a b => a < b, fun _ _ => inferInstance, fun _ => Int.lt_irrefl _, fun h k => Int.lt_trans h k, fun {a b} h k => by omega⟩
instance : Key (Int × Int) := ⟨fun a b => a.1 < b.1 ∨ a.1 = b.1 ∧ a.2 < b.2, fun _ _ => inferInstance, fun a => by omega, fun h k => by omega, fun {a b} h k => by
  by_cases e : a.1 = b.1
  · have : a.2 ≠ b.2 := fun e2 => k (Prod.ext e e2)
    omega
  · omega⟩
instance {κ : Type} [Key κ] (a b : κ) : Decidable (Key.lt a b) := Key.dec a b
section
variable {κ β γ : Type} [DecidableEq κ] [Key κ]
theorem Key.ne {a b : κ} (h : Key.lt a b) : a ≠ b := fun e => Key.irrefl b (e ▸ h)
def Srt (l : List (κ × β)) : Prop := l.Pairwise fun a b => Key.lt a.1 b.1
def putL (l : List (κ × β)) (k : κ) (x : β) : List (κ × β) := match l with
  | [] => [(k, x)]
  | a :: l => if Key.lt k a.1 then (k, x) :: a :: l else if k = a.1 then (k, x) :: l else a :: putL l k x
def delL (l : List (κ × β)) (k : κ) : List (κ × β) := l.filter fun x => !(decide (x.1 = k))
theorem Srt.nodup {l : List (κ × β)} (h : Srt l) : (l.map (·.1)).Nodup := by
  unfold List.Nodup
  rw [List.pairwise_map]
  exact h.imp fun hlt => Key.ne hlt
theorem Srt.lk_mem {l : List (κ × β)} (h : Srt l) {k : κ} {x : β} (hm : (k, x) ∈ l) : lk l k = some x := lk_of_mem h.nodup hm
theorem put_mem {l : List (κ × β)} {k : κ} {x : β} {y : κ × β} (h : y ∈ putL l k x) : y = (k, x) ∨ y ∈ l := by
  induction l with
  | nil => simpa [putL] using h
  | cons a l ih =>
    unfold putL at h
    split at h
    · simpa using h
    split at h
    · rcases List.mem_cons.1 h with h | h
      · exact .inl h
      · exact .inr (List.mem_cons_of_mem _ h)
    · rcases List.mem_cons.1 h with h | h
      · exact .inr (by rw [h]; exact List.mem_cons_self)
      · exact (ih h).imp id (List.mem_cons_of_mem _)
theorem Srt.put {l : List (κ × β)} (h : Srt l) (k : κ) (x : β) : Srt (putL l k x) := by
  induction l with
  | nil => exact List.pairwise_singleton _ _
  | cons a l ih =>
    obtain ⟨h1, h2⟩ := List.pairwise_cons.1 h
    unfold putL
    split
    · next e =>
      refine List.pairwise_cons.2 ⟨fun y hy => ?_, h⟩
      rcases List.mem_cons.1 hy with rfl | hy
      · exact e
      · exact Key.trans e (h1 y hy)
    split
    · next e => exact List.pairwise_cons.2 ⟨fun y hy => by rw [e]; exact h1 y hy, h2⟩
    · next n1 n2 =>
      refine List.pairwise_cons.2 ⟨fun y hy => ?_, ih h2⟩
      rcases put_mem hy with rfl | hy
      · exact Key.tri n1 n2
      · exact h1 y hy
theorem lk_put (l : List (κ × β)) (k : κ) (x : β) (j : κ) : lk (putL l k x) j = if j = k then some x else lk l j := by
  induction l with
  | nil => simp [putL, lk_cons]
  | cons a l ih =>
    unfold putL
    split
    · rw [lk_cons]
    split
    · next e => rw [lk_cons, lk_cons]; subst e; simp only; split <;> rfl
    · next n1 n2 =>
      rw [lk_cons, lk_cons, ih]
      by_cases e : j = a.1
      · rw [if_pos e, if_pos e, if_neg (fun h => n2 (by rw [← h, e]))]
      · rw [if_neg e, if_neg e]
theorem Srt.del {l : List (κ × β)} (h : Srt l) (k : κ) : Srt (delL l k) := h.filter _
theorem lk_filter (l : List (κ × β)) (p : κ → Bool) (j : κ) : lk (l.filter fun x => p x.1) j = if p j = true then lk l j else none := by
  induction l with
  | nil => simp
  | cons a l ih =>
    rw [List.filter_cons]
    by_cases e : p a.1 = true
    · rw [if_pos e, lk_cons, lk_cons, ih]
      by_cases h : j = a.1
      · rw [if_pos h, if_pos h, h, if_pos e]
      · rw [if_neg h, if_neg h]
    · rw [if_neg e, ih, lk_cons]
      by_cases h : j = a.1
      · subst h; rw [if_neg e, if_neg e]
      · rw [if_neg h]
theorem lk_del (l : List (κ × β)) (k j : κ) : lk (delL l k) j = if j = k then none else lk l j := by
  unfold delL
  rw [lk_filter l (fun x => !(decide (x = k)))]
  by_cases h : j = k <;> simp [h]
structure Rep (A B : List (κ × β)) : Prop where
  perm : A.Perm B
  srt : Srt B
theorem Rep.nodup {A B : List (κ × β)} (h : Rep A B) : (A.map (·.1)).Nodup := (h.perm.map _).nodup_iff.2 h.srt.nodup
theorem Rep.lk {A B : List (κ × β)} (h : Rep A B) (k : κ) : lk A k = Ab.lk B k := lk_perm h.nodup h.perm k
theorem Rep.nil : Rep ([] : List (κ × β)) [] := ⟨.refl _, .nil⟩
theorem Rep.of_lk {A B : List (κ × β)} (ha : (A.map (·.1)).Nodup) (hb : Srt B) (h : ∀ k, Ab.lk A k = Ab.lk B k) : Rep A B := ⟨perm_of_lk ha hb.nodup h, hb⟩
theorem Rep.set {A B : List (κ × β)} (h : Rep A B) (k : κ) (x : β) : Rep (setM A k x) (putL B k x) :=
  .of_lk (setM_nodup h.nodup) (h.srt.put k x) fun j => by rw [lk_setM, lk_put, h.lk]
theorem Rep.del {A B : List (κ × β)} (h : Rep A B) (k : κ) : Rep (delM A k) (delL B k) :=
  .of_lk (delM_nodup h.nodup k) (h.srt.del k) fun j => by rw [lk_delM h.nodup, lk_del, h.lk]
end
theorem Rep.keys {β : Type} {A B : List (Int × β)} (h : Rep A B) : (A.map (·.1)).mergeSort (fun x y => decide (x ≤ y)) = B.map (·.1) := by
  have h1 : ((A.map (·.1)).mergeSort fun x y => decide (x ≤ y)).Pairwise (fun x y => x ≤ y) := by
    have := List.pairwise_mergeSort (le := fun (x y : Int) => decide (x ≤ y)) (fun a b c => by simp; omega) (fun a b => by simp; omega) (A.map (·.1))
    exact this.imp (fun h => by simpa using h)
  have h2 : (B.map (·.1)).Pairwise (fun x y => x ≤ y) := by
    rw [List.pairwise_map]; exact h.srt.imp fun h => Int.le_of_lt h
  have hp : ((A.map (·.1)).mergeSort fun x y => decide (x ≤ y)).Perm (B.map (·.1)) := (List.mergeSort_perm _ _).trans (h.perm.map _)
  exact hp.eq_of_pairwise (fun a b _ _ h1 h2 => by omega) h1 h2
class KE (κ : Type) [DecidableEq κ] where
  kk : KK
  kenc : κ → AV
  eq : ∀ a b, keyEq kk (kenc a) (kenc b) = some (decide (a = b))
  ok : ∀ a, keyOk kk (kenc a) = true
instance : KE Int := ⟨.int, fun n => .v (.int .i64 n), fun a b => by simp only [keyEq, if_true]; by_cases h : a = b <;> simp [h], fun _ => rfl⟩
instance : KE ByteArray := ⟨.str, fun n => .v (.string n), fun a b => by simp [keyEq, strEq_dec], fun _ => rfl⟩
instance : KE (Int × Int) := ⟨.agg2, fun n => .agg [.v (.int .i64 n.1), .v (.int .i64 n.2)], fun a b => by
  obtain ⟨a1, a2⟩ := a; obtain ⟨b1, b2⟩ := b
  simp only [keyEq, and_self, if_true, Prod.mk.injEq]
  by_cases h : a1 = b1 <;> by_cases h2 : a2 = b2 <;> simp [h, h2], fun _ => rfl⟩
section
variable {P : Program} {cmp : Code → Option ACode} {κ β : Type} [DecidableEq κ] [KE κ]
def encM (enc : β → AV) (A : List (κ × β)) : List (AV × AV) := A.map fun x => (KE.kenc x.1, enc x.2)
@[simp] theorem encM_nil (enc : β → AV) : encM enc ([] : List (κ × β)) = [] := rfl
@[simp] theorem encM_length (enc : β → AV) (A : List (κ × β)) : (encM enc A).length = A.length := by simp [encM]
theorem findK_enc (enc : β → AV) (k : κ) : ∀ (A : List (κ × β)) (i : Nat), findK (KE.kk κ) (KE.kenc k) (encM enc A) i = some ((lkI A k).map (· + i))
  | [], i => rfl
  | x :: A, i => by
    simp only [encM, List.map_cons, findK, KE.eq, lkI, List.findIdx?_cons]
    by_cases h : k = x.1
    · simp [h]
    · have := findK_enc enc k A (i + 1)
      simp only [encM, lkI] at this
      have h' : (k == x.1) = false := by simp [h]
      simp only [h, h', this, decide_false]
      cases A.findIdx? fun x => k == x.1 <;> simp [Nat.add_comm, Nat.add_left_comm]
def lkV (enc : β → AV) (A : List (κ × β)) (k : κ) (z : AV) (ok : Bool) : AV :=
  match lk A k with
  | some x => if ok then .tup [enc x, .v (.bool true)] else enc x
  | none => if ok then .tup [z, .v (.bool false)] else z
theorem exec_lookup {a : List AV} {s : AState} {b : Nat} {k : κ} {enc : β → AV} {A : List (κ × β)} {z : AV} {ok : Bool} {m kx : Arg} {kk : KK} (hm : m.ev a = .m b) (hs : s.get b = .map (encM enc A)) (hk : kx.ev a = KE.kenc k) (hkk : kk = KE.kk κ) :
    (AOp.lookup kk z ok m kx).exec a s = some (lkV enc A k z ok, s) := by
  subst hkk
  simp only [AOp.exec, hm, hs, hk, KE.ok, if_true, findK_enc, lkV, lk_lkI]
  cases h : lkI A k with
  | none => rfl
  | some i =>
    have hi : i < A.length := (List.findIdx?_eq_some_iff_getElem.1 h).1
    simp [encM, hi]
theorem exec_mapset {a : List AV} {s : AState} {b : Nat} {k : κ} {enc : β → AV} {A : List (κ × β)} {v : β} {m kx x : Arg} {kk : KK} (hm : m.ev a = .m b) (hs : s.get b = .map (encM enc A)) (hk : kx.ev a = KE.kenc k) (hx : x.ev a = enc v) (hkk : kk = KE.kk κ) :
    (AOp.mapset kk m kx x).exec a s = some (.any, s.set b (.map (encM enc (setM A k v)))) := by
  subst hkk
  simp only [AOp.exec, hm, hs, hk, hx, KE.ok, if_true, findK_enc, setM]
  cases h : lkI A k with
  | none => simp [encM]
  | some i => simp [encM, List.map_set]
theorem exec_mapdel {a : List AV} {s : AState} {b : Nat} {k : κ} {enc : β → AV} {A : List (κ × β)} {m kx : Arg} {kk : KK} (hm : m.ev a = .m b) (hs : s.get b = .map (encM enc A)) (hk : kx.ev a = KE.kenc k) (hkk : kk = KE.kk κ) :
    (AOp.mapdel kk m kx).exec a s = some (.tup [], s.set b (.map (encM enc (delM A k)))) := by
  subst hkk
  simp only [AOp.exec, hm, hs, hk, KE.ok, if_true, findK_enc, delM]
  cases h : lkI A k with
  | none => simp [set_get hs]
  | some i => simp [encM, List.eraseIdx_eq_take_drop_succ]
variable {n : Nat} {e : List (Nat × AV)} {s : AState} {d b : Nat} {k : κ} {enc : β → AV} {A : List (κ × β)} {z : AV} {ok : Bool} {m kx x : Arg} {v : β} {kk : KK} {r : List AOper} {rd : List DOper} {am : Bool} {opens : List AOper} {K : List AV → AState → Prop}
theorem d_look (hm : m.ev (den n e) = .m b) (hs : s.get b = .map (encM enc A)) (hk : kx.ev (den n e) = KE.kenc k)
    (h : DWalk cmp P rd K (den n ((d, lkV enc A k z ok) :: e)) s) (hkk : kk = KE.kk κ := by rfl) : DWalk cmp P (⟨⟨some d, .lookup kk z ok m kx, none⟩, false, am, opens⟩ :: rd) K (den n e) s :=
  d_1 rfl (exec_lookup hm hs hk hkk) h
theorem o_mset (hm : m.ev (den n e) = .m b) (hs : s.get b = .map (encM enc A)) (hk : kx.ev (den n e) = KE.kenc k) (hx : x.ev (den n e) = enc v)
    (h : AOps cmp P r K (den n e) (s.set b (.map (encM enc (setM A k v))))) (hkk : kk = KE.kk κ := by rfl) : AOps cmp P (⟨none, .mapset kk m kx x, none⟩ :: r) K (den n e) s :=
  o_0 rfl (exec_mapset hm hs hk hx hkk) h
end
end Go.Ab
end
section
namespace Go.Ab
open Go.RowKit Go.Proofs
set_option linter.unusedVariables false
set_option linter.unusedSimpArgs false
set_option linter.unusedSectionVars false
variable {cmp : Code → Option ACode} {P : Program} {ro : Option Nat}
class Aut (op : AOp) : Prop where
  h : op.isCall = false
class Man (op : AOp) : Prop where
  h : op.isCall = false
instance (x : Arg) : Aut (.mov x) := ⟨rfl⟩
instance (c a b : Arg) : Aut (.pick c a b) := ⟨rfl⟩
instance (z : List AV) : Aut (.alloc z) := ⟨rfl⟩
instance (x : Arg) : Aut (.box x) := ⟨rfl⟩
instance (z : List AV) (parts : List (Nat × Nat × Arg)) : Aut (.build z parts) := ⟨rfl⟩
instance (k : Nat) (parts : List Arg) : Aut (.bsl k parts) := ⟨rfl⟩
instance (ag : Bool) (k : Nat) (x : Arg) : Aut (.load ag k x) := ⟨rfl⟩
instance (k : Nat) (x y : Arg) : Aut (.store k x y) := ⟨rfl⟩
instance (x : Arg) : Aut (.nilck x) := ⟨rfl⟩
instance (op : BinOp) (x y : Arg) : Aut (.bin op x y) := ⟨rfl⟩
instance (neg : Bool) (ek : EK) (x y : Arg) : Aut (.eqa neg ek x y) := ⟨rfl⟩
instance (op : UnOp) (x : Arg) : Aut (.un op x) := ⟨rfl⟩
instance (k : IntKind) (x : Arg) : Aut (.conv k x) := ⟨rfl⟩
instance (x : Arg) : Aut (.s2b x) := ⟨rfl⟩
instance (x : Arg) : Aut (.b2s x) := ⟨rfl⟩
instance (t : TypeId) (x : Arg) : Aut (.mki t x) := ⟨rfl⟩
instance (fn : Fn) (fs caps : List Arg) : Aut (.mkf fn fs caps) := ⟨rfl⟩
instance  : Aut (.mkmap) := ⟨rfl⟩
instance (sk : SK) (x : Arg) (lo hi mx : Option Arg) : Aut (.slice sk x lo hi mx) := ⟨rfl⟩
instance (off : Nat) (x : Arg) : Aut (.fld off x) := ⟨rfl⟩
instance (ag : Bool) (off k : Nat) (x : Arg) : Aut (.field ag off k x) := ⟨rfl⟩
instance (k : Nat) (x i : Arg) : Aut (.idxp k x i) := ⟨rfl⟩
instance (n k : Nat) (x i : Arg) : Aut (.idxa n k x i) := ⟨rfl⟩
instance (x i : Arg) : Aut (.idxs x i) := ⟨rfl⟩
instance (ag : Bool) (n k : Nat) (x i : Arg) : Aut (.idxv ag n k x i) := ⟨rfl⟩
instance (i : Nat) (x : Arg) : Aut (.extract i x) := ⟨rfl⟩
instance (lk : LK) (x : Arg) : Aut (.len lk x) := ⟨rfl⟩
instance (max : Bool) (xs : List Arg) : Aut (.mm max xs) := ⟨rfl⟩
instance (x : Arg) : Aut (.mentry x) := ⟨rfl⟩
instance (k bytes : Nat) (s x : Arg) : Man (.append k bytes s x) := ⟨rfl⟩
instance (kk : KK) (z : AV) (ok : Bool) (m k : Arg) : Man (.lookup kk z ok m k) := ⟨rfl⟩
instance (kk : KK) (m k x : Arg) : Man (.mapset kk m k x) := ⟨rfl⟩
instance (kk : KK) (m k : Arg) : Man (.mapdel kk m k) := ⟨rfl⟩
instance (z : List AV) (bytes : Nat) (l : Arg) : Man (.mksl z bytes l) := ⟨rfl⟩
inductive Wit {α : Type} (a : α) : Type where
  | a | b
section
variable {n : Nat}
def Kn (Q : Exit → AAct → AState → Prop) (d : List Nat) (t : List AV) (s : AState) : Prop := Q .normal { t := t, d := d } s
def envP (e : List (Nat × AV)) (d : Option Nat) (x : AV) : List (Nat × AV) := match d with | some d => (d, x) :: e | none => e
def Ko (cmp : Code → Option ACode) (P : Program) (r : List AOper) (K : List AV → AState → Prop) (n : Nat) (e : List (Nat × AV)) (d : Option Nat) (x : AV) (s : AState) : Prop := AOps cmp P r K (den n (envP e d x)) s
def Xe (cmp : Code → Option ACode) (P : Program) (d : Option Nat) (r : List AOper) (K : List AV → AState → Prop) (n : Nat) (e : List (Nat × AV)) (x : Option (AV × AState)) (w : Wit (cmp, P, d, r, K, n, e)) : Prop :=
  match x with | some (x, s) => Ko cmp P r K n e d x s | none => False
def Xg (cmp : Code → Option ACode) (P : Program) (d : Option Nat) (op : AOp) (b : Bool) (r : List AOper) (K : List AV → AState → Prop) (n : Nat) (e : List (Nat × AV)) (s : AState) (x : AV) (w : Wit (cmp, P, d, op, r, K, n, e)) : Prop :=
  match x with
  | .v (.bool b') => if b' = b then AOps cmp P (⟨d, op, none⟩ :: r) K (den n e) s else Ko cmp P r K n e d (.v undef) s
  | .v (.tuple ⟨[]⟩) => Ko cmp P r K n e d (.v undef) s
  | _ => False
def Xb (cmp : Code → Option ACode) (P : Program) (d : Option Nat) (op : AOp) (b : Bool) (r : List AOper) (K : List AV → AState → Prop) (n : Nat) (e : List (Nat × AV)) (s : AState) (b' : Bool) (w : Wit (cmp, P, d, op, r, K, n, e)) : Prop :=
  if b' = b then AOps cmp P (⟨d, op, none⟩ :: r) K (den n e) s else Ko cmp P r K n e d (.v undef) s
def Xc (P : Program) (ro : Option Nat) (a b : ACode) (Q : Exit → AAct → AState → Prop) (t : AAct) (s : AState) (x : AV) (w : Wit (P, ro, a, b, Q, t)) : Prop :=
  match x with | .v (.bool true) => wp P ro a Q t s | .v (.bool false) => wp P ro b Q t s | _ => False
def Xk (cmp : Code → Option ACode) (P : Program) (f : AV) (args : List AV) (s : AState) (R : AV → AState → Prop) (w : Wit (cmp, P, R)) : Prop := ACall cmp P f args s R
def Lruns (cmp : Code → Option ACode) (P : Program) (g : FuncId) (args : List AV) (s : AState) (R : AV → AState → Prop) (w : Wit (cmp, P, R)) : Prop := Runs cmp P g args s R
def Lyruns (cmp : Code → Option ACode) (P : Program) (l : Nat) (args : List AV) (s : AState) (R : AV → AState → Prop) (w : Wit (cmp, P, R)) : Prop := YRuns cmp P l args s R
def Lwp (P : Program) (ro : Option Nat) (c : ACode) (Q : Exit → AAct → AState → Prop) (t : AAct) (s : AState) (w : Wit (P, ro, c, Q, t)) : Prop := wp P ro c Q t s
def Lops (cmp : Code → Option ACode) (P : Program) (o : AOper) (r : List AOper) (K : List AV → AState → Prop) (n : Nat) (e : List (Nat × AV)) (s : AState) (w : Wit (cmp, P, o, r, K, n, e)) : Prop := AOps cmp P (o :: r) K (den n e) s
def Lfn (res : List ARes) (R : AV → AState → Prop) (E : Exit) (a : AAct) (s : AState) (w : Wit (res, R, E, a)) : Prop := fnQ res R E a s
def Lth (K : AAct → AState → Prop) (a : AAct) (s : AState) (w : Wit (K, a)) : Prop := K a s
def Lfi (fin : Option AJump → AState → Prop) (o : Option AJump) (s : AState) (w : Wit (fin, o)) : Prop := fin o s
end
section
variable {Q : Exit → AAct → AState → Prop} {a : AAct} {s s' : AState} {d : List Nat} {n : Nat} {e : List (Nat × AV)} {t : List AV} {x : AV}
theorem s_skip : wp P ro .skip Q a s = Q .normal a s := rfl
theorem s_seq {x y : ACode} : wp P ro (.seq x y) Q a s = wp P ro x (seqQ (wp P ro y) Q) a s := rfl
theorem s_block {i : Nat} {x : ACode} : wp P ro (.block i x) Q a s = wp P ro x (inBlk i Q) a s := rfl
theorem s_exit {i : Nat} : wp P ro (.exit i) Q a s = Q (.exit i) a s := rfl
theorem s_ret : wp P ro .ret Q a s = Q .ret a s := rfl
theorem s_loop {c : ACode} : wp P ro (.loop c) Q a s = Lwp P ro (.loop c) Q a s .a := rfl
theorem s_range {f : Arg} {ps : List Nat} {g b : ACode} : wp P ro (.range f ps g b) Q a s = Lwp P ro (.range f ps g b) Q a s .a := rfl
theorem s_drawL {ds : List DOper} : wp P ro (.draw ds) Q a s = Lwp P ro (.draw ds) Q a s .a := rfl
theorem s_region {ops : List AOper} : wp P ro (.region ops) Q { t := t, d := d } s = AOps (compCode P) P ops (Kn Q d) t s := rfl
theorem s_cond {c : Arg} {x y : ACode} : wp P ro (.cond c x y) Q { t := den n e, d := d } s = Xc P ro x y Q { t := den n e, d := d } s (c.ev (den n e)) .a := by
  show (∃ t, c.ev (den n e) = .v (.bool t) ∧ _) = _
  unfold Xc
  apply propext
  constructor
  · rintro ⟨t, h, h1, h2⟩
    rw [h]
    cases t
    · exact h2 rfl
    · exact h1 rfl
  · intro h
    split at h
    · next e => exact ⟨true, e, fun _ => h, fun h => by cases h⟩
    · next e => exact ⟨false, e, (fun h => by cases h), fun _ => h⟩
    · exact h.elim
theorem s_ct {x y : ACode} : Xc P ro x y Q a s (.v (.bool true)) .a = wp P ro x Q a s := rfl
theorem s_cf {x y : ACode} : Xc P ro x y Q a s (.v (.bool false)) .a = wp P ro y Q a s := rfl
theorem s_split {x y : ACode} {b : Bool} (h1 : b = true → wp P ro x Q a s) (h2 : b = false → wp P ro y Q a s) : Xc P ro x y Q a s (.v (.bool b)) .a := by
  cases b
  · exact h2 rfl
  · exact h1 rfl
theorem i_T {x y : ACode} {b : Bool} (h : b = true) (k : wp P ro x Q a s) : Xc P ro x y Q a s (.v (.bool b)) .a := by subst h; exact k
theorem i_F {x y : ACode} {b : Bool} (h : b = false) (k : wp P ro y Q a s) : Xc P ro x y Q a s (.v (.bool b)) .a := by subst h; exact k
theorem s_kn : Kn Q d t s = Q .normal { t := t, d := d } s := rfl
theorem s_q_n {W : (Exit → AAct → AState → Prop) → AAct → AState → Prop} : seqQ W Q .normal a s = W Q a s := rfl
theorem s_q_e {W : (Exit → AAct → AState → Prop) → AAct → AState → Prop} {i : Nat} : seqQ W Q (.exit i) a s = Q (.exit i) a s := rfl
theorem s_q_r {W : (Exit → AAct → AState → Prop) → AAct → AState → Prop} : seqQ W Q .ret a s = Q .ret a s := rfl
theorem s_b_n {i : Nat} : inBlk i Q .normal a s = Q .normal a s := rfl
theorem s_b_x {i j : Nat} : inBlk i Q (.exit j) a s = if j = i then Q .normal a s else Q (.exit j) a s := rfl
theorem s_b_r {i : Nat} : inBlk i Q .ret a s = Q .ret a s := rfl
theorem s_t_n {K : AAct → AState → Prop} : thenQ K Q .normal a s = Lth K a s .a := rfl
theorem s_t_e {K : AAct → AState → Prop} {i : Nat} : thenQ K Q (.exit i) a s = Q (.exit i) a s := rfl
theorem s_t_r {K : AAct → AState → Prop} : thenQ K Q .ret a s = Q .ret a s := rfl
theorem s_f_n {res : List ARes} {R : AV → AState → Prop} : fnQ res R .normal a s = Lfn res R .normal a s .a := rfl
theorem s_f_r {res : List ARes} {R : AV → AState → Prop} : fnQ res R .ret a s = Lfn res R .ret a s .a := rfl
variable {K : List AV → AState → Prop} {r : List AOper} {op : AOp} {dd : Option Nat}
theorem s_nil : AOps cmp P [] K t s = K t s := rfl
theorem s_ko {d : Nat} : Ko cmp P r K n e (some d) x s = AOps cmp P r K (den n ((d, x) :: e)) s := rfl
theorem s_ko0 : Ko cmp P r K n e none x s = AOps cmp P r K (den n e) s := rfl
theorem put_dd : putT (den n e) dd x = den n (envP e dd x) := by
  cases dd with
  | none => rfl
  | some d => exact put_den _ _ _ _
theorem astep_iff {t : List AV} {Q : AV → AState → Prop} (h : op.isCall = false) : AStepG cmp P ⟨dd, op, none⟩ t s Q = ∃ x s', op.exec t s = some (x, s') ∧ Q x s' := by
  unfold AStepG
  cases op <;> first | rfl | (simp [AOp.isCall] at h)
theorem s_op [ha : Aut op] : AOps cmp P (⟨dd, op, none⟩ :: r) K (den n e) s = Xe cmp P dd r K n e (op.exec (den n e) s) .a := by
  show AStepG cmp P ⟨dd, op, none⟩ (den n e) s _ = _
  rw [astep_iff ha.h]
  simp only [put_dd]
  unfold Xe Ko
  apply propext
  constructor
  · rintro ⟨x, s', h1, h2⟩
    rw [h1]; exact h2
  · intro h
    split at h
    · next x s' hx => exact ⟨x, s', hx, h⟩
    · exact h.elim
theorem s_man [Man op] : AOps cmp P (⟨dd, op, none⟩ :: r) K (den n e) s = Lops cmp P ⟨dd, op, none⟩ r K n e s .a := rfl
theorem s_xe : Xe cmp P dd r K n e (some (x, s)) .a = Ko cmp P r K n e dd x s := rfl
theorem s_call {f : Arg} {args : List Arg} : AOps cmp P (⟨dd, .call f args, none⟩ :: r) K (den n e) s = Xk cmp P (f.ev (den n e)) (args.map (Arg.ev (den n e))) s (Ko cmp P r K n e dd) .a := by
  show ACall cmp P _ _ s _ = ACall cmp P _ _ s _
  congr 1
  funext x s'
  rw [put_dd]; rfl
theorem s_xk {g : FuncId} {fs caps args : List AV} {R : AV → AState → Prop} : Xk cmp P (.f (.func g) fs caps) args s R .a = Lruns cmp P g (fs ++ args ++ caps) s R .a := rfl
theorem s_xy {l : Nat} {args : List AV} {R : AV → AState → Prop} : Xk cmp P (.y l) args s R .a = Lyruns cmp P l args s R .a := rfl
def Xn (cmp : Code → Option ACode) (P : Program) (d : Option Nat) (neg : Bool) (r : List AOper) (K : List AV → AState → Prop) (n : Nat) (e : List (Nat × AV)) (s : AState) (x : AV) (w : Wit (cmp, P, d, r, K, n, e)) : Prop := ANil neg x (fun b => Ko cmp P r K n e d (.v (.bool b)) s)
theorem s_nilop {neg : Bool} {y : Arg} : AOps cmp P (⟨dd, .isnil neg y, none⟩ :: r) K (den n e) s = Xn cmp P dd neg r K n e s (y.ev (den n e)) .a := by
  show ANil neg _ _ = ANil neg _ _
  congr 1
  funext b
  show AOps cmp P r K (putT (den n e) dd _) s = _
  rw [put_dd]; rfl
theorem i_N {neg : Bool} {ys : List AV} {tk : Tok} (h1 : ys ≠ [] → Ko cmp P r K n e dd (.v (.bool neg)) s) (h2 : ys = [] → ∀ b, Ko cmp P r K n e dd (.v (.bool b)) s) : Xn cmp P dd neg r K n e s (.sl ys tk) .a := by
  cases ys with
  | nil => exact h2 rfl
  | cons y ys => exact h1 (by simp)
theorem guard_iff {i : Nat} {b : Bool} {R : AV → AState → Prop} : AStepG cmp P ⟨dd, op, some (i, b)⟩ (den n e) s R = match look n e i with
    | .v (.bool b') => if b' = b then AStepG cmp P ⟨dd, op, none⟩ (den n e) s R else R (.v undef) s
    | .v (.tuple ⟨[]⟩) => R (.v undef) s
    | _ => False := by
  unfold AStepG
  simp only [getD_den]
  apply propext
  constructor
  · rintro (⟨b', h1, h2⟩ | ⟨h1, h2⟩)
    · rw [h1]; exact h2
    · rw [h1]; exact h2
  · intro h
    split at h
    · next b' hb => exact .inl ⟨b', hb, h⟩
    · next hb => exact .inr ⟨hb, h⟩
    · exact h.elim
theorem s_guard {i : Nat} {b : Bool} : AOps cmp P (⟨dd, op, some (i, b)⟩ :: r) K (den n e) s = Xg cmp P dd op b r K n e s (look n e i) .a := by
  have e2 : ∀ {g : Option (Nat × Bool)}, AOps cmp P (⟨dd, op, g⟩ :: r) K (den n e) s = AStepG cmp P ⟨dd, op, g⟩ (den n e) s (fun x s' => AOps cmp P r K (putT (den n e) dd x) s') := fun {g} => rfl
  rw [e2, guard_iff]
  unfold Xg Ko
  simp only [e2, put_dd]
theorem s_xg {b b' : Bool} : Xg cmp P dd op b r K n e s (.v (.bool b')) .a = Xb cmp P dd op b r K n e s b' .a := rfl
theorem s_xgu {b : Bool} : Xg cmp P dd op b r K n e s (.v (.tuple #[])) .a = Ko cmp P r K n e dd (.v undef) s := rfl
theorem s_xb1 : Xb cmp P dd op true r K n e s true .a = AOps cmp P (⟨dd, op, none⟩ :: r) K (den n e) s := by simp [Xb]
theorem s_xb2 : Xb cmp P dd op false r K n e s false .a = AOps cmp P (⟨dd, op, none⟩ :: r) K (den n e) s := by simp [Xb]
theorem s_xb3 : Xb cmp P dd op true r K n e s false .a = Ko cmp P r K n e dd (.v undef) s := by simp [Xb]
theorem s_xb4 : Xb cmp P dd op false r K n e s true .a = Ko cmp P r K n e dd (.v undef) s := by simp [Xb]
theorem s_gsplit {b b' : Bool} (h1 : b' = b → AOps cmp P (⟨dd, op, none⟩ :: r) K (den n e) s) (h2 : b' = !b → Ko cmp P r K n e dd (.v undef) s) : Xb cmp P dd op b r K n e s b' .a := by
  unfold Xb
  split
  · next e => exact h1 e
  · next e => exact h2 (by cases b <;> cases b' <;> simp_all)
theorem g_T {b b' : Bool} (h : b' = b) (k : AOps cmp P (⟨dd, op, none⟩ :: r) K (den n e) s) : Xb cmp P dd op b r K n e s b' .a := by unfold Xb; rw [if_pos h]; exact k
theorem g_F {b b' : Bool} (h : b' = !b) (k : Ko cmp P r K n e dd (.v undef) s) : Xb cmp P dd op b r K n e s b' .a := by unfold Xb; rw [if_neg (by subst h; simp)]; exact k
theorem m_1 {d : Nat} [hm : Man op] (h : op.exec (den n e) s = some (x, s')) (k : AOps cmp P r K (den n ((d, x) :: e)) s') : Lops cmp P ⟨some d, op, none⟩ r K n e s .a := o_1 hm.h h k
theorem m_0 [hm : Man op] (h : op.exec (den n e) s = some (x, s')) (k : AOps cmp P r K (den n e) s') : Lops cmp P ⟨none, op, none⟩ r K n e s .a := o_0 hm.h h k
theorem m_draw {ds : List DOper} (k : DWalk (compCode P) P ds (Kn Q d) t s) : Lwp P ro (.draw ds) Q { t := t, d := d } s .a := k
theorem giv {g : FuncId} {args args' : List AV} {y : AV} {R : AV → AState → Prop} (hCT : Gives P g args' s y s') (hAR : args.map AV.strip = args') (hK : R y s') : Lruns (compCode P) P g args s R .a := by
  subst hAR
  exact (hCT.strip).mono (by rintro _ _ ⟨rfl, rfl⟩; exact hK)
theorem run {g : FuncId} {args args' : List AV} {R R' : AV → AState → Prop} (h : Runs (compCode P) P g args' s R') (ha : args = args') (k : ∀ x s', R' x s' → R x s') : Lruns (compCode P) P g args s R .a := by
  subst ha
  exact h.mono k
theorem yru {l : Nat} {args args' : List AV} {Q Q' : AV → AState → Prop} (h : YRuns (compCode P) P l args' s Q') (ha : args = args') (k : ∀ x s', Q' x s' → Q x s') : Lyruns (compCode P) P l args s Q .a := by
  subst ha
  obtain ⟨t, ps, asg, body, d, h1, h2, h3⟩ := h
  refine ⟨t, ps, asg, body, d, h1, h2, fun code hc => (h3 code hc).mono ?_⟩
  rintro e a s ⟨rfl, k2, k3⟩
  refine ⟨rfl, k2, fun code hc => (k3 code hc).mono ?_⟩
  rintro e a s ⟨m1, m2⟩
  refine ⟨m1, ?_⟩
  cases e <;> first | exact k _ _ m2 | exact m2
end
section
variable {K : List AV → AState → Prop} {n : Nat} {e : List (Nat × AV)} {s s1 : AState} {op : AOp} {dd : Option Nat} {r : List DOper} {am : Bool} {opens : List AOper} {x : AV}
def Yo (cmp : Code → Option ACode) (P : Program) (r : List DOper) (K : List AV → AState → Prop) (n : Nat) (e : List (Nat × AV)) (d : Option Nat) (x : AV) (s : AState) : Prop := DWalk cmp P r K (den n (envP e d x)) s
def LOp (cmp : Code → Option ACode) (P : Program) (opens : List AOper) (s : AState) (n : Nat) (e : List (Nat × AV)) (s1 : AState) (w : Wit (cmp, P, opens, s, n, e)) : Prop := Opens cmp P opens s (den n e) s1
def Yk (cmp : Code → Option ACode) (P : Program) (opens : List AOper) (s : AState) (r : List DOper) (K : List AV → AState → Prop) (n : Nat) (e : List (Nat × AV)) (d : Option Nat) (x : AV) (s1 : AState) : Prop :=
  LOp cmp P opens s n (envP e d x) s1 .a ∧ Yo cmp P r K n e d x s1
def Ye (cmp : Code → Option ACode) (P : Program) (s : AState) (r : List DOper) (K : List AV → AState → Prop) (n : Nat) (e : List (Nat × AV)) (d : Option Nat) (x : Option (AV × AState)) (w : Wit (cmp, P, r, K, n, e, d)) : Prop :=
  match x with | some (x, s1) => s1 = s ∧ Yo cmp P r K n e d x s | none => False
def Yf (cmp : Code → Option ACode) (P : Program) (opens : List AOper) (s : AState) (r : List DOper) (K : List AV → AState → Prop) (n : Nat) (e : List (Nat × AV)) (d : Option Nat) (x : Option (AV × AState)) (w : Wit (cmp, P, opens, s, r, K, n, e, d)) : Prop :=
  match x with | some (x, s1) => Yk cmp P opens s r K n e d x s1 | none => False
def Ldw (cmp : Code → Option ACode) (P : Program) (o : DOper) (r : List DOper) (K : List AV → AState → Prop) (n : Nat) (e : List (Nat × AV)) (s : AState) (w : Wit (cmp, P, o, r, K, n, e)) : Prop := DWalk cmp P (o :: r) K (den n e) s
def Yg (cmp : Code → Option ACode) (P : Program) (op : AOp) (b ef am : Bool) (opens : List AOper) (r : List DOper) (K : List AV → AState → Prop) (n : Nat) (e : List (Nat × AV)) (d : Option Nat) (s : AState) (x : AV) (w : Wit (cmp, P, op, b, ef, am, opens, r, K, n, e, d)) : Prop :=
  match x with
  | .v (.bool b') => if b' = b then DWalk cmp P (⟨⟨d, op, none⟩, ef, am, opens⟩ :: r) K (den n e) s else Yo cmp P r K n e d (.v undef) s
  | .v (.tuple ⟨[]⟩) => Yo cmp P r K n e d (.v undef) s
  | _ => False
def Yb (cmp : Code → Option ACode) (P : Program) (op : AOp) (b ef am : Bool) (opens : List AOper) (r : List DOper) (K : List AV → AState → Prop) (n : Nat) (e : List (Nat × AV)) (d : Option Nat) (s : AState) (b' : Bool) (w : Wit (cmp, P, op, ef, am, opens, r, K, n, e, d)) : Prop :=
  if b' = b then DWalk cmp P (⟨⟨d, op, none⟩, ef, am, opens⟩ :: r) K (den n e) s else Yo cmp P r K n e d (.v undef) s
def Lcq (cmp : Code → Option ACode) (P : Program) (f : AV) (args : List AV) (am : Bool) (r : List DOper) (K : List AV → AState → Prop) (n : Nat) (e : List (Nat × AV)) (d : Option Nat) (s : AState) (w : Wit (cmp, P, am, r, K, n, e, d)) : Prop :=
  ∃ x, (ACall cmp P f args s (fun x' s' => x' = x ∧ s' = s) ∧ (am = true → ∀ s1, s.ext s1 → ACall cmp P f args s1 (fun x' s' => x' = x ∧ s' = s1))) ∧ Yo cmp P r K n e d x s
theorem s_dnil : DWalk cmp P [] K (den n e) s = K (den n e) s := rfl
theorem s_yo {d : Nat} : Yo cmp P r K n e (some d) x s = DWalk cmp P r K (den n ((d, x) :: e)) s := rfl
theorem s_yk {d : Nat} : Yk cmp P opens s r K n e (some d) x s1 = (LOp cmp P opens s n ((d, x) :: e) s1 .a ∧ DWalk cmp P r K (den n ((d, x) :: e)) s1) := rfl
theorem s_yk0 : Yk cmp P opens s r K n e none x s1 = (LOp cmp P opens s n e s1 .a ∧ DWalk cmp P r K (den n e) s1) := rfl
theorem s_op0 : LOp cmp P [] s n e s1 .a = True := by simp [LOp, Opens]
theorem s_ops : LOp cmp P opens s n e s .a = True := by simp only [LOp, eq_iff_iff, iff_true]; exact Opens.same
theorem s_ye : Ye cmp P s r K n e dd (some (x, s1)) .a = (s1 = s ∧ Yo cmp P r K n e dd x s) := rfl
theorem s_yf : Yf cmp P opens s r K n e dd (some (x, s1)) .a = Yk cmp P opens s r K n e dd x s1 := rfl
theorem dwalk_false {o : AOper} {t : List AV} : DWalk cmp P (⟨o, false, am, opens⟩ :: r) K t s = ∃ x, Stab cmp P ⟨o, false, am, opens⟩ t s x ∧ DWalk cmp P r K (putT t o.dst x) s := rfl
theorem s_dop [ha : Aut op] : DWalk cmp P (⟨⟨dd, op, none⟩, false, am, opens⟩ :: r) K (den n e) s = Ye cmp P s r K n e dd (op.exec (den n e) s) .a := by
  have h := ha.h
  rw [dwalk_false]
  unfold Stab
  simp only [astep_iff h, put_dd]
  unfold Ye Yo
  apply propext
  constructor
  · rintro ⟨x, ⟨⟨x', s', h1, rfl, h2⟩, _⟩, h3⟩
    rw [h1]; exact ⟨h2, h3⟩
  · intro k
    split at k
    · next x s' hx => exact ⟨x, ⟨⟨x, s', hx, rfl, k.1⟩, fun _ hc => by rw [h] at hc; cases hc⟩, k.2⟩
    · exact k.elim
theorem s_dop1 [ha : Aut op] : DWalk cmp P (⟨⟨dd, op, none⟩, true, am, opens⟩ :: r) K (den n e) s = Yf cmp P opens s r K n e dd (op.exec (den n e) s) .a := by
  show AStepG cmp P ⟨dd, op, none⟩ (den n e) s _ = _
  rw [astep_iff ha.h]
  simp only [put_dd]
  unfold Yf Yk Yo
  apply propext
  constructor
  · rintro ⟨x, s', h1, h2⟩
    rw [h1]; exact h2
  · intro k
    split at k
    · next x s' hx => exact ⟨x, s', hx, k⟩
    · exact k.elim
theorem s_dman {ef : Bool} [Man op] : DWalk cmp P (⟨⟨dd, op, none⟩, ef, am, opens⟩ :: r) K (den n e) s = Ldw cmp P ⟨⟨dd, op, none⟩, ef, am, opens⟩ r K n e s .a := rfl
theorem s_dcall {f : Arg} {args : List Arg} : DWalk cmp P (⟨⟨dd, .call f args, none⟩, true, am, opens⟩ :: r) K (den n e) s = Xk cmp P (f.ev (den n e)) (args.map (Arg.ev (den n e))) s (Yk cmp P opens s r K n e dd) .a := by
  show ACall cmp P _ _ s _ = ACall cmp P _ _ s _
  congr 1
  funext x s'
  simp only [put_dd]; rfl
theorem s_dcallq {f : Arg} {args : List Arg} : DWalk cmp P (⟨⟨dd, .call f args, none⟩, false, am, opens⟩ :: r) K (den n e) s = Lcq cmp P (f.ev (den n e)) (args.map (Arg.ev (den n e))) am r K n e dd s .a := by
  rw [dwalk_false]
  unfold Stab Lcq
  simp only [put_dd]
  apply propext
  constructor
  · rintro ⟨x, ⟨h1, h2⟩, h3⟩
    exact ⟨x, ⟨h1, fun ha => h2 ha rfl⟩, h3⟩
  · rintro ⟨x, ⟨h1, h2⟩, h3⟩
    exact ⟨x, ⟨h1, fun ha _ => h2 ha⟩, h3⟩
theorem s_dguard {i : Nat} {b ef : Bool} : DWalk cmp P (⟨⟨dd, op, some (i, b)⟩, ef, am, opens⟩ :: r) K (den n e) s = Yg cmp P op b ef am opens r K n e dd s (look n e i) .a := by
  apply propext
  cases ef with
  | true =>
    have e2 : ∀ {g : Option (Nat × Bool)}, DWalk cmp P (⟨⟨dd, op, g⟩, true, am, opens⟩ :: r) K (den n e) s = AStepG cmp P ⟨dd, op, g⟩ (den n e) s (fun x s' => Opens cmp P opens s (putT (den n e) dd x) s' ∧ DWalk cmp P r K (putT (den n e) dd x) s') := fun {g} => rfl
    rw [e2, guard_iff]
    unfold Yg
    simp only [e2]
    have same : Opens cmp P opens s (putT (den n e) dd (.v undef)) s := .same
    split <;> simp_all [put_dd, Yo]
  | false =>
    rw [dwalk_false]
    unfold Stab Yg
    simp only [guard_iff, dwalk_false, put_dd, Yo]
    split
    · split
      · exact Iff.rfl
      · constructor
        · rintro ⟨x, ⟨⟨rfl, _⟩, _⟩, h⟩; exact h
        · intro h; exact ⟨_, ⟨⟨rfl, trivial⟩, fun _ _ _ _ => ⟨rfl, trivial⟩⟩, h⟩
    · constructor
      · rintro ⟨x, ⟨⟨rfl, _⟩, _⟩, h⟩; exact h
      · intro h; exact ⟨_, ⟨⟨rfl, trivial⟩, fun _ _ _ _ => ⟨rfl, trivial⟩⟩, h⟩
    · constructor
      · rintro ⟨x, ⟨h, _⟩, _⟩; exact h
      · exact False.elim
theorem s_yg {b b' ef : Bool} : Yg cmp P op b ef am opens r K n e dd s (.v (.bool b')) .a = Yb cmp P op b ef am opens r K n e dd s b' .a := rfl
theorem s_yb1 {ef : Bool} : Yb cmp P op true ef am opens r K n e dd s true .a = DWalk cmp P (⟨⟨dd, op, none⟩, ef, am, opens⟩ :: r) K (den n e) s := by simp [Yb]
theorem s_yb2 {ef : Bool} : Yb cmp P op false ef am opens r K n e dd s false .a = DWalk cmp P (⟨⟨dd, op, none⟩, ef, am, opens⟩ :: r) K (den n e) s := by simp [Yb]
theorem s_yb3 {ef : Bool} : Yb cmp P op true ef am opens r K n e dd s false .a = Yo cmp P r K n e dd (.v undef) s := by simp [Yb]
theorem s_yb4 {ef : Bool} : Yb cmp P op false ef am opens r K n e dd s true .a = Yo cmp P r K n e dd (.v undef) s := by simp [Yb]
theorem s_dsplit {b b' ef : Bool} (h1 : b' = b → DWalk cmp P (⟨⟨dd, op, none⟩, ef, am, opens⟩ :: r) K (den n e) s) (h2 : b' = !b → Yo cmp P r K n e dd (.v undef) s) : Yb cmp P op b ef am opens r K n e dd s b' .a := by
  unfold Yb
  split
  · next e => exact h1 e
  · next e => exact h2 (by cases b <;> cases b' <;> simp_all)
theorem h_T {b b' ef : Bool} (h : b' = b) (k : DWalk cmp P (⟨⟨dd, op, none⟩, ef, am, opens⟩ :: r) K (den n e) s) : Yb cmp P op b ef am opens r K n e dd s b' .a := by unfold Yb; rw [if_pos h]; exact k
theorem h_F {b b' ef : Bool} (h : b' = !b) (k : Yo cmp P r K n e dd (.v undef) s) : Yb cmp P op b ef am opens r K n e dd s b' .a := by unfold Yb; rw [if_neg (by subst h; simp)]; exact k
theorem givQ {g : FuncId} {fs caps args args' : List AV} {y : AV} (hAR : (fs ++ args ++ caps).map AV.strip = args') (hCT : ∀ s1, s.ext s1 → Gives P g args' s1 y s1) (hK : Yo (compCode P) P r K n e dd y s) :
    Lcq (compCode P) P (.f (.func g) fs caps) args am r K n e dd s .a := by
  subst hAR
  exact ⟨y, ⟨(hCT s (.refl s)).strip, fun _ s1 h1 => (hCT s1 h1).strip⟩, hK⟩
theorem m_op {o : List AOper} (h : opensE n e s1 o) : LOp cmp P o s n e s1 .a := Opens.of_E h
theorem m_ext {o : List AOper} (h : s.ext s1) : LOp cmp P o s n e s1 .a := Opens.of_ext h
theorem m_d1 {d : Nat} {s' : AState} (hp : (op.pure' || op.reads) = true) (h : op.exec (den n e) s = some (x, s')) (k : DWalk cmp P r K (den n ((d, x) :: e)) s) : Ldw cmp P ⟨⟨some d, op, none⟩, false, am, opens⟩ r K n e s .a := by
  have := exec_same hp h; subst this; exact d_1 hp h k
theorem m_dE {d : Nat} {s' : AState} [hm : Man op] (h : op.exec (den n e) s = some (x, s')) (ho : LOp cmp P opens s n ((d, x) :: e) s' .a) (k : DWalk cmp P r K (den n ((d, x) :: e)) s') : Ldw cmp P ⟨⟨some d, op, none⟩, true, am, opens⟩ r K n e s .a := d_eff hm.h h ho k
theorem m_dE0 {s' : AState} [hm : Man op] (h : op.exec (den n e) s = some (x, s')) (ho : LOp cmp P opens s n e s' .a) (k : DWalk cmp P r K (den n e) s') : Ldw cmp P ⟨⟨none, op, none⟩, true, am, opens⟩ r K n e s .a := d_effN hm.h h ho k
end
section
variable {L : Nat} {LR LB : AObj} {LJ : AJump → AObj} {body : ACode} {fin : Option AJump → AState → Prop} {a : AAct} {s : AState} {id : Nat}
theorem s_ra : roundA P L LR LB LJ body fin .normal a s = (s.get L = LR ∧ wp P (some L) body (roundB L LR LB LJ fin) a (s.set L LB)) := by simp [roundA]
theorem s_rn : roundB L LR LB LJ fin .normal a s = (s.get L = LB ∧ Lfi fin none (s.set L LR) .a) := rfl
theorem s_rr : roundB L LR LB LJ fin .ret a s = (s.get L = LB ∧ Lfi fin (some .ret) (s.set L (LJ .ret)) .a) := rfl
theorem s_re : roundB L LR LB LJ fin (.exit id) a s = (s.get L = LB ∧ Lfi fin (some (.exit id)) (s.set L (LJ (.exit id))) .a) := rfl
end
attribute [simp ↓] s_skip s_seq s_block s_exit s_ret s_loop s_range s_drawL s_region s_cond s_ct s_cf s_kn s_q_n s_q_e s_q_r s_b_n s_b_x s_b_r s_t_n s_t_e s_t_r s_f_n s_f_r s_nil s_ko s_ko0 s_op s_man s_xe s_call s_xk s_xy s_nilop s_guard s_xg s_xgu s_xb1 s_xb2 s_xb3 s_xb4 s_dnil s_yo s_yk s_yk0 s_op0 s_ops s_ye s_yf s_dop s_dop1 s_dman s_dcall s_dcallq s_dguard s_yg s_yb1 s_yb2 s_yb3 s_yb4 s_ra s_rn s_rr s_re
end Go.Ab
end
section
namespace Go.Ab
open Go.RowKit Go.Proofs
set_option linter.unusedVariables false
set_option linter.unusedSimpArgs false
set_option linter.unusedSectionVars false
variable {cmp : Code → Option ACode} {P : Program}
section
variable {κ β : Type} [DecidableEq κ] [KE κ] {n : Nat} {e : List (Nat × AV)} {s : AState} {d b : Nat} {k : κ} {enc : β → AV} {A : List (κ × β)} {z : AV} {ok : Bool} {m kx x : Arg} {v : β} {kk : KK} {r : List AOper} {rd : List DOper} {am : Bool} {opens : List AOper} {K : List AV → AState → Prop}
theorem m_mset (hm : m.ev (den n e) = .m b) (hs : s.get b = .map (encM enc A)) (hk : kx.ev (den n e) = KE.kenc k) (hx : x.ev (den n e) = enc v) (h : AOps cmp P r K (den n e) (s.set b (.map (encM enc (setM A k v))))) (hkk : kk = KE.kk κ := by rfl) :
    Lops cmp P ⟨none, .mapset kk m kx x, none⟩ r K n e s .a := o_mset hm hs hk hx h hkk
theorem q_look (hm : m.ev (den n e) = .m b) (hs : s.get b = .map (encM enc A)) (hk : kx.ev (den n e) = KE.kenc k) (h : DWalk cmp P rd K (den n ((d, lkV enc A k z ok) :: e)) s) (hkk : kk = KE.kk κ := by rfl) :
    Ldw cmp P ⟨⟨some d, .lookup kk z ok m kx, none⟩, false, am, opens⟩ rd K n e s .a := d_look hm hs hk h hkk
variable {B : AState} {c bytes N : Nat} {sx sy : Arg} {xs ys : List AV} {tk t2 : Tok}
theorem m_app (hx : sx.ev (den n e) = .sl xs tk) (hy : sy.ev (den n e) = .sl ys t2) (hB : Grows B s) (hN : B.n ≤ N) (hN2 : N ≤ s.n) (hm : May N s xs tk) (h1 : headK c xs = true) (h2 : ys.all (okRow c) = true) (h3 : (xs.length + ys.length) * bytes ≤ 140737488355328) (h4 : xs.length + ys.length ≤ 4611686018427387904)
    (hk : ∀ s' tk2, Grows B s' → May N s' (xs ++ ys.map AV.strip) tk2 → (∀ x, x < N → s'.get x = s.get x) → s.ext s' → AOps cmp P r K (den n ((d, .sl (xs ++ ys.map AV.strip) tk2) :: e)) s') : Lops cmp P ⟨some d, .append c bytes sx sy, none⟩ r K n e s .a :=
  o_appA hx hy hB hN hN2 hm h1 h2 h3 h4 hk
theorem q_app (hx : sx.ev (den n e) = .sl xs tk) (hy : sy.ev (den n e) = .sl ys t2) (hB : Grows B s) (hN : B.n ≤ N) (hN2 : N ≤ s.n) (hm : May N s xs tk) (h1 : headK c xs = true) (h2 : ys.all (okRow c) = true) (h3 : (xs.length + ys.length) * bytes ≤ 140737488355328) (h4 : xs.length + ys.length ≤ 4611686018427387904)
    (hk : ∀ s' tk2, Grows B s' → May N s' (xs ++ ys.map AV.strip) tk2 → (∀ x, x < N → s'.get x = s.get x) → s.ext s' → DWalk cmp P rd K (den n ((d, .sl (xs ++ ys.map AV.strip) tk2) :: e)) s') : Ldw cmp P ⟨⟨some d, .append c bytes sx sy, none⟩, true, am, opens⟩ rd K n e s .a :=
  d_appA hx hy hB hN hN2 hm h1 h2 h3 h4 hk
end
end Go.Ab
end
