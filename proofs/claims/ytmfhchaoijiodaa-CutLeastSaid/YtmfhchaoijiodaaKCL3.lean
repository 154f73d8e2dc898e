/- Going on. -/
import Derived.RangeFuncRecord
import Derived.RangeFuncFrom
import Derived.Test.YtmfhchaoijiodaaKCL2
section
namespace Go.Ab
open Go.RowKit
set_option linter.unusedVariables false
def ofCell : Value → AV
  | .slice none 0 0 => .sl [] .zero
  | .func (.func f) ⟨[]⟩ ⟨[]⟩ => .f (.func f) [] []
  | x => .v x
def ofConst : Value → AV
  | .agg cs => .agg (cs.toList.map ofCell)
  | .tuple cs => .tup (cs.toList.map ofCell)
  | x => ofCell x
theorem R_ofCell (c : Cx) (x : Value) : R c (ofCell x) x := by
  unfold ofCell
  split
  · exact .sl0 _ none (fun k => by simp)
  · exact .f _ [] [] [] [] rfl (fun j h => absurd h (by simp)) rfl (fun j h => absurd h (by simp))
  · exact .v x
theorem RL_ofCell (c : Cx) (l : List Value) : RL c (l.map ofCell) l :=
  ⟨by simp, fun j h => by
    have h' : j < l.length := by simpa using h
    rw [List.getElem_map, List.getD_eq_getElem?_getD, List.getElem?_eq_getElem h']; exact R_ofCell c _⟩
theorem R_ofConst (c : Cx) (x : Value) : R c (ofConst x) x := by
  unfold ofConst
  split
  · exact R.agg' (RL_ofCell c _)
  · exact R.tup' (RL_ofCell c _)
  · exact R_ofCell c _
def cArg : Operand → Option Arg
  | .tmp t => some (.t t)
  | .const x => some (.c (ofConst x))
  | .func f => some (.c (.f (.func f) [] []))
  | .global _ => none
def Arg.ev (a : List AV) : Arg → AV
  | .t i => a.getD i .any
  | .c x => x
structure AAct where
  t : List AV
  d : List Nat
structure RA (c : Cx) (aa : AAct) (a : Act) : Prop where
  t : RL c aa.t a.tmps.toList
  d : a.defers = aa.d.map (fun x => { target := .collected (c.mu x), args := #[] })
  dn : ∀ x ∈ aa.d, x < c.n
theorem RA.mono {c c' : Cx} (h : c.le c') {aa : AAct} {a : Act} (hr : RA c aa a) : RA c' aa a :=
  ⟨hr.t.mono h, by rw [hr.d]; exact List.map_congr_left fun x hx => by rw [h.mu x (hr.dn x hx)], fun x hx => Nat.lt_of_lt_of_le (hr.dn x hx) h.n⟩
theorem RL.ev {c : Cx} {t : List AV} {a : Act} (hr : RL c t a.tmps.toList) {o : Operand} {x : Arg} (h : cArg o = some x) : R c (x.ev t) (a.eval o) := by
  cases o with
  | tmp t =>
    simp [cArg] at h; subst h
    have := hr.get t
    simpa [Arg.ev, Act.eval, Array.getD_eq_getD_getElem?, List.getD_eq_getElem?_getD] using this
  | const v => simp [cArg] at h; subst h; exact R_ofConst c v
  | func f => simp [cArg] at h; subst h; exact .f _ [] [] [] [] rfl (fun j h => absurd h (by simp)) rfl (fun j h => absurd h (by simp))
  | global g => simp [cArg] at h
theorem RA.ev {c : Cx} {aa : AAct} {a : Act} (hr : RA c aa a) {o : Operand} {x : Arg} (h : cArg o = some x) : R c (x.ev aa.t) (a.eval o) := hr.t.ev h
def Fw (ro : Option Nat) : Fence := { Fence.wide with round := ro }
def Lift (cmp : Code → Option ACode) (c0 : Cx) (s0 : AState) (w0 : World) (Q : Exit → AAct → AState → Prop) : Exit → Act → World → Prop :=
  fun e a w => ∃ c aa s, Ext c0 s0 w0 c s w ∧ Rel cmp c s w ∧ RA c aa a ∧ Q e aa s
def WC (cmp : Code → Option ACode) (P : Program) (ro : Option Nat) (code : Code) (Q : Exit → AAct → AState → Prop) (aa : AAct) (s : AState) : Prop :=
  ∀ c w a, Rel cmp c s w → RA c aa a → (∀ l, ro = some l → l < c.n) → code.wpIn (Fw (ro.map c.mu)) 0 P (Lift cmp c s w Q) a w
def WP (cmp : Code → Option ACode) (P : Program) (ro : Option Nat) (ac : ACode) (Q : Exit → AAct → AState → Prop) (aa : AAct) (s : AState) : Prop :=
  ∀ code, cmp code = some ac → WC cmp P ro code Q aa s
section
variable {cmp : Code → Option ACode} {P : Program} {ro : Option Nat} {Q : Exit → AAct → AState → Prop} {aa : AAct} {s : AState}
theorem Lift.base {c0 c1 : Cx} {s0 s1 : AState} {w0 w1 : World} (h : Ext c0 s0 w0 c1 s1 w1) {e : Exit} {a : Act} {w : World} (k : Lift cmp c1 s1 w1 Q e a w) : Lift cmp c0 s0 w0 Q e a w := by
  obtain ⟨c, aa, s, h1, h2, h3, h4⟩ := k
  exact ⟨c, aa, s, h.trans h1, h2, h3, h4⟩
theorem Lift.mono {c0 : Cx} {s0 : AState} {w0 : World} {Q' : Exit → AAct → AState → Prop} (hq : ∀ e a s, Q e a s → Q' e a s) {e : Exit} {a : Act} {w : World} (k : Lift cmp c0 s0 w0 Q e a w) : Lift cmp c0 s0 w0 Q' e a w := by
  obtain ⟨c, aa, s, h1, h2, h3, h4⟩ := k
  exact ⟨c, aa, s, h1, h2, h3, hq _ _ _ h4⟩
theorem WC.mono {code : Code} {Q' : Exit → AAct → AState → Prop} (h : WC cmp P ro code Q aa s) (hq : ∀ e a s, Q e a s → Q' e a s) : WC cmp P ro code Q' aa s :=
  fun c w a hr ha hl => wpIn_mono (h c w a hr ha hl) fun _ _ _ k => k.mono hq
theorem ro_map {c c' : Cx} (h : c.le c') (hl : ∀ l, ro = some l → l < c.n) : ro.map c'.mu = ro.map c.mu := by
  cases ro with
  | none => rfl
  | some l => simp [h.mu l (hl l rfl)]
theorem WC_seq {x y : Code} (h : WC cmp P ro x (fun e a s => match e with | .normal => WC cmp P ro y Q a s | e => Q e a s) aa s) : WC cmp P ro (.seq x y) Q aa s := by
  intro c w a hr ha hl
  refine wpIn_seq (wpIn_mono (h c w a hr ha hl) ?_)
  rintro e a1 w1 ⟨c1, aa1, s1, h1, h2, h3, h4⟩
  cases e with
  | normal =>
    have := h4 c1 w1 a1 h2 h3 (fun l hl' => Nat.lt_of_lt_of_le (hl l hl') h1.le.n)
    rw [ro_map h1.le hl] at this
    exact wpIn_mono this fun _ _ _ k => k.base h1
  | _ => exact ⟨c1, aa1, s1, h1, h2, h3, h4⟩
theorem WC_cond {o : Operand} {x : Arg} {a1 b1 : Code} (hx : cArg o = some x) {t : Bool} (ht : x.ev aa.t = .v (.bool t))
    (h : WC cmp P ro (if t then a1 else b1) Q aa s) : WC cmp P ro (.cond o a1 b1) Q aa s := by
  intro c w a hr ha hl
  have := ha.ev hx
  rw [ht] at this
  exact wpIn_cond this.v_inv (h c w a hr ha hl)
theorem WC_skip (h : Q .normal aa s) : WC cmp P ro .skip Q aa s := fun c w a hr ha _ => wpIn_skip ⟨c, aa, s, .refl c s w, hr, ha, h⟩
theorem WC_label {l : Nat} (h : Q .normal aa s) : WC cmp P ro (.label l) Q aa s := fun c w a hr ha _ => wpIn_label ⟨c, aa, s, .refl c s w, hr, ha, h⟩
theorem WC_exit {id : Nat} (h : Q (.exit id) aa s) : WC cmp P ro (.exit id) Q aa s := fun c w a hr ha _ => wpIn_exit ⟨c, aa, s, .refl c s w, hr, ha, h⟩
theorem WC_goto {l : Nat} (h : Q (.goto l) aa s) : WC cmp P ro (.goto l) Q aa s := fun c w a hr ha _ => wpIn_goto ⟨c, aa, s, .refl c s w, hr, ha, h⟩
theorem WC_ret (h : Q .ret aa s) : WC cmp P ro .ret Q aa s := fun c w a hr ha _ => wpIn_ret ⟨c, aa, s, .refl c s w, hr, ha, h⟩
def inBlk (id : Nat) (Q : Exit → AAct → AState → Prop) : Exit → AAct → AState → Prop
  | .exit id', a, s => if id' = id then Q .normal a s else Q (.exit id') a s
  | e, a, s => Q e a s
theorem WC_block {id : Nat} {x : Code} (h : WC cmp P ro x (inBlk id Q) aa s) : WC cmp P ro (.block id x) Q aa s := by
  intro c w a hr ha hl
  refine wpIn_block (wpIn_mono (h c w a hr ha hl) ?_)
  rintro e a1 w1 ⟨c1, aa1, s1, h1, h2, h3, h4⟩
  cases e with
  | exit id' =>
    simp only [inBlk] at h4
    simp only [Exit.inBlock]
    split
    · rename_i e; rw [if_pos e] at h4; exact ⟨c1, aa1, s1, h1, h2, h3, h4⟩
    · rename_i e; rw [if_neg e] at h4; exact ⟨c1, aa1, s1, h1, h2, h3, h4⟩
  | _ => exact ⟨c1, aa1, s1, h1, h2, h3, h4⟩
end
section
variable {F : Fence} {n : Nat} {P : Program} {Q : Exit → Act → World → Prop} {a : Act} {w : World}
theorem wpIn_loopJ {c : Code} (J : Nat → Act → World → Prop) (m : Nat) (h0 : J m a w)
    (round : ∀ m a w, J m a w → c.wpIn F n P (Exit.then (fun a' w' => ∃ m', m' < m ∧ J m' a' w') Q) a w) : (Code.loop c).wpIn F n P Q a w := by
  intro b k cs hro hb hr
  have key : ∀ j a w, J j a w → ∃ e a' w', Q e a' w' ∧ ArrivesIn (Machine.fenced P F) P (lone (b.atR a (.code c :: .inLoop c :: k)) cs w) b k cs e a' w' := by
    intro j
    induction j using Nat.strongRecOn with
    | _ j ih =>
      intro a w hI
      obtain ⟨e, a₁, w₁, hq, harr⟩ := round j a w hI b (.inLoop c :: k) cs hro hb hr
      cases e with
      | normal =>
        obtain ⟨m', hlt, hI₁⟩ := hq
        obtain ⟨e₂, a₂, w₂, hq₂, harr₂⟩ := ih m' hlt a₁ w₁ hI₁
        exact ⟨e₂, a₂, w₂, hq₂, .of_steps (StepsIn.trans harr (.one (fenced_calm hb hr rfl) stepR_inLoop)) harr₂⟩
      | exit id => exact ⟨_, a₁, w₁, hq, .pass (x := .inLoop c) rfl (fun _ _ => .inl (by simp)) harr⟩
      | goto l => exact ⟨_, a₁, w₁, hq, .pass (x := .inLoop c) rfl (fun _ _ => .inl (by simp)) harr⟩
      | ret => exact ⟨_, a₁, w₁, hq, .pass (x := .inLoop c) rfl (fun _ _ => .inl (by simp)) harr⟩
      | panic ch => exact ⟨_, a₁, w₁, hq, .pass (x := .inLoop c) rfl (fun _ _ => .inl (by simp)) harr⟩
      | outgrown => exact ⟨_, a₁, w₁, hq, .pass (x := .inLoop c) rfl (fun _ _ => .inl (by simp)) harr⟩
  obtain ⟨e, a', w', hq, harr⟩ := key _ a w h0
  exact ⟨e, a', w', hq, .of_steps (.one (fenced_calm hb hr rfl) stepR_loop) harr⟩
theorem stepR_scope {b : Frame} {k : List Item} {cs : List Frame} {c : Code} : step P (lone (b.atR a (.code (.scope c) :: k)) cs w) = .next (lone (b.atR a (.code c :: .inScope c :: k)) cs w) :=
  step_lone_go (by simp [stepG, stepG.exec, Frame.atR])
theorem stepR_inScope {b : Frame} {k : List Item} {cs : List Frame} {c : Code} : step P (lone (b.atR a (.inScope c :: k)) cs w) = .next (lone (b.atR a k) cs w) :=
  step_lone_go (by simp [stepG, stepG.exec, Frame.atR])
theorem wpIn_scopeJ {c : Code} (J : Nat → Nat → Act → World → Prop)
    (first : c.wpIn F n P (fun e a w => match e with | .goto l => (findLabel c l = none ∧ Q (.goto l) a w) ∨ ((findLabel c l).isSome = true ∧ ∃ m, J m l a w) | e => Q e a w) a w)
    (pass : ∀ m l a w rest, J m l a w → findLabel c l = some rest → rest.wpIn F n P (fun e a' w' => match e with
      | .goto l' => (findLabel c l' = none ∧ Q (.goto l') a' w') ∨ ((findLabel c l').isSome = true ∧ ∃ m', m' < m ∧ J m' l' a' w') | e => Q e a' w') a w) :
    (Code.scope c).wpIn F n P Q a w := by
  intro b k cs hro hb hr
  have hx : ∀ id, exitTo id (.inScope c :: k) = exitTo id k := fun id => by simp [exitTo]
  have hg0 : ∀ l, findLabel c l = none → gotoIn l (.inScope c :: k) = gotoIn l k := fun l h => by simp [gotoIn, h]
  have hg1 : ∀ l rest, findLabel c l = some rest → gotoIn l (.inScope c :: k) = some (.code rest :: .inScope c :: k) := fun l rest h => by simp [gotoIn, h]
  have out : ∀ (Z : Nat → Nat → Act → World → Prop), (∀ l a w, (∃ m, Z m l a w) → (findLabel c l).isSome = true → ∃ e a' w', Q e a' w' ∧ ∀ rest, findLabel c l = some rest →
        ArrivesIn (Machine.fenced P F) P (lone (b.atR a (.code rest :: .inScope c :: k)) cs w) b k cs e a' w') →
      ∀ e a₁ w₁ m0, (match (generalizing := false) e with | .goto l => (findLabel c l = none ∧ Q (.goto l) a₁ w₁) ∨ ((findLabel c l).isSome = true ∧ ∃ m, Z m l a₁ w₁) | e => Q e a₁ w₁) →
      ArrivesIn (Machine.fenced P F) P m0 b (.inScope c :: k) cs e a₁ w₁ → ∃ e' a' w', Q e' a' w' ∧ ArrivesIn (Machine.fenced P F) P m0 b k cs e' a' w' := by
    intro Z hz e a₁ w₁ m0 hq harr
    cases e with
    | normal => exact ⟨.normal, a₁, w₁, hq, StepsIn.trans harr (.one (fenced_calm hb hr rfl) stepR_inScope)⟩
    | exit id => exact ⟨.exit id, a₁, w₁, hq, fun k' hk => harr.1 k' (by rw [hx]; exact hk), fun hr' hk => harr.2 hr' (by rw [hx]; exact hk)⟩
    | goto l =>
      rcases hq with ⟨h1, h2⟩ | ⟨h1, h2⟩
      · exact ⟨.goto l, a₁, w₁, h2, fun k' hk => harr.1 k' (by rw [hg0 l h1]; exact hk), fun hr' hk => harr.2 hr' (by rw [hg0 l h1]; exact hk)⟩
      · obtain ⟨rest, hrest⟩ := Option.isSome_iff_exists.1 h1
        obtain ⟨e', a', w', q', r'⟩ := hz l a₁ w₁ h2 h1
        exact ⟨e', a', w', q', .of_steps (harr.1 _ (hg1 l rest hrest)) (r' rest hrest)⟩
    | ret => exact ⟨_, a₁, w₁, hq, harr⟩
    | panic ch => exact ⟨_, a₁, w₁, hq, harr⟩
    | outgrown => exact ⟨_, a₁, w₁, hq, harr⟩
  have key : ∀ m l a w, J m l a w → (findLabel c l).isSome = true → ∃ e a' w', Q e a' w' ∧ ∀ rest, findLabel c l = some rest →
        ArrivesIn (Machine.fenced P F) P (lone (b.atR a (.code rest :: .inScope c :: k)) cs w) b k cs e a' w' := by
    intro m
    induction m using Nat.strongRecOn with
    | _ m ih =>
      intro l a w hJ hs
      obtain ⟨rest, hrest⟩ := Option.isSome_iff_exists.1 hs
      obtain ⟨e, a₁, w₁, hq, harr⟩ := pass m l a w rest hJ hrest b (.inScope c :: k) cs hro hb hr
      obtain ⟨e', a', w', h1, h2⟩ := out (fun m' l a w => m' < m ∧ J m' l a w) (fun l a w ⟨m', hm', hJ'⟩ hs => ih m' hm' l a w hJ' hs) e a₁ w₁ _
        (by cases e <;> first | exact hq | exact hq.imp id (fun h => ⟨h.1, h.2⟩)) harr
      exact ⟨e', a', w', h1, fun r hr' => by rw [hrest] at hr'; cases hr'; exact h2⟩
  obtain ⟨e, a₁, w₁, hq, harr⟩ := first b (.inScope c :: k) cs hro hb hr
  obtain ⟨e', a', w', h1, h2⟩ := out J (fun l a w ⟨m, hJ⟩ hs => key m l a w hJ hs) e a₁ w₁ _ (by cases e <;> exact hq) harr
  exact ⟨e', a', w', h1, .of_steps (.one (fenced_calm hb hr rfl) stepR_scope) h2⟩
end
section
variable {cmp : Code → Option ACode} {P : Program} {ro : Option Nat} {Q : Exit → AAct → AState → Prop} {aa : AAct} {s : AState}
theorem WC_loop {x : Code} (I : Nat → AAct → AState → Prop) (m : Nat) (h0 : I m aa s)
    (hr : ∀ m a s, I m a s → WC cmp P ro x (fun e a' s' => match e with | .normal => ∃ m', m' < m ∧ I m' a' s' | e => Q e a' s') a s) : WC cmp P ro (.loop x) Q aa s := by
  intro c w a hrel ha hl
  refine wpIn_loopJ (fun m a1 w1 => ∃ c1 aa1 s1, Ext c s w c1 s1 w1 ∧ Rel cmp c1 s1 w1 ∧ RA c1 aa1 a1 ∧ I m aa1 s1) m ⟨c, aa, s, .refl c s w, hrel, ha, h0⟩ ?_
  rintro m a1 w1 ⟨c1, aa1, s1, h1, h2, h3, h4⟩
  have hw := hr _ aa1 s1 h4 c1 w1 a1 h2 h3 (fun l hl' => Nat.lt_of_lt_of_le (hl l hl') h1.le.n)
  rw [ro_map h1.le hl] at hw
  refine wpIn_mono hw ?_
  rintro e a2 w2 ⟨c2, aa2, s2, k1, k2, k3, k4⟩
  cases e with
  | normal =>
    obtain ⟨m', hm', hI⟩ := k4
    exact ⟨m', hm', c2, aa2, s2, h1.trans k1, k2, k3, hI⟩
  | _ => exact ⟨c2, aa2, s2, h1.trans k1, k2, k3, k4⟩
theorem WC_scope {x : Code} (J : Nat → Nat → AAct → AState → Prop)
    (first : WC cmp P ro x (fun e a s => match e with | .goto l => (findLabel x l = none ∧ Q (.goto l) a s) ∨ ((findLabel x l).isSome = true ∧ ∃ m, J m l a s) | e => Q e a s) aa s)
    (pass : ∀ m l a s rest, J m l a s → findLabel x l = some rest → WC cmp P ro rest (fun e a' s' => match e with
      | .goto l' => (findLabel x l' = none ∧ Q (.goto l') a' s') ∨ ((findLabel x l').isSome = true ∧ ∃ m', m' < m ∧ J m' l' a' s') | e => Q e a' s') a s) :
    WC cmp P ro (.scope x) Q aa s := by
  intro c w a hrel ha hl
  refine wpIn_scopeJ (fun m l a1 w1 => ∃ c1 aa1 s1, Ext c s w c1 s1 w1 ∧ Rel cmp c1 s1 w1 ∧ RA c1 aa1 a1 ∧ J m l aa1 s1) (wpIn_mono (first c w a hrel ha hl) ?_) ?_
  · rintro e a1 w1 ⟨c1, aa1, s1, h1, h2, h3, h4⟩
    cases e with
    | goto l => exact h4.imp (fun h => ⟨h.1, c1, aa1, s1, h1, h2, h3, h.2⟩) (fun ⟨h, m, hJ⟩ => ⟨h, m, c1, aa1, s1, h1, h2, h3, hJ⟩)
    | _ => exact ⟨c1, aa1, s1, h1, h2, h3, h4⟩
  · rintro m l a1 w1 rest ⟨c1, aa1, s1, h1, h2, h3, h4⟩ hf
    have hw := pass m l aa1 s1 rest h4 hf c1 w1 a1 h2 h3 (fun l hl' => Nat.lt_of_lt_of_le (hl l hl') h1.le.n)
    rw [ro_map h1.le hl] at hw
    refine wpIn_mono hw ?_
    rintro e a2 w2 ⟨c2, aa2, s2, k1, k2, k3, k4⟩
    cases e with
    | goto l => exact k4.imp (fun h => ⟨h.1, c2, aa2, s2, h1.trans k1, k2, k3, h.2⟩) (fun ⟨h, m', hm, hJ⟩ => ⟨h, m', hm, c2, aa2, s2, h1.trans k1, k2, k3, hJ⟩)
    | _ => exact ⟨c2, aa2, s2, h1.trans k1, k2, k3, k4⟩
end
end Go.Ab
end
