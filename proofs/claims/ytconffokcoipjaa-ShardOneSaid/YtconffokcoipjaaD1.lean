/- STEPS OF A REGION THAT DRAWS ITS ORDER, one operation behind the other. -/
import Derived.Test.YtconffokcoipjaaD0
namespace Go.Ab
open Go.RowKit Go.Proofs
set_option linter.unusedVariables false
set_option linter.unusedSimpArgs false

variable {P : Program} {cmp : Code → Option ACode} {K : List AV → AState → Prop} {n : Nat} {e : List (Nat × AV)} {s s' : AState} {r : List DOper} {x : AV} {op : AOp} {g : Option (Nat × Bool)} {am : Bool} {opens : List AOper}

theorem Opens.of_ext {t : List AV} (h : s.ext s') : Opens cmp P opens s t s' := .inr (.inl h)
theorem Opens.same {t : List AV} : Opens cmp P opens s t s := .inr (.inl (.refl s))

theorem d_one {d : Nat} (hc : op.isCall = false) (h : stepE ⟨some d, op, g⟩ (den n e) s = some (x, s)) (k : DWalk cmp P r K (den n ((d, x) :: e)) s) : DWalk cmp P (⟨⟨some d, op, g⟩, false, am, opens⟩ :: r) K (den n e) s :=
  ⟨x, ⟨stepG_of_E hc h ⟨rfl, rfl⟩, fun _ hcall => by rw [show op.isCall = true from hcall] at hc; cases hc⟩, by rw [← put_den] at k; exact k⟩
theorem d_none (hc : op.isCall = false) (h : stepE ⟨none, op, g⟩ (den n e) s = some (x, s)) (k : DWalk cmp P r K (den n e) s) : DWalk cmp P (⟨⟨none, op, g⟩, false, am, opens⟩ :: r) K (den n e) s :=
  ⟨x, ⟨stepG_of_E hc h ⟨rfl, rfl⟩, fun _ hcall => by rw [show op.isCall = true from hcall] at hc; cases hc⟩, k⟩
theorem d_eff {d : Nat} (hc : op.isCall = false) (h : stepE ⟨some d, op, g⟩ (den n e) s = some (x, s')) (ho : Opens cmp P opens s (den n ((d, x) :: e)) s') (k : DWalk cmp P r K (den n ((d, x) :: e)) s') :
    DWalk cmp P (⟨⟨some d, op, g⟩, true, am, opens⟩ :: r) K (den n e) s :=
  stepG_of_E hc h (by rw [← put_den] at k ho; exact ⟨ho, k⟩)
theorem d_effN (hc : op.isCall = false) (h : stepE ⟨none, op, g⟩ (den n e) s = some (x, s')) (ho : Opens cmp P opens s (den n e) s') (k : DWalk cmp P r K (den n e) s') :
    DWalk cmp P (⟨⟨none, op, g⟩, true, am, opens⟩ :: r) K (den n e) s := stepG_of_E hc h ⟨ho, k⟩
theorem d_eff0 {d : Nat} (hc : op.isCall = false) (h : stepE ⟨some d, op, g⟩ (den n e) s = some (x, s')) (k : DWalk cmp P r K (den n ((d, x) :: e)) s') : DWalk cmp P (⟨⟨some d, op, g⟩, true, am, []⟩ :: r) K (den n e) s := d_eff hc h (.inl rfl) k
theorem d_effN0 (hc : op.isCall = false) (h : stepE ⟨none, op, g⟩ (den n e) s = some (x, s')) (k : DWalk cmp P r K (den n e) s') : DWalk cmp P (⟨⟨none, op, g⟩, true, am, []⟩ :: r) K (den n e) s := d_effN hc h (.inl rfl) k

theorem AStepG.want {d : Option Nat} {i : Nat} {b : Bool} {Q : AV → AState → Prop} (h : look n e i = .v (.bool b)) (k : AStepG cmp P ⟨d, op, none⟩ (den n e) s Q) : AStepG cmp P ⟨d, op, some (i, b)⟩ (den n e) s Q :=
  .inl ⟨b, by rw [getD_den]; exact h, by rw [if_pos rfl]; exact k⟩

theorem d_want {d : Option Nat} {i : Nat} {b ef : Bool} (h : look n e i = .v (.bool b)) (k : DWalk cmp P (⟨⟨d, op, none⟩, ef, am, opens⟩ :: r) K (den n e) s) : DWalk cmp P (⟨⟨d, op, some (i, b)⟩, ef, am, opens⟩ :: r) K (den n e) s := by
  cases ef with
  | true => exact AStepG.want (d := d) (op := op) h k
  | false =>
    obtain ⟨x, ⟨h1, h2⟩, h3⟩ := k
    exact ⟨x, ⟨h1.want h, fun a b s1 hs => (h2 a b s1 hs).want h⟩, h3⟩
theorem d_skip {d i : Nat} {b b' ef : Bool} (h : look n e i = .v (.bool b')) (hb : b' ≠ b) (k : DWalk cmp P r K (den n ((d, .v undef) :: e)) s) : DWalk cmp P (⟨⟨some d, op, some (i, b)⟩, ef, am, opens⟩ :: r) K (den n e) s := by
  have st : ∀ {s1 : AState} {Q : AV → AState → Prop}, Q (.v undef) s1 → AStepG cmp P ⟨some d, op, some (i, b)⟩ (den n e) s1 Q := fun hq => .inl ⟨b', by rw [getD_den]; exact h, by rw [if_neg hb]; exact hq⟩
  rw [← put_den] at k
  cases ef with
  | true => exact st ⟨.same, k⟩
  | false => exact ⟨.v undef, ⟨st ⟨rfl, rfl⟩, fun _ _ s1 _ => st ⟨rfl, rfl⟩⟩, k⟩
theorem d_skipU {d i : Nat} {b ef : Bool} (h : look n e i = .v undef) (k : DWalk cmp P r K (den n ((d, .v undef) :: e)) s) : DWalk cmp P (⟨⟨some d, op, some (i, b)⟩, ef, am, opens⟩ :: r) K (den n e) s := by
  have st : ∀ {s1 : AState} {Q : AV → AState → Prop}, Q (.v undef) s1 → AStepG cmp P ⟨some d, op, some (i, b)⟩ (den n e) s1 Q := fun hq => .inr ⟨by rw [getD_den]; exact h, hq⟩
  rw [← put_den] at k
  cases ef with
  | true => exact st ⟨.same, k⟩
  | false => exact ⟨.v undef, ⟨st ⟨rfl, rfl⟩, fun _ _ s1 _ => st ⟨rfl, rfl⟩⟩, k⟩

theorem acall_of {f : Arg} {args : List Arg} {g : FuncId} {fs caps : List AV} {t : List AV} {Q : AV → AState → Prop} (hf : f.ev t = .f (.func g) fs caps) (h : Runs cmp P g (fs ++ args.map (Arg.ev t) ++ caps) s Q) : AStep cmp P (.call f args) t s Q := by
  show ACall cmp P (f.ev t) (args.map (Arg.ev t)) s Q
  rw [hf]; exact h

/-- a call that has an effect -/
theorem d_call {d : Nat} {f : Arg} {args : List Arg} {g : FuncId} {fs caps : List AV} {Q : AV → AState → Prop}
    (hf : f.ev (den n e) = .f (.func g) fs caps) (h : Runs cmp P g (fs ++ args.map (Arg.ev (den n e)) ++ caps) s Q)
    (hk : ∀ x s', Q x s' → Opens cmp P opens s (den n ((d, x) :: e)) s' ∧ DWalk cmp P r K (den n ((d, x) :: e)) s') : DWalk cmp P (⟨⟨some d, .call f args, none⟩, true, am, opens⟩ :: r) K (den n e) s := by
  have := (acall_of (s := s) hf h).mono fun x s' hq => hk x s' hq
  simp only [← put_den] at this
  exact this
/-- a call that leaves the state as it is -/
theorem d_callQ {d : Nat} {f : Arg} {args : List Arg} {g : FuncId} {fs caps : List AV}
    (hf : f.ev (den n e) = .f (.func g) fs caps) (h : ∀ s1, s.ext s1 → Runs cmp P g (fs ++ args.map (Arg.ev (den n e)) ++ caps) s1 (fun x' s' => x' = x ∧ s' = s1))
    (hk : DWalk cmp P r K (den n ((d, x) :: e)) s) : DWalk cmp P (⟨⟨some d, .call f args, none⟩, false, am, opens⟩ :: r) K (den n e) s :=
  ⟨x, ⟨acall_of hf (h s (.refl s)), fun _ _ s1 hs => acall_of hf (h s1 hs)⟩, by rw [← put_den] at hk; exact hk⟩

theorem ayield_of {f : Arg} {args : List Arg} {l : Nat} {t : List AV} {Q : AV → AState → Prop} (hf : f.ev t = .y l) (h : YRuns cmp P l (args.map (Arg.ev t)) s Q) : AStep cmp P (.call f args) t s Q := by
  show ACall cmp P (f.ev t) (args.map (Arg.ev t)) s Q
  rw [hf]; exact h
theorem d_yield {d : Nat} {f : Arg} {args : List Arg} {l : Nat} {Q : AV → AState → Prop} (hf : f.ev (den n e) = .y l) (h : YRuns cmp P l (args.map (Arg.ev (den n e))) s Q)
    (hk : ∀ x s', Q x s' → Opens cmp P opens s (den n ((d, x) :: e)) s' ∧ DWalk cmp P r K (den n ((d, x) :: e)) s') : DWalk cmp P (⟨⟨some d, .call f args, none⟩, true, am, opens⟩ :: r) K (den n e) s := by
  have := (ayield_of (s := s) hf h).mono fun x s' hq => hk x s' hq
  simp only [← put_den] at this
  exact this
theorem o_yield {d : Nat} {f : Arg} {args : List Arg} {r : List AOper} {l : Nat} {Q : AV → AState → Prop} (hf : f.ev (den n e) = .y l) (h : YRuns cmp P l (args.map (Arg.ev (den n e))) s Q)
    (hk : ∀ x s', Q x s' → AOps cmp P r K (den n ((d, x) :: e)) s') : AOps cmp P (⟨some d, .call f args, none⟩ :: r) K (den n e) s := by
  have := (ayield_of (s := s) hf h).mono fun x s' hq => hk x s' hq
  simp only [← put_den] at this
  exact this
theorem d_nil {t : List AV} (h : K t s) : DWalk cmp P [] K t s := h
theorem w_draw {ro : Option Nat} {Q : Exit → AAct → AState → Prop} {d : List Nat} {t : List AV} {ops : List DOper} (k : DWalk (compCode P) P ops (fun t s => Q .normal { t := t, d := d } s) t s) : wp P ro (.draw ops) Q { t := t, d := d } s := k
end Go.Ab
