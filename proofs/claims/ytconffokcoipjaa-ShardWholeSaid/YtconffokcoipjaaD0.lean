/- EVALUATION: the operations up to the next call, by computing. -/
import Derived.Test.YtconffokcoipjaaC5
import Derived.Laws.BitsLemmas
namespace Go.Ab
open Go.RowKit Go.Proofs
set_option linter.unusedVariables false
set_option linter.unusedSimpArgs false

variable {cmp : Code → Option ACode} {P : Program}

def stepE (o : AOper) (t : List AV) (s : AState) : Option (AV × AState) :=
  match o.guard with
  | none => o.op.exec t s
  | some (g, b) => match t.getD g .any with
    | .v (.bool b') => if b' = b then o.op.exec t s else some (.v undef, s)
    | .v (.tuple ⟨[]⟩) => some (.v undef, s)
    | _ => none

/-- up to the next call that is wanted -/
def runTo : List AOper → List AV → AState → Option (List AOper × List AV × AState)
  | [], t, s => some ([], t, s)
  | o :: r, t, s =>
    if o.op.isCall then
      match o.guard with
      | none => some (o :: r, t, s)
      | some (g, b) => match t.getD g .any with
        | .v (.bool b') => if b' = b then some ({ o with guard := none } :: r, t, s) else runTo r (putT t o.dst (.v undef)) s
        | .v (.tuple ⟨[]⟩) => runTo r (putT t o.dst (.v undef)) s
        | _ => none
    else match stepE o t s with
    | some (x, s') => runTo r (putT t o.dst x) s'
    | none => none

theorem astep_of_exec {op : AOp} {t : List AV} {s : AState} {x : AV} {s' : AState} {Q : AV → AState → Prop} (hc : op.isCall = false) (h : op.exec t s = some (x, s')) (hq : Q x s') : AStep cmp P op t s Q := by
  cases op <;> first | exact ⟨x, s', h, hq⟩ | simp [AOp.isCall] at hc

theorem stepG_of_E {o : AOper} {t : List AV} {s s' : AState} {x : AV} {Q : AV → AState → Prop} (hc : o.op.isCall = false) (h : stepE o t s = some (x, s')) (hq : Q x s') : AStepG cmp P o t s Q := by
  unfold stepE at h
  unfold AStepG
  cases hg : o.guard with
  | none => rw [hg] at h; exact astep_of_exec hc h hq
  | some gb =>
    obtain ⟨g, b⟩ := gb
    rw [hg] at h
    simp only at h ⊢
    split at h
    · rename_i b' hb
      refine .inl ⟨b', hb, ?_⟩
      split at h
      · rename_i e; rw [if_pos e]; exact astep_of_exec hc h hq
      · rename_i e; rw [if_neg e]; cases h; exact hq
    · rename_i hb; cases h; exact .inr ⟨hb, hq⟩
    · cases h

theorem ops_to {K : List AV → AState → Prop} : ∀ {ops : List AOper} {t : List AV} {s : AState} {rest : List AOper} {t' : List AV} {s' : AState},
    runTo ops t s = some (rest, t', s') → AOps cmp P rest K t' s' → AOps cmp P ops K t s := by
  intro ops
  induction ops with
  | nil => intro t s rest t' s' h k; simp only [runTo, Option.some.injEq, Prod.mk.injEq] at h; obtain ⟨rfl, rfl, rfl⟩ := h; exact k
  | cons o r ih =>
    intro t s rest t' s' h k
    unfold runTo at h
    split at h
    · rename_i hc
      split at h
      · rename_i hg
        simp only [Option.some.injEq, Prod.mk.injEq] at h
        obtain ⟨rfl, rfl, rfl⟩ := h
        exact k
      · rename_i g b hg
        split at h
        · rename_i b' hb
          split at h
          · rename_i e
            simp only [Option.some.injEq, Prod.mk.injEq] at h
            obtain ⟨rfl, rfl, rfl⟩ := h
            show AStepG cmp P o t s _
            unfold AStepG
            rw [hg]
            exact .inl ⟨b', hb, by rw [if_pos e]; exact k⟩
          · rename_i e
            show AStepG cmp P o t s _
            unfold AStepG
            rw [hg]
            exact .inl ⟨b', hb, by rw [if_neg e]; exact ih h k⟩
        · rename_i hb
          show AStepG cmp P o t s _
          unfold AStepG
          rw [hg]
          exact .inr ⟨hb, ih h k⟩
        · cases h
    · rename_i hc
      split at h
      · rename_i x s1 hs
        exact stepG_of_E (by simpa using hc) hs (ih h k)
      · cases h

theorem ops_nil {K : List AV → AState → Prop} {t : List AV} {s : AState} (h : K t s) : AOps cmp P [] K t s := h

/-- a call whose contract is known -/
theorem ops_call {K : List AV → AState → Prop} {d : Option Nat} {f : Arg} {args : List Arg} {r : List AOper} {t : List AV} {s : AState} {g : FuncId} {fs caps : List AV} {Q : AV → AState → Prop}
    (hf : f.ev t = .f (.func g) fs caps) (h : Runs cmp P g (fs ++ args.map (Arg.ev t) ++ caps) s Q) (hk : ∀ x s', Q x s' → AOps cmp P r K (putT t d x) s') :
    AOps cmp P (⟨d, .call f args, none⟩ :: r) K t s := by
  show ACall cmp P (f.ev t) (args.map (Arg.ev t)) s _
  rw [hf]
  exact h.mono hk

/-- a call of yield -/
theorem ops_yield {K : List AV → AState → Prop} {d : Option Nat} {f : Arg} {args : List Arg} {r : List AOper} {t : List AV} {s : AState} {l : Nat} {Q : AV → AState → Prop}
    (hf : f.ev t = .y l) (h : YRuns cmp P l (args.map (Arg.ev t)) s Q) (hm : ∀ x s', Q x s' → AOps cmp P r K (putT t d x) s') : AOps cmp P (⟨d, .call f args, none⟩ :: r) K t s := by
  have : AStep cmp P (.call f args) t s Q := by
    show ACall cmp P (f.ev t) (args.map (Arg.ev t)) s _
    rw [hf]; exact h
  exact this.mono hm

section
variable {ro : Option Nat} {Q : Exit → AAct → AState → Prop} {t : List AV} {d : List Nat} {s : AState}

theorem w_seq {a b : ACode} (h : wp P ro a (seqQ (wp P ro b) Q) { t := t, d := d } s) : wp P ro (.seq a b) Q { t := t, d := d } s := h
theorem w_block {id : Nat} {c : ACode} (h : wp P ro c (inBlk id Q) { t := t, d := d } s) : wp P ro (.block id c) Q { t := t, d := d } s := h
theorem w_region {ops rest : List AOper} {t' : List AV} {s' : AState} (h : runTo ops t s = some (rest, t', s')) (k : AOps (compCode P) P rest (fun t s => Q .normal { t := t, d := d } s) t' s') :
    wp P ro (.region ops) Q { t := t, d := d } s := ops_to h k
theorem w_reg {ops : List AOper} {t' : List AV} {s' : AState} (h : runTo ops t s = some ([], t', s')) (k : Q .normal { t := t', d := d } s') : wp P ro (.region ops) Q { t := t, d := d } s := ops_to h k
theorem w_cond {c : Arg} {a b : ACode} {x : Bool} (hx : c.ev t = .v (.bool x)) (h1 : x = true → wp P ro a Q { t := t, d := d } s) (h2 : x = false → wp P ro b Q { t := t, d := d } s) : wp P ro (.cond c a b) Q { t := t, d := d } s := ⟨x, hx, h1, h2⟩
theorem w_true {c : Arg} {a b : ACode} (hx : c.ev t = .v (.bool true)) (h1 : wp P ro a Q { t := t, d := d } s) : wp P ro (.cond c a b) Q { t := t, d := d } s := ⟨true, hx, fun _ => h1, (fun h => by cases h)⟩
theorem w_false {c : Arg} {a b : ACode} (hx : c.ev t = .v (.bool false)) (h1 : wp P ro b Q { t := t, d := d } s) : wp P ro (.cond c a b) Q { t := t, d := d } s := ⟨false, hx, (fun h => by cases h), fun _ => h1⟩
theorem w_skip (h : Q .normal { t := t, d := d } s) : wp P ro .skip Q { t := t, d := d } s := h
theorem w_exit {i : Nat} (h : Q (.exit i) { t := t, d := d } s) : wp P ro (.exit i) Q { t := t, d := d } s := h
theorem w_ret (h : Q .ret { t := t, d := d } s) : wp P ro .ret Q { t := t, d := d } s := h
theorem w_goto {l : Nat} (h : Q (.goto l) { t := t, d := d } s) : wp P ro (.goto l) Q { t := t, d := d } s := h
theorem w_label {l : Nat} (h : Q .normal { t := t, d := d } s) : wp P ro (.label l) Q { t := t, d := d } s := h

theorem AOps.mono {cmp : Code → Option ACode} {K K' : List AV → AState → Prop} (hk : ∀ t s, K t s → K' t s) : ∀ {ops : List AOper} {t : List AV} {s : AState}, AOps cmp P ops K t s → AOps cmp P ops K' t s := by
  intro ops
  induction ops with
  | nil => intro t s h; exact hk _ _ h
  | cons o r ih => intro t s h; exact AStepG.mono (fun x s' k => ih k) h

theorem DWalk.mono {cmp : Code → Option ACode} {K K' : List AV → AState → Prop} (hk : ∀ t s, K t s → K' t s) : ∀ {ops : List DOper} {t : List AV} {s : AState}, DWalk cmp P ops K t s → DWalk cmp P ops K' t s := by
  intro ops
  induction ops with
  | nil => intro t s h; exact hk _ _ h
  | cons o r ih =>
    intro t s h
    unfold DWalk at h ⊢
    split at h
    · rename_i e; rw [if_pos e]; exact AStepG.mono (fun x s' k => ⟨k.1, ih k.2⟩) h
    · rename_i e; rw [if_neg e]; obtain ⟨x, h1, h2⟩ := h; exact ⟨x, h1, ih h2⟩

theorem rangeEnd.mono {Q Q' : Exit → AAct → AState → Prop} (hq : ∀ e a s, Q e a s → Q' e a s) {pend : Option AJump} {aa : AAct} {s : AState} (h : rangeEnd pend Q aa s) : rangeEnd pend Q' aa s := by
  cases pend <;> exact hq _ _ _ h

theorem wp_mono : ∀ {ac : ACode} {ro : Option Nat} {Q Q' : Exit → AAct → AState → Prop} {aa : AAct} {s : AState}, (∀ e a s, Q e a s → Q' e a s) → wp P ro ac Q aa s → wp P ro ac Q' aa s := by
  intro ac
  induction ac with
  | skip => intro ro Q Q' aa s hq h; exact hq _ _ _ h
  | region ops => intro ro Q Q' aa s hq h; exact AOps.mono (fun t s k => hq _ _ _ k) h
  | draw ops => intro ro Q Q' aa s hq h; exact DWalk.mono (fun t s k => hq _ _ _ k) h
  | seq a b iha ihb =>
    intro ro Q Q' aa s hq h
    refine iha ?_ h
    intro e a s k
    cases e <;> first | exact ihb hq k | exact hq _ _ _ k
  | cond c a b iha ihb => intro ro Q Q' aa s hq h; obtain ⟨t, h1, h2, h3⟩ := h; exact ⟨t, h1, fun e => iha hq (h2 e), fun e => ihb hq (h3 e)⟩
  | block id c ih =>
    intro ro Q Q' aa s hq h
    refine ih ?_ h
    intro e a s k
    cases e with
    | exit i =>
      have k : (if i = id then Q .normal a s else Q (.exit i) a s) := k
      show (if i = id then Q' .normal a s else Q' (.exit i) a s)
      split at k
      · rename_i e; rw [if_pos e]; exact hq _ _ _ k
      · rename_i e; rw [if_neg e]; exact hq _ _ _ k
    | _ => exact hq _ _ _ k
  | loop c ih =>
    intro ro Q Q' aa s hq h
    obtain ⟨keep, I, m, h0, hr⟩ := h
    refine ⟨keep, I, m, h0, fun m a s hm => ih ?_ (hr m a s hm)⟩
    intro e a s k
    cases e <;> first | exact k | exact hq _ _ _ k
  | range f ps asg body _ _ =>
    intro ro Q Q' aa s hq h
    obtain ⟨g, fs, caps, h1, h2⟩ := h
    refine ⟨g, fs, caps, h1, ?_⟩
    cases ro with
    | none => exact Runs.mono h2 fun x s' ⟨st, pend, k1, k2, k3⟩ => ⟨st, pend, k1, k2, k3.mono hq⟩
    | some l => obtain ⟨a1, a2, a3, a4, a5, a6, a7, h3, h4⟩ := h2; exact ⟨a1, a2, a3, a4, a5, a6, a7, h3, Runs.mono h4 fun x s' ⟨st, pend, k1, k2, k3⟩ => ⟨st, pend, k1, k2, k3.mono hq⟩⟩
  | exit id => intro ro Q Q' aa s hq h; exact hq _ _ _ h
  | scope c ih =>
    intro ro Q Q' aa s hq h
    obtain ⟨J, h1, h2⟩ := h
    have mn : ∀ {l : Nat} {B : Prop} {a : AAct} {s : AState}, (findL c l = none ∧ Q (.goto l) a s) ∨ B → (findL c l = none ∧ Q' (.goto l) a s) ∨ B := fun h => h.imp (fun h => ⟨h.1, hq _ _ _ h.2⟩) id
    refine ⟨J, ih ?_ h1, fun m l a s rest hJ hf code hc => (h2 m l a s rest hJ hf code hc).mono ?_⟩
    · intro e a s k
      cases e <;> first | exact mn k | exact hq _ _ _ k
    · intro e a s k
      cases e <;> first | exact mn k | exact hq _ _ _ k
  | label l => intro ro Q Q' aa s hq h; exact hq _ _ _ h
  | goto l => intro ro Q Q' aa s hq h; exact hq _ _ _ h
  | ret => intro ro Q Q' aa s hq h; exact hq _ _ _ h

theorem wp.mono : ∀ {ac : ACode} {ro : Option Nat} {Q Q' : Exit → AAct → AState → Prop} {aa : AAct} {s : AState}, (∀ e a s, Q e a s → Q' e a s) → wp P ro ac Q aa s → WP (compCode P) P ro ac Q' aa s :=
  fun hq h code hc => (wp_ok h code hc).mono hq
end

/-! ### the temporaries, by what was put last -/
def get : List (Nat × AV) → Nat → AV
  | [], _ => .any
  | (j, x) :: r, i => if j = i then x else get r i
/-- n temporaries, of which these are known -/
def den (n : Nat) (e : List (Nat × AV)) : List AV := (List.range n).map (get e)
def look (n : Nat) (e : List (Nat × AV)) (i : Nat) : AV := if i < n then get e i else .any

theorem den_length (n : Nat) (e : List (Nat × AV)) : (den n e).length = n := by simp [den]
theorem getD_den (n : Nat) (e : List (Nat × AV)) (i : Nat) : (den n e).getD i .any = look n e i := by
  unfold den look
  by_cases h : i < n
  · rw [if_pos h, List.getD_eq_getElem?_getD, List.getElem?_map, List.getElem?_range h]; rfl
  · rw [if_neg h, List.getD_eq_getElem?_getD, List.getElem?_map, List.getElem?_eq_none (by simpa using h)]; rfl
theorem getE_den (n : Nat) (e : List (Nat × AV)) (i : Nat) : (den n e)[i]?.getD .any = look n e i := by rw [← List.getD_eq_getElem?_getD]; exact getD_den n e i
theorem ev_den (n : Nat) (e : List (Nat × AV)) (i : Nat) : Arg.ev (den n e) (.t i) = look n e i := getD_den n e i
theorem ev_c (t : List AV) (x : AV) : Arg.ev t (.c x) = x := rfl
theorem list_ext_getD {l l' : List AV} (h : l.length = l'.length) (hg : ∀ i, l.getD i .any = l'.getD i .any) : l = l' := by
  apply List.ext_getElem h
  intro i h1 h2
  have := hg i
  rwa [List.getD_eq_getElem?_getD, List.getElem?_eq_getElem h1, List.getD_eq_getElem?_getD, List.getElem?_eq_getElem h2] at this
theorem put_den (n : Nat) (e : List (Nat × AV)) (d : Nat) (x : AV) : putT (den n e) (some d) x = den n ((d, x) :: e) := by
  apply list_ext_getD (by simp [putT, den_length])
  intro i
  rw [getD_den]
  by_cases hd : d = i
  · subst hd
    by_cases h : d < n
    · rw [putT_same (by rw [den_length]; exact h)]; simp [look, get, h]
    · simp only [look, if_neg h]
      rw [List.getD_eq_getElem?_getD, List.getElem?_eq_none (by simp [putT, den_length]; omega)]; rfl
  · rw [putT_ne (by simpa using hd), getD_den]; simp [look, get, hd]
theorem put_none (t : List AV) (x : AV) : putT t none x = t := rfl
theorem only_den (n : Nat) (e : List (Nat × AV)) (keep : List Nat) : only keep (den n e) = den n (keep.map fun i => (i, get e i)) := by
  apply list_ext_getD (by simp [only, den_length])
  intro i
  rw [getD_den]
  by_cases h : i < n
  · have h1 : (only keep (den n e)).getD i .any = if keep.contains i then (den n e).getD i .any else .any := by
      simp only [only, List.getD_eq_getElem?_getD, List.getElem?_mapIdx]
      rw [List.getElem?_eq_getElem (by rw [den_length]; exact h)]
      simp only [Option.map_some, Option.getD_some]
    rw [h1, getD_den]
    simp only [look, if_pos h]
    clear h1
    induction keep with
    | nil => simp [get]
    | cons k keep ih =>
      by_cases hk : k = i
      · subst hk; simp [get]
      · have : ((k :: keep).contains i) = keep.contains i := by simp [List.contains_cons, Ne.symm hk]
        rw [this, ih]; simp [get, hk]
  · simp only [look, if_neg h]
    rw [List.getD_eq_getElem?_getD, List.getElem?_eq_none (by simp [only, den_length]; omega)]; rfl
theorem actOnly_den (n : Nat) (e : List (Nat × AV)) (keep : List Nat) (d : List Nat) : AAct.only keep { t := den n e, d := d } = { t := den n (keep.map fun i => (i, get e i)), d := d } := by
  unfold AAct.only; simp only [only_den]
def envOf : Nat → List AV → List (Nat × AV)
  | _, [] => []
  | i, x :: r => (i, x) :: envOf (i + 1) r
theorem get_envOf (xs : List AV) : ∀ (k i : Nat), get (envOf k xs) i = if k ≤ i then xs.getD (i - k) .any else .any := by
  induction xs with
  | nil => intro k i; simp [envOf, get]
  | cons x xs ih =>
    intro k i
    simp only [envOf, get]
    by_cases e : k = i
    · subst e; simp
    · rw [if_neg e, ih]
      by_cases h : k + 1 ≤ i
      · rw [if_pos h, if_pos (by omega), show i - k = (i - (k + 1)) + 1 by omega]; simp
      · rw [if_neg h, if_neg (by omega)]
theorem den_args (n : Nat) (args : List AV) (h : args.length ≤ n) : args ++ List.replicate (n - args.length) .any = den n (envOf 0 args) := by
  apply list_ext_getD (by simp [den_length]; omega)
  intro i
  rw [getD_den, look]
  by_cases hi : i < n
  · rw [if_pos hi, get_envOf]
    simp only [Nat.zero_le, if_true, Nat.sub_zero, List.getD_eq_getElem?_getD]
    by_cases ha : i < args.length
    · rw [List.getElem?_append_left ha]
    · rw [List.getElem?_append_right (by omega), List.getElem?_eq_none (by omega : args.length ≤ i)]
      by_cases hr : i - args.length < n - args.length
      · rw [List.getElem?_replicate, if_pos hr]; rfl
      · rw [List.getElem?_replicate, if_neg hr]
  · rw [if_neg hi, List.getD_eq_getElem?_getD, List.getElem?_eq_none (by simp; omega)]; rfl

/-- A FUNCTION's CONTRACT, the temporaries by what was put last. -/
theorem runs_e {f : FuncId} {n : Nat} {res : List ARes} {body : ACode} (hf : (P.funcs[f]?).bind (compFn P) = some (.mk n res body)) {args : List AV} {s : AState} {Q : AV → AState → Prop} (hn : args.length ≤ n)
    (h : wp P none body (fnQ res Q) { t := den n (envOf 0 args), d := [] } s) : Runs (compCode P) P f args s Q :=
  runs_of hf (by rw [← den_args n args hn] at h; exact h)

theorem fillT_den (n : Nat) : ∀ (ps : List Nat) (args : List AV) (e : List (Nat × AV)), fillT (den n e) ps args = den n ((ps.zip args).reverse ++ e) := by
  intro ps
  induction ps with
  | nil => intro args e; simp [fillT]
  | cons p ps ih =>
    intro args e
    cases args with
    | nil => simp [fillT]
    | cons x args =>
      have := ih args ((p, x) :: e)
      have h2 := put_den n e p x
      simp only [putT] at h2
      simp only [fillT, List.zip_cons_cons, List.foldl_cons] at this ⊢
      rw [h2, this]
      simp

section
variable {K : AAct → AState → Prop} {Q : Exit → AAct → AState → Prop} {a : AAct} {s : AState} {i id : Nat}
theorem q_n {W : (Exit → AAct → AState → Prop) → AAct → AState → Prop} (h : W Q a s) : seqQ W Q .normal a s := h
theorem q_e {W : (Exit → AAct → AState → Prop) → AAct → AState → Prop} (h : Q (.exit i) a s) : seqQ W Q (.exit i) a s := h
theorem q_g {W : (Exit → AAct → AState → Prop) → AAct → AState → Prop} (h : Q (.goto i) a s) : seqQ W Q (.goto i) a s := h
theorem q_r {W : (Exit → AAct → AState → Prop) → AAct → AState → Prop} (h : Q .ret a s) : seqQ W Q .ret a s := h
theorem t_n (h : K a s) : thenQ K Q .normal a s := h
theorem t_e (h : Q (.exit i) a s) : thenQ K Q (.exit i) a s := h
theorem t_g (h : Q (.goto i) a s) : thenQ K Q (.goto i) a s := h
theorem t_r (h : Q .ret a s) : thenQ K Q .ret a s := h
theorem b_n (h : Q .normal a s) : inBlk id Q .normal a s := h
theorem b_g (h : Q (.goto i) a s) : inBlk id Q (.goto i) a s := h
theorem b_r (h : Q .ret a s) : inBlk id Q .ret a s := h
theorem b_x (h : Q .normal a s) : inBlk id Q (.exit id) a s := by show (if id = id then _ else _); rw [if_pos rfl]; exact h
theorem b_y (e : i ≠ id) (h : Q (.exit i) a s) : inBlk id Q (.exit i) a s := by show (if i = id then _ else _); rw [if_neg e]; exact h
end

/-! ### one operation behind the other -/
section
variable {cmp : Code → Option ACode} {K : List AV → AState → Prop} {n : Nat} {e : List (Nat × AV)} {s s' : AState} {r : List AOper} {x : AV} {op : AOp} {g : Option (Nat × Bool)}
theorem o_one {d : Nat} (hc : op.isCall = false) (h : stepE ⟨some d, op, g⟩ (den n e) s = some (x, s')) (k : AOps cmp P r K (den n ((d, x) :: e)) s') : AOps cmp P (⟨some d, op, g⟩ :: r) K (den n e) s :=
  stepG_of_E hc h (by rw [← put_den] at k; exact k)
theorem o_none (hc : op.isCall = false) (h : stepE ⟨none, op, g⟩ (den n e) s = some (x, s')) (k : AOps cmp P r K (den n e) s') : AOps cmp P (⟨none, op, g⟩ :: r) K (den n e) s :=
  stepG_of_E hc h k
theorem o_want {d : Option Nat} {i : Nat} {b : Bool} (h : look n e i = .v (.bool b)) (k : AOps cmp P (⟨d, op, none⟩ :: r) K (den n e) s) : AOps cmp P (⟨d, op, some (i, b)⟩ :: r) K (den n e) s :=
  .inl ⟨b, by rw [getD_den]; exact h, by rw [if_pos rfl]; exact k⟩
theorem o_skip {d i : Nat} {b b' : Bool} (h : look n e i = .v (.bool b')) (hb : b' ≠ b) (k : AOps cmp P r K (den n ((d, .v undef) :: e)) s) : AOps cmp P (⟨some d, op, some (i, b)⟩ :: r) K (den n e) s :=
  .inl ⟨b', by rw [getD_den]; exact h, by rw [if_neg hb]; rw [← put_den] at k; exact k⟩
theorem o_skipU {d i : Nat} {b : Bool} (h : look n e i = .v undef) (k : AOps cmp P r K (den n ((d, .v undef) :: e)) s) : AOps cmp P (⟨some d, op, some (i, b)⟩ :: r) K (den n e) s :=
  .inr ⟨by rw [getD_den]; exact h, by rw [← put_den] at k; exact k⟩
theorem o_call {d : Nat} {f : Arg} {args : List Arg} {g : FuncId} {fs caps : List AV} {Q : AV → AState → Prop}
    (hf : f.ev (den n e) = .f (.func g) fs caps) (h : Runs cmp P g (fs ++ args.map (Arg.ev (den n e)) ++ caps) s Q) (hk : ∀ x s', Q x s' → AOps cmp P r K (den n ((d, x) :: e)) s') :
    AOps cmp P (⟨some d, .call f args, none⟩ :: r) K (den n e) s :=
  ops_call hf h fun x s' hq => by have := hk x s' hq; rw [← put_den] at this; exact this
theorem w_ops {ro : Option Nat} {Q : Exit → AAct → AState → Prop} {d : List Nat} {t : List AV} {ops : List AOper} (k : AOps (compCode P) P ops (fun t s => Q .normal { t := t, d := d } s) t s) : wp P ro (.region ops) Q { t := t, d := d } s := k
end

def noGoto (Q : Exit → AAct → AState → Prop) : Exit → AAct → AState → Prop
  | .goto _, _, _ => False
  | e, a, s => Q e a s
section
variable {Q : Exit → AAct → AState → Prop} {a : AAct} {s : AState} {i : Nat}
theorem n_n (h : Q .normal a s) : noGoto Q .normal a s := h
theorem n_e (h : Q (.exit i) a s) : noGoto Q (.exit i) a s := h
theorem n_r (h : Q .ret a s) : noGoto Q .ret a s := h
/-- labels that nobody goes to -/
theorem w_scope0 {ro : Option Nat} {t : List AV} {d : List Nat} {c : ACode} (h : wp P ro c (noGoto Q) { t := t, d := d } s) : wp P ro (.scope c) Q { t := t, d := d } s :=
  ⟨fun _ _ _ _ => False, wp_mono (fun e a s k => by cases e <;> first | exact k | exact k.elim) h, fun m l a s rest hJ => hJ.elim⟩
end

theorem sub_alloc {s s1 : AState} (h : s.sub s1) (o : AObj) : s.sub (s1.alloc o) := h.trans (s1.sub_alloc o)
theorem set_alloc_top (s : AState) (o o' : AObj) : (s.alloc o).set s.n o' = s.alloc o' := by
  unfold AState.alloc AState.set
  congr 1
  funext x
  by_cases e : x = s.n <;> simp [e]
theorem set_alloc_low (s : AState) {b : Nat} (o o' : AObj) (h : b < s.n) : (s.alloc o).set b o' = (s.set b o').alloc o := by
  unfold AState.alloc AState.set
  congr 1
  funext x
  by_cases e : x = s.n
  · subst e; simp [Nat.ne_of_gt h]
  · by_cases e' : x = b
    · subst e'; simp [e]
    · simp [e, e']

/-- numbers that fit stay as they are -/
theorem wrap_i64 {n : Int} (h1 : -9223372036854775808 ≤ n) (h2 : n < 9223372036854775808) : IntKind.wrap .i64 n = n := by
  rw [IntKind.wrap_i64]; omega

attribute [simp] Value.oneCell' cellsAt undef runTo stepE AOp.exec ev_den ev_c put_den put_none getD_den getE_den look get envOf actOnly_den binV unV AOp.isCall optInt okRow AV.int? fillA cellsEq mmV retVal killAll evRess evRes keyEq keyOk findK

theorem loop_ok {ro : Option Nat} {Q : Exit → AAct → AState → Prop} {aa : AAct} {s : AState} {c : ACode} (keep : List Nat) (I : Nat → AAct → AState → Prop) (m : Nat) (h0 : I m (aa.only keep) s)
    (hr : ∀ m a s, I m a s → wp P ro c (thenQ (fun a' s' => ∃ m', m' < m ∧ I m' (a'.only keep) s') Q) a s) : wp P ro (.loop c) Q aa s := ⟨keep, I, m, h0, hr⟩
theorem ret_ok {res : List ARes} {Q : AV → AState → Prop} {t : List AV} {s : AState} {xs : List AV} (h : evRess t s res = some xs) (hq : Q (retVal xs) s) : fnQ res Q .ret { t := t, d := [] } s :=
  ⟨(fun x hx => by cases hx), List.nodup_nil, xs, h, hq⟩
theorem end_ok {res : List ARes} {Q : AV → AState → Prop} {t : List AV} {s : AState} {xs : List AV} (h : evRess t s res = some xs) (hq : Q (retVal xs) s) : fnQ res Q .normal { t := t, d := [] } s :=
  ⟨(fun x hx => by cases hx), List.nodup_nil, xs, h, hq⟩
end Go.Ab
