/- Going on. -/
import Derived.Laws.BitsLemmas
import Derived.Test.YtmfhchaoijiodaaKCL11
section
namespace Go.Ab
open Go.RowKit Go.Proofs
set_option linter.unusedVariables false
set_option linter.unusedSimpArgs false
variable {cmp : Code → Option ACode} {P : Program}
def stepE (o : AOper) (t : List AV) (s : AState) : Option (AV × AState) :=
  match o.guard with
  | none => o.op.exec t s
  | some (g, b) => match t.getD g .any with
    | .v (.bool b') => if b' = b then o.op.exec t s else some (.v undef, s)
    | .v (.tuple ⟨[]⟩) => some (.v undef, s)
    | _ => none
theorem stepG_of_E {o : AOper} {t : List AV} {s s' : AState} {x : AV} {Q : AV → AState → Prop} (hc : o.op.isCall = false) (h : stepE o t s = some (x, s')) (hq : Q x s') : AStepG cmp P o t s Q := by
  unfold stepE at h
  unfold AStepG
  cases hg : o.guard with
  | none => rw [hg] at h; exact astep_of_exec hc h hq
  | some gb =>
    obtain ⟨g, b⟩ := gb
    rw [hg] at h
    simp only at h ⊢
    split at h
    · rename_i b' hb
      refine .inl ⟨b', hb, ?_⟩
      split at h
      · rename_i e; rw [if_pos e]; exact astep_of_exec hc h hq
      · rename_i e; rw [if_neg e]; cases h; exact hq
    · rename_i hb; cases h; exact .inr ⟨hb, hq⟩
    · cases h
section
variable {ro : Option Nat} {Q : Exit → AAct → AState → Prop} {t : List AV} {d : List Nat} {s : AState}
theorem AOps.mono {cmp : Code → Option ACode} {K K' : List AV → AState → Prop} (hk : ∀ t s, K t s → K' t s) : ∀ {ops : List AOper} {t : List AV} {s : AState}, AOps cmp P ops K t s → AOps cmp P ops K' t s := by
  intro ops
  induction ops with
  | nil => intro t s h; exact hk _ _ h
  | cons o r ih => intro t s h; exact AStepG.mono (fun x s' k => ih k) h
theorem DWalk.mono {cmp : Code → Option ACode} {K K' : List AV → AState → Prop} (hk : ∀ t s, K t s → K' t s) : ∀ {ops : List DOper} {t : List AV} {s : AState}, DWalk cmp P ops K t s → DWalk cmp P ops K' t s := by
  intro ops
  induction ops with
  | nil => intro t s h; exact hk _ _ h
  | cons o r ih =>
    intro t s h
    unfold DWalk at h ⊢
    split at h
    · rename_i e; rw [if_pos e]; exact AStepG.mono (fun x s' k => ⟨k.1, ih k.2⟩) h
    · rename_i e; rw [if_neg e]; obtain ⟨x, h1, h2⟩ := h; exact ⟨x, h1, ih h2⟩
theorem rangeEnd.mono {Q Q' : Exit → AAct → AState → Prop} (hq : ∀ e a s, Q e a s → Q' e a s) {pend : Option AJump} {aa : AAct} {s : AState} (h : rangeEnd pend Q aa s) : rangeEnd pend Q' aa s := by
  cases pend <;> exact hq _ _ _ h
theorem wp_mono : ∀ {ac : ACode} {ro : Option Nat} {Q Q' : Exit → AAct → AState → Prop} {aa : AAct} {s : AState}, (∀ e a s, Q e a s → Q' e a s) → wp P ro ac Q aa s → wp P ro ac Q' aa s := by
  intro ac
  induction ac with
  | skip => intro ro Q Q' aa s hq h; exact hq _ _ _ h
  | region ops => intro ro Q Q' aa s hq h; exact AOps.mono (fun t s k => hq _ _ _ k) h
  | draw ops => intro ro Q Q' aa s hq h; exact DWalk.mono (fun t s k => hq _ _ _ k) h
  | seq a b iha ihb =>
    intro ro Q Q' aa s hq h
    refine iha ?_ h
    intro e a s k
    cases e <;> first | exact ihb hq k | exact hq _ _ _ k
  | cond c a b iha ihb => intro ro Q Q' aa s hq h; obtain ⟨t, h1, h2, h3⟩ := h; exact ⟨t, h1, fun e => iha hq (h2 e), fun e => ihb hq (h3 e)⟩
  | block id c ih =>
    intro ro Q Q' aa s hq h
    refine ih ?_ h
    intro e a s k
    cases e with
    | exit i =>
      have k : (if i = id then Q .normal a s else Q (.exit i) a s) := k
      show (if i = id then Q' .normal a s else Q' (.exit i) a s)
      split at k
      · rename_i e; rw [if_pos e]; exact hq _ _ _ k
      · rename_i e; rw [if_neg e]; exact hq _ _ _ k
    | _ => exact hq _ _ _ k
  | loop c ih =>
    intro ro Q Q' aa s hq h
    obtain ⟨keep, I, m, h0, hr⟩ := h
    refine ⟨keep, I, m, h0, fun m a s hm => ih ?_ (hr m a s hm)⟩
    intro e a s k
    cases e <;> first | exact k | exact hq _ _ _ k
  | range f ps asg body _ _ =>
    intro ro Q Q' aa s hq h
    obtain ⟨g, fs, caps, h1, h2⟩ := h
    refine ⟨g, fs, caps, h1, ?_⟩
    cases ro with
    | none => exact Runs.mono h2 fun x s' ⟨st, pend, k1, k2, k3⟩ => ⟨st, pend, k1, k2, k3.mono hq⟩
    | some l => obtain ⟨a1, a2, a3, a4, a5, a6, a7, h3, h4⟩ := h2; exact ⟨a1, a2, a3, a4, a5, a6, a7, h3, Runs.mono h4 fun x s' ⟨st, pend, k1, k2, k3⟩ => ⟨st, pend, k1, k2, k3.mono hq⟩⟩
  | exit id => intro ro Q Q' aa s hq h; exact hq _ _ _ h
  | scope c ih =>
    intro ro Q Q' aa s hq h
    obtain ⟨J, h1, h2⟩ := h
    have mn : ∀ {l : Nat} {B : Prop} {a : AAct} {s : AState}, (findL c l = none ∧ Q (.goto l) a s) ∨ B → (findL c l = none ∧ Q' (.goto l) a s) ∨ B := fun h => h.imp (fun h => ⟨h.1, hq _ _ _ h.2⟩) id
    refine ⟨J, ih ?_ h1, fun m l a s rest hJ hf code hc => (h2 m l a s rest hJ hf code hc).mono ?_⟩
    · intro e a s k
      cases e <;> first | exact mn k | exact hq _ _ _ k
    · intro e a s k
      cases e <;> first | exact mn k | exact hq _ _ _ k
  | label l => intro ro Q Q' aa s hq h; exact hq _ _ _ h
  | goto l => intro ro Q Q' aa s hq h; exact hq _ _ _ h
  | ret => intro ro Q Q' aa s hq h; exact hq _ _ _ h
end
def get : List (Nat × AV) → Nat → AV
  | [], _ => .any
  | (j, x) :: r, i => if j = i then x else get r i
def den (n : Nat) (e : List (Nat × AV)) : List AV := (List.range n).map (get e)
def look (n : Nat) (e : List (Nat × AV)) (i : Nat) : AV := if i < n then get e i else .any
theorem den_length (n : Nat) (e : List (Nat × AV)) : (den n e).length = n := by simp [den]
theorem getD_den (n : Nat) (e : List (Nat × AV)) (i : Nat) : (den n e).getD i .any = look n e i := by
  unfold den look
  by_cases h : i < n
  · rw [if_pos h, List.getD_eq_getElem?_getD, List.getElem?_map, List.getElem?_range h]; rfl
  · rw [if_neg h, List.getD_eq_getElem?_getD, List.getElem?_map, List.getElem?_eq_none (by simpa using h)]; rfl
theorem getE_den (n : Nat) (e : List (Nat × AV)) (i : Nat) : (den n e)[i]?.getD .any = look n e i := by rw [← List.getD_eq_getElem?_getD]; exact getD_den n e i
theorem ev_den (n : Nat) (e : List (Nat × AV)) (i : Nat) : Arg.ev (den n e) (.t i) = look n e i := getD_den n e i
theorem ev_c (t : List AV) (x : AV) : Arg.ev t (.c x) = x := rfl
theorem list_ext_getD {l l' : List AV} (h : l.length = l'.length) (hg : ∀ i, l.getD i .any = l'.getD i .any) : l = l' := by
  apply List.ext_getElem h
  intro i h1 h2
  have := hg i
  rwa [List.getD_eq_getElem?_getD, List.getElem?_eq_getElem h1, List.getD_eq_getElem?_getD, List.getElem?_eq_getElem h2] at this
theorem put_den (n : Nat) (e : List (Nat × AV)) (d : Nat) (x : AV) : putT (den n e) (some d) x = den n ((d, x) :: e) := by
  apply list_ext_getD (by simp [putT, den_length])
  intro i
  rw [getD_den]
  by_cases hd : d = i
  · subst hd
    by_cases h : d < n
    · rw [putT_same (by rw [den_length]; exact h)]; simp [look, get, h]
    · simp only [look, if_neg h]
      rw [List.getD_eq_getElem?_getD, List.getElem?_eq_none (by simp [putT, den_length]; omega)]; rfl
  · rw [putT_ne (by simpa using hd), getD_den]; simp [look, get, hd]
theorem only_den (n : Nat) (e : List (Nat × AV)) (keep : List Nat) : only keep (den n e) = den n (keep.map fun i => (i, get e i)) := by
  apply list_ext_getD (by simp [only, den_length])
  intro i
  rw [getD_den]
  by_cases h : i < n
  · have h1 : (only keep (den n e)).getD i .any = if keep.contains i then (den n e).getD i .any else .any := by
      simp only [only, List.getD_eq_getElem?_getD, List.getElem?_mapIdx]
      rw [List.getElem?_eq_getElem (by rw [den_length]; exact h)]
      simp only [Option.map_some, Option.getD_some]
    rw [h1, getD_den]
    simp only [look, if_pos h]
    clear h1
    induction keep with
    | nil => simp [get]
    | cons k keep ih =>
      by_cases hk : k = i
      · subst hk; simp [get]
      · have : ((k :: keep).contains i) = keep.contains i := by simp [List.contains_cons, Ne.symm hk]
        rw [this, ih]; simp [get, hk]
  · simp only [look, if_neg h]
    rw [List.getD_eq_getElem?_getD, List.getElem?_eq_none (by simp [only, den_length]; omega)]; rfl
theorem actOnly_den (n : Nat) (e : List (Nat × AV)) (keep : List Nat) (d : List Nat) : AAct.only keep { t := den n e, d := d } = { t := den n (keep.map fun i => (i, get e i)), d := d } := by
  unfold AAct.only; simp only [only_den]
def envOf : Nat → List AV → List (Nat × AV)
  | _, [] => []
  | i, x :: r => (i, x) :: envOf (i + 1) r
theorem get_envOf (xs : List AV) : ∀ (k i : Nat), get (envOf k xs) i = if k ≤ i then xs.getD (i - k) .any else .any := by
  induction xs with
  | nil => intro k i; simp [envOf, get]
  | cons x xs ih =>
    intro k i
    simp only [envOf, get]
    by_cases e : k = i
    · subst e; simp
    · rw [if_neg e, ih]
      by_cases h : k + 1 ≤ i
      · rw [if_pos h, if_pos (by omega), show i - k = (i - (k + 1)) + 1 by omega]; simp
      · rw [if_neg h, if_neg (by omega)]
theorem den_args (n : Nat) (args : List AV) (h : args.length ≤ n) : args ++ List.replicate (n - args.length) .any = den n (envOf 0 args) := by
  apply list_ext_getD (by simp [den_length]; omega)
  intro i
  rw [getD_den, look]
  by_cases hi : i < n
  · rw [if_pos hi, get_envOf]
    simp only [Nat.zero_le, if_true, Nat.sub_zero, List.getD_eq_getElem?_getD]
    by_cases ha : i < args.length
    · rw [List.getElem?_append_left ha]
    · rw [List.getElem?_append_right (by omega), List.getElem?_eq_none (by omega : args.length ≤ i)]
      by_cases hr : i - args.length < n - args.length
      · rw [List.getElem?_replicate, if_pos hr]; rfl
      · rw [List.getElem?_replicate, if_neg hr]
  · rw [if_neg hi, List.getD_eq_getElem?_getD, List.getElem?_eq_none (by simp; omega)]; rfl
theorem runs_e {f : FuncId} {n : Nat} {res : List ARes} {body : ACode} (hf : (P.funcs[f]?).bind (compFn P) = some (.mk n res body)) {args : List AV} {s : AState} {Q : AV → AState → Prop} (hn : args.length ≤ n)
    (h : wp P none body (fnQ res Q) { t := den n (envOf 0 args), d := [] } s) : Runs (compCode P) P f args s Q :=
  runs_of hf (by rw [← den_args n args hn] at h; exact h)
theorem fillT_den (n : Nat) : ∀ (ps : List Nat) (args : List AV) (e : List (Nat × AV)), fillT (den n e) ps args = den n ((ps.zip args).reverse ++ e) := by
  intro ps
  induction ps with
  | nil => intro args e; simp [fillT]
  | cons p ps ih =>
    intro args e
    cases args with
    | nil => simp [fillT]
    | cons x args =>
      have := ih args ((p, x) :: e)
      have h2 := put_den n e p x
      simp only [putT] at h2
      simp only [fillT, List.zip_cons_cons, List.foldl_cons] at this ⊢
      rw [h2, this]
      simp
section
variable {cmp : Code → Option ACode} {K : List AV → AState → Prop} {n : Nat} {e : List (Nat × AV)} {s s' : AState} {r : List AOper} {x : AV} {op : AOp} {g : Option (Nat × Bool)}
theorem o_one {d : Nat} (hc : op.isCall = false) (h : stepE ⟨some d, op, g⟩ (den n e) s = some (x, s')) (k : AOps cmp P r K (den n ((d, x) :: e)) s') : AOps cmp P (⟨some d, op, g⟩ :: r) K (den n e) s :=
  stepG_of_E hc h (by rw [← put_den] at k; exact k)
theorem o_none (hc : op.isCall = false) (h : stepE ⟨none, op, g⟩ (den n e) s = some (x, s')) (k : AOps cmp P r K (den n e) s') : AOps cmp P (⟨none, op, g⟩ :: r) K (den n e) s :=
  stepG_of_E hc h k
end
theorem set_alloc_top (s : AState) (o o' : AObj) : (s.alloc o).set s.n o' = s.alloc o' := by
  unfold AState.alloc AState.set
  congr 1
  funext x
  by_cases e : x = s.n <;> simp [e]
theorem set_alloc_low (s : AState) {b : Nat} (o o' : AObj) (h : b < s.n) : (s.alloc o).set b o' = (s.set b o').alloc o := by
  unfold AState.alloc AState.set
  congr 1
  funext x
  by_cases e : x = s.n
  · subst e; simp [Nat.ne_of_gt h]
  · by_cases e' : x = b
    · subst e'; simp [e]
    · simp [e, e']
theorem wrap_i64 {n : Int} (h1 : -9223372036854775808 ≤ n) (h2 : n < 9223372036854775808) : IntKind.wrap .i64 n = n := by
  rw [IntKind.wrap_i64]; omega
attribute [simp] Value.oneCell' cellsAt undef stepE AOp.exec ev_den ev_c put_den getD_den getE_den look get envOf actOnly_den binV unV AOp.isCall optInt okRow AV.int? fillA cellsEq mmV retVal killAll evRess evRes keyEq keyOk findK
theorem loop_ok {ro : Option Nat} {Q : Exit → AAct → AState → Prop} {aa : AAct} {s : AState} {c : ACode} (keep : List Nat) (I : Nat → AAct → AState → Prop) (m : Nat) (h0 : I m (aa.only keep) s)
    (hr : ∀ m a s, I m a s → wp P ro c (thenQ (fun a' s' => ∃ m', m' < m ∧ I m' (a'.only keep) s') Q) a s) : wp P ro (.loop c) Q aa s := ⟨keep, I, m, h0, hr⟩
theorem ret_ok {res : List ARes} {Q : AV → AState → Prop} {t : List AV} {s : AState} {xs : List AV} (h : evRess t s res = some xs) (hq : Q (retVal xs) s) : fnQ res Q .ret { t := t, d := [] } s :=
  ⟨(fun x hx => by cases hx), List.nodup_nil, xs, h, hq⟩
theorem end_ok {res : List ARes} {Q : AV → AState → Prop} {t : List AV} {s : AState} {xs : List AV} (h : evRess t s res = some xs) (hq : Q (retVal xs) s) : fnQ res Q .normal { t := t, d := [] } s :=
  ⟨(fun x hx => by cases hx), List.nodup_nil, xs, h, hq⟩
end Go.Ab
end
section
namespace Go.Ab
open Go.RowKit Go.Proofs
set_option linter.unusedVariables false
set_option linter.unusedSimpArgs false
variable {P : Program} {cmp : Code → Option ACode} {K : List AV → AState → Prop} {n : Nat} {e : List (Nat × AV)} {s s' : AState} {r : List DOper} {x : AV} {op : AOp} {g : Option (Nat × Bool)} {am : Bool} {opens : List AOper}
theorem Opens.of_ext {t : List AV} (h : s.ext s') : Opens cmp P opens s t s' := .inr (.inl h)
theorem Opens.same {t : List AV} : Opens cmp P opens s t s := .inr (.inl (.refl s))
theorem d_one {d : Nat} (hc : op.isCall = false) (h : stepE ⟨some d, op, g⟩ (den n e) s = some (x, s)) (k : DWalk cmp P r K (den n ((d, x) :: e)) s) : DWalk cmp P (⟨⟨some d, op, g⟩, false, am, opens⟩ :: r) K (den n e) s :=
  ⟨x, ⟨stepG_of_E hc h ⟨rfl, rfl⟩, fun _ hcall => by rw [show op.isCall = true from hcall] at hc; cases hc⟩, by rw [← put_den] at k; exact k⟩
theorem d_eff {d : Nat} (hc : op.isCall = false) (h : stepE ⟨some d, op, g⟩ (den n e) s = some (x, s')) (ho : Opens cmp P opens s (den n ((d, x) :: e)) s') (k : DWalk cmp P r K (den n ((d, x) :: e)) s') :
    DWalk cmp P (⟨⟨some d, op, g⟩, true, am, opens⟩ :: r) K (den n e) s :=
  stepG_of_E hc h (by rw [← put_den] at k ho; exact ⟨ho, k⟩)
theorem d_effN (hc : op.isCall = false) (h : stepE ⟨none, op, g⟩ (den n e) s = some (x, s')) (ho : Opens cmp P opens s (den n e) s') (k : DWalk cmp P r K (den n e) s') :
    DWalk cmp P (⟨⟨none, op, g⟩, true, am, opens⟩ :: r) K (den n e) s := stepG_of_E hc h ⟨ho, k⟩
end Go.Ab
end
section
namespace Go.Ab
open Go.RowKit Go.Proofs
set_option linter.unusedVariables false
set_option linter.unusedSimpArgs false
variable {cmp : Code → Option ACode} {P : Program}
theorem AState.ext' {s s' : AState} (hn : s.n = s'.n) (h : ∀ b, s.at_ b = s'.at_ b) : s = s' := by
  cases s; cases s'; simp only at hn h; subst hn; congr; exact funext h
def allocs (s : AState) (g : List AObj) : AState := g.foldl AState.alloc s
theorem allocs_nil (s : AState) : allocs s [] = s := rfl
theorem allocs_snoc (s : AState) (g : List AObj) (o : AObj) : (allocs s g).alloc o = allocs s (g ++ [o]) := by simp [allocs]
theorem allocs_cons (s : AState) (g : List AObj) (o : AObj) : allocs (s.alloc o) g = allocs s (o :: g) := rfl
theorem allocs_allocs (s : AState) (g h : List AObj) : allocs (allocs s g) h = allocs s (g ++ h) := by simp [allocs]
theorem n_allocs (s : AState) (g : List AObj) : (allocs s g).n = s.n + g.length := by
  induction g generalizing s with
  | nil => rfl
  | cons o g ih => rw [← allocs_cons, ih]; simp; omega
theorem get_allocs {s : AState} {g : List AObj} {b : Nat} (h : b < s.n) : (allocs s g).get b = s.get b := by
  induction g generalizing s with
  | nil => rfl
  | cons o g ih => rw [← allocs_cons, ih (by simp; omega), AState.get_alloc_old _ _ h]
theorem set_allocs {s : AState} {g : List AObj} {b : Nat} (o : AObj) (h : b < s.n) : (allocs s g).set b o = allocs (s.set b o) g := by
  induction g generalizing s with
  | nil => rfl
  | cons o' g ih => rw [← allocs_cons, ← allocs_cons, ih (by simp; omega), set_alloc_low _ _ _ h]
theorem get_allocs_new {s : AState} {g : List AObj} {b : Nat} (h : s.n ≤ b) : (allocs s g).get b = g.getD (b - s.n) .dead := by
  induction g generalizing s with
  | nil => rw [allocs_nil, AState.get_ge _ h]; simp
  | cons o g ih =>
    rw [← allocs_cons]
    by_cases e : b = s.n
    · subst e
      rw [get_allocs (by simp), AState.get_alloc_new]; simp
    · rw [ih (by simp; omega)]
      simp only [AState.n_alloc]
      rw [show b - s.n = (b - (s.n + 1)) + 1 by omega]; simp
theorem set_allocs_new {s : AState} {g : List AObj} {b : Nat} (o : AObj) (h : s.n ≤ b) (h2 : b < s.n + g.length) : (allocs s g).set b o = allocs s (g.set (b - s.n) o) := by
  induction g generalizing s with
  | nil => simp at h2; omega
  | cons o' g ih =>
    rw [← allocs_cons]
    by_cases e : b = s.n
    · subst e
      rw [set_allocs _ (by simp), set_alloc_top]; simp [allocs_cons]
    · rw [ih (by simp; omega) (by simp at h2 ⊢; omega)]
      simp only [AState.n_alloc]
      rw [show b - s.n = (b - (s.n + 1)) + 1 by omega]; simp [allocs_cons]
theorem get_alloc_eq {s : AState} {b : Nat} {o : AObj} (h : b = s.n) : (s.alloc o).get b = o := by subst h; simp
theorem get_alloc_ne {s : AState} {b : Nat} {o : AObj} (h : b ≠ s.n) : (s.alloc o).get b = s.get b := by simp [AState.get_alloc, h]
theorem set_alloc_eq {s : AState} {b : Nat} {o o' : AObj} (h : b = s.n) : (s.alloc o).set b o' = s.alloc o' := by subst h; exact set_alloc_top _ _ _
theorem set_alloc_lt {s : AState} {b : Nat} {o o' : AObj} (h : b < s.n) : (s.alloc o).set b o' = (s.set b o').alloc o := set_alloc_low _ _ _ h
theorem get_set_eq {s : AState} {b x : Nat} {o : AObj} (h : b = x ∧ x < s.n) : (s.set b o).get x = o := by obtain ⟨rfl, h⟩ := h; exact AState.get_set_same _ _ h
theorem get_set_ne' {s : AState} {b x : Nat} {o : AObj} (h : b ≠ x) : (s.set b o).get x = s.get x := AState.get_set_ne _ _ (Ne.symm h)
theorem set_set (s : AState) (b : Nat) (o o' : AObj) : (s.set b o).set b o' = s.set b o' := by
  refine AState.ext' rfl fun x => ?_
  simp only [AState.set]; split <;> rfl
theorem set_get {s : AState} {b : Nat} {o : AObj} (h : s.get b = o) (hd : o ≠ .dead) : s.set b o = s := by
  have hb := AState.lt_of_get h hd
  refine AState.ext' rfl fun x => ?_
  simp only [AState.set]
  split
  · rename_i e; subst e; rw [← h]; simp [AState.get, hb]
  · rfl
def Grows (s s' : AState) : Prop := ∃ g, s' = allocs s g
theorem Grows.refl (s : AState) : Grows s s := ⟨[], rfl⟩
theorem Grows.alloc {s s' : AState} (h : Grows s s') (o : AObj) : Grows s (s'.alloc o) := by obtain ⟨g, rfl⟩ := h; exact ⟨_, allocs_snoc _ _ _⟩
theorem Grows.allocs {s s' : AState} (h : Grows s s') (g : List AObj) : Grows s (allocs s' g) := by obtain ⟨g, rfl⟩ := h; exact ⟨_, allocs_allocs _ _ _⟩
theorem Grows.trans {a b c : AState} (h : Grows a b) (k : Grows b c) : Grows a c := by obtain ⟨g, rfl⟩ := k; exact h.allocs g
theorem Grows.set {s s' : AState} (h : Grows s s') {b : Nat} (o : AObj) (hb : s.n ≤ b) (hb' : b < s'.n) : Grows s (s'.set b o) := by
  obtain ⟨g, rfl⟩ := h
  rw [n_allocs] at hb'
  exact ⟨_, set_allocs_new o hb hb'⟩
theorem Grows.n {s s' : AState} (h : Grows s s') : s.n ≤ s'.n := by obtain ⟨g, rfl⟩ := h; rw [n_allocs]; omega
theorem Grows.get {s s' : AState} (h : Grows s s') {b : Nat} (hb : b < s.n) : s'.get b = s.get b := by obtain ⟨g, rfl⟩ := h; exact get_allocs hb
theorem Grows.sub {s s' : AState} (h : Grows s s') : s.sub s' := ⟨h.n, fun b hb => .inl (h.get hb).symm⟩
theorem Grows.ext {s s' : AState} (h : Grows s s') : s.ext s' := ⟨h.n, fun b hd _ => h.get (AState.lt_of_get rfl hd)⟩
def AV.le (x y : AV) : Prop := ∀ c v, R c x v → R c y v
theorem AV.le.refl (x : AV) : x.le x := fun _ _ h => h
theorem AV.le.trans {x y z : AV} (h : x.le y) (k : y.le z) : x.le z := fun c v r => k c v (h c v r)
theorem AV.le_no (xs : List AV) (t : Tok) : (AV.sl xs t).le (.sl xs .no) := fun c v h => by
  cases h with
  | sl _ _ k B o cap g h1 h2 h3 h4 h5 => exact .sl xs .no k B o cap g h1 h2 h3 h4 trivial
  | sl0 _ p ht => exact .sl0 .no p (fun k => by simp)
theorem le_bool {x y : Bool} (h : x = y) : (AV.v (.bool x)).le (.v (.bool y)) := by subst h; exact .refl _
theorem RL.le {c : Cx} {xs ys : List AV} {vs : List Value} (hl : xs.length = ys.length) (h : ∀ j, (xs.getD j .any).le (ys.getD j .any)) (r : RL c xs vs) : RL c ys vs := by
  refine ⟨by rw [r.1, hl], fun j hj => ?_⟩
  have h1 := h j c _ (r.get j)
  rwa [List.getD_eq_getElem?_getD (l := ys), List.getElem?_eq_getElem hj] at h1
theorem AV.le_agg {xs ys : List AV} (hl : xs.length = ys.length) (h : ∀ j, (xs.getD j .any).le (ys.getD j .any)) : (AV.agg xs).le (.agg ys) := fun c v r => by
  obtain ⟨vs, rfl, hr⟩ := r.agg_inv
  exact R.agg' (hr.le hl h)
theorem AV.le_tup {xs ys : List AV} (hl : xs.length = ys.length) (h : ∀ j, (xs.getD j .any).le (ys.getD j .any)) : (AV.tup xs).le (.tup ys) := fun c v r => by
  obtain ⟨vs, rfl, hr⟩ := r.tup_inv
  exact R.tup' (hr.le hl h)
theorem AV.le_strip1 (x : AV) : x.le x.strip1 := by
  cases x <;> first | exact .refl _ | exact AV.le_no _ _
theorem AV.le_strip (x : AV) : x.le x.strip := by
  cases x <;> first | exact .refl _ | exact AV.le_no _ _ | skip
  rename_i cs
  refine AV.le_agg (by simp) fun j => ?_
  rw [List.getD_eq_getElem?_getD, List.getD_eq_getElem?_getD, List.getElem?_map]
  cases cs[j]? with
  | none => exact .refl _
  | some x => exact AV.le_strip1 x
def Flat (x : AV) : Prop := ∀ n, x.In n
theorem Flat.v (x : Value) : Flat (.v x) := fun n => .v x
theorem Flat.agg {cs : List AV} (h : ∀ x ∈ cs, Flat x) : Flat (.agg cs) := fun n => .agg cs fun x hx => h x hx n
theorem Flat.tup {cs : List AV} (h : ∀ x ∈ cs, Flat x) : Flat (.tup cs) := fun n => .tup cs fun x hx => h x hx n
theorem Flat.sl {xs : List AV} (h : ∀ x ∈ xs, ∀ y ∈ x.cells, Flat y) {t : Tok} (ht : ∀ k, t ≠ .own k) : Flat (.sl xs t) := fun n => .sl xs t (fun x hx y hy => h x hx y hy n) (fun k e => absurd e (ht k))
def Gives (P : Program) (f : FuncId) (args : List AV) (s : AState) (x : AV) (s' : AState) : Prop := Runs (compCode P) P f args s (fun r t => r = x ∧ t = s')
theorem Runs.weak {f : FuncId} {args args' : List AV} {s : AState} {Q : AV → AState → Prop} (hl : args.length = args'.length) (h : ∀ j, (args.getD j .any).le (args'.getD j .any)) (k : Runs cmp P f args' s Q) : Runs cmp P f args s Q :=
  ⟨k.1, fun c w vs hr ha => k.2 c w vs hr (ha.le hl h)⟩
theorem Runs.strip {f : FuncId} {args : List AV} {s : AState} {Q : AV → AState → Prop} (k : Runs cmp P f (args.map AV.strip) s Q) : Runs cmp P f args s Q := by
  refine Runs.weak (by simp) (fun j => ?_) k
  rw [List.getD_eq_getElem?_getD, List.getD_eq_getElem?_getD, List.getElem?_map]
  cases args[j]? with
  | none => exact .refl _
  | some x => exact AV.le_strip x
theorem Runs.less {f : FuncId} {args : List AV} {s : AState} {Q Q' : AV → AState → Prop} (k : Runs cmp P f args s Q) (h : ∀ x s', Q x s' → ∃ y, x.le y ∧ Q' y s') : Runs cmp P f args s Q' :=
  ⟨k.1, fun c w vs hr ha => (k.2 c w vs hr ha).mono fun e w' ⟨v, c', x, s', h1, h2, h3, h4, h5⟩ => by
    obtain ⟨y, hy, hq⟩ := h x s' h5
    exact ⟨v, c', y, s', h1, h2, h3, hy _ _ h4, hq⟩⟩
theorem Runs.gives {f : FuncId} {args : List AV} {s : AState} {x : AV} (k : Runs (compCode P) P f args s (fun r t => s.sub t ∧ r.le x)) (hx : Flat x) : Gives P f args s x s :=
  Runs.quiet (Runs.less k fun r t h => ⟨x, h.2, rfl, h.1, fun _ => hx _⟩)
theorem Runs.gives' {f : FuncId} {args : List AV} {s : AState} {x : AV} (k : Runs (compCode P) P f args s (fun r t => Grows s t ∧ r.le x)) (hx : Flat x) : Gives P f args s x s :=
  Runs.gives (k.mono fun r t h => ⟨h.1.sub, h.2⟩) hx
def Iter (P : Program) (g : FuncId) (fs caps : List AV) (xs : List (List AV)) (Pre : AState → Prop) : Prop :=
  ∀ (l : Nat) (s : AState) (I : Nat → AState → Prop) (J : AState → Prop),
    (∀ k s, I k s → Pre s) → (∀ k s o, I k s → I k (s.alloc o)) → (∀ s o, J s → J (s.alloc o)) →
    (∀ k (hk : k < xs.length) s, I k s → YRuns (compCode P) P l xs[k] s (fun r s' => (r = .v (.bool true) ∧ I (k + 1) s') ∨ (r = .v (.bool false) ∧ J s'))) →
    I 0 s → Runs (compCode P) P g (fs ++ [.y l] ++ caps) s (fun _ s' => I xs.length s' ∨ J s')
section
variable {f : Arg} {ps : List Nat} {asg body : ACode} {Q : Exit → AAct → AState → Prop} {t : List AV} {d : List Nat} {s : AState} {g : FuncId} {fs caps : List AV} {xs : List (List AV)} {Pre : AState → Prop}
def Round (P : Program) (L : Nat) (ps : List Nat) (asg body : ACode) (t : List AV) (D : Nat) (args : List AV) (fin : Option AJump → AState → Prop) (s : AState) : Prop :=
  wp P (some L) asg (fun e a1 s1 => e = .normal ∧ s1.get L = .loop .ready none t ps asg body D ∧ wp P (some L) body (fun e _ s2 => s2.get L = .loop .busy none t ps asg body D ∧
    match e with
    | .normal => fin none (s2.set L (.loop .ready none t ps asg body D))
    | .ret => fin (some .ret) (s2.set L (.loop .done (some .ret) t ps asg body D))
    | .exit id => fin (some (.exit id)) (s2.set L (.loop .done (some (.exit id)) t ps asg body D))
    | .goto i => fin (some (.goto i)) (s2.set L (.loop .done (some (.goto i)) t ps asg body D))
    | _ => False) a1 (s1.set L (.loop .busy none t ps asg body D))) { t := fillT t ps args, d := [] } s
theorem Round.yruns {L : Nat} {D : Nat} {args : List AV} {fin : Option AJump → AState → Prop} (h : Round P L ps asg body t D args fin s) (hL : s.get L = .loop .ready none t ps asg body D) (hl : args.length = ps.length) {Q : AV → AState → Prop}
    (hq : ∀ s', fin none s' → Q (.v (.bool true)) s') (hq2 : ∀ j s', fin (some j) s' → Q (.v (.bool false)) s') : YRuns (compCode P) P L args s Q := by
  refine ⟨t, ps, asg, body, D, hL, hl, wp_ok (wp_mono ?_ h)⟩
  rintro e a1 s1 ⟨rfl, k2, k3⟩
  refine ⟨rfl, k2, wp_ok (wp_mono ?_ k3)⟩
  rintro e a2 s2 ⟨m1, m2⟩
  refine ⟨m1, ?_⟩
  cases e with
  | normal => exact hq _ m2
  | ret => exact hq2 _ _ m2
  | exit id => exact hq2 _ _ m2
  | goto i => exact hq2 _ _ m2
  | panic _ => exact m2
  | outgrown => exact m2
theorem w_range (hf : f.ev t = .f (.func g) fs caps) (hit : Iter P g fs caps xs Pre) (hps : ∀ x ∈ xs, x.length = ps.length) (Inv : Nat → AState → Prop) (J : AJump → AState → Prop)
    (h0 : Inv 0 ((s.alloc .defd).alloc (.loop .ready none t ps asg body s.n)))
    (hp : ∀ k s', Inv k s' → Pre s') (ha : ∀ k s' o, Inv k s' → Inv k (s'.alloc o)) (hj : ∀ j s' o, J j s' → J j (s'.alloc o))
    (hL : ∀ k s', Inv k s' → s'.get (s.n + 1) = .loop .ready none t ps asg body s.n) (hJ : ∀ j s', J j s' → s'.get (s.n + 1) = .loop .done (some j) t ps asg body s.n)
    (hr : ∀ k (hk : k < xs.length) s', Inv k s' → Round P (s.n + 1) ps asg body t s.n xs[k] (fun j s'' => match j with | none => Inv (k + 1) s'' | some j => J j s'') s')
    (hn : ∀ s', Inv xs.length s' → Q .normal { t := t, d := s.n :: d } (s'.set (s.n + 1) .dead)) (hq : ∀ j s', J j s' → Q j.exitOf { t := t, d := s.n :: d } (s'.set (s.n + 1) .dead)) :
    wp P none (.range f ps asg body) Q { t := t, d := d } s := by
  refine ⟨g, fs, caps, hf, ?_⟩
  refine Runs.mono (hit (s.n + 1) _ Inv (fun s' => ∃ j, J j s') hp ha (fun s' o ⟨j, h⟩ => ⟨j, hj _ _ _ h⟩) (fun k hk s' hI => ?_) h0) ?_
  · exact (hr k hk s' hI).yruns (hL k s' hI) (hps _ (List.getElem_mem hk)) (fun s'' h => .inl ⟨rfl, h⟩) (fun j s'' h => .inr ⟨rfl, j, h⟩)
  · rintro x s' (h | ⟨j, h⟩)
    · exact ⟨_, _, hL _ _ h, by simp, hn _ h⟩
    · exact ⟨_, _, hJ _ _ h, by simp, hq _ _ h⟩
end
def IsLoop (o : AObj) (d0 : Nat) : Prop := ∃ st pe t ps a b, o = .loop st pe t ps a b d0
def roundB (L : Nat) (LR LB : AObj) (LJ : AJump → AObj) (fin : Option AJump → AState → Prop) : Exit → AAct → AState → Prop := fun e _ s2 => s2.get L = LB ∧
    match e with
    | .normal => fin none (s2.set L LR)
    | .ret => fin (some .ret) (s2.set L (LJ .ret))
    | .exit id => fin (some (.exit id)) (s2.set L (LJ (.exit id)))
    | .goto i => fin (some (.goto i)) (s2.set L (LJ (.goto i)))
    | _ => False
def roundA (P : Program) (L : Nat) (LR LB : AObj) (LJ : AJump → AObj) (body : ACode) (fin : Option AJump → AState → Prop) : Exit → AAct → AState → Prop := fun e a1 s1 =>
  e = .normal ∧ s1.get L = LR ∧ wp P (some L) body (roundB L LR LB LJ fin) a1 (s1.set L LB)
section
variable {α β : Type} {f : Arg} {ps : List Nat} {asg body : ACode} {Q : Exit → AAct → AState → Prop} {d : List Nat} {s : AState} {g : FuncId} {fs caps : List AV} {xs : List (List AV)} {Pre : AState → Prop} {n : Nat} {e : List (Nat × AV)}
def Fin (N : Nat) (LR : AObj) (LJ : AJump → AObj) (H : α → AState) (C : α → AState → Prop) (HJ : AJump → β → AState) (CJ : AJump → β → AState → Prop) (defd : Bool) : Option AJump → AState → Prop
  | none, s' => ∃ a, (H a).n = N ∧ Grows ((if defd then (H a).alloc .defd else H a).alloc LR) s' ∧ C a s'
  | some j, s' => ∃ b, (HJ j b).n = N ∧ Grows ((if defd then (HJ j b).alloc .defd else HJ j b).alloc (LJ j)) s' ∧ CJ j b s'
theorem w_rangeG (hf : f.ev (den n e) = .f (.func g) fs caps) (hit : Iter P g fs caps xs Pre) (hps : ∀ x ∈ xs, x.length = ps.length) {m : Nat} (hm : xs.length = m) (H : Nat → α → AState) (C : Nat → α → AState → Prop) (HJ : AJump → β → AState) (CJ : AJump → β → AState → Prop) (a0 : α)
    (h0 : H 0 a0 = s) (hC0 : ∀ s', Grows s s' → C 0 a0 s')
    (hp : ∀ k a s', C k a s' → (H k a).n = s.n → Grows (H k a) s' → Pre s') (hC : ∀ k a s' o, C k a s' → C k a (s'.alloc o)) (hCJ : ∀ j b s' o, CJ j b s' → CJ j b (s'.alloc o))
    (hr : ∀ LR LB LJ, IsLoop LB s.n → ∀ k (hk : k < xs.length) a g', (H k a).n = s.n → C k a (allocs (((H k a).alloc .defd).alloc LR) g') →
      wp P (some (s.n + 1)) asg (roundA P (s.n + 1) LR LB LJ body (Fin s.n LR LJ (H (k + 1)) (C (k + 1)) HJ CJ true)) { t := den n ((ps.zip xs[k]).reverse ++ e), d := [] } (allocs (((H k a).alloc .defd).alloc LR) g'))
    (hn : ∀ LR a g', (H m a).n = s.n → C m a (allocs (((H m a).alloc .defd).alloc LR) g') → Q .normal { t := den n e, d := s.n :: d } (allocs (((H m a).alloc .defd).alloc .dead) g'))
    (hq : ∀ LJ j b g', (HJ j b).n = s.n → CJ j b (allocs (((HJ j b).alloc .defd).alloc LJ) g') → Q j.exitOf { t := den n e, d := s.n :: d } (allocs (((HJ j b).alloc .defd).alloc .dead) g')) :
    wp P none (.range f ps asg body) Q { t := den n e, d := d } s := by
  subst hm
  refine w_range hf hit hps (fun k s' => ∃ a, (H k a).n = s.n ∧ Grows (((H k a).alloc .defd).alloc (.loop .ready none (den n e) ps asg body s.n)) s' ∧ C k a s')
    (fun j s' => ∃ b, (HJ j b).n = s.n ∧ Grows (((HJ j b).alloc .defd).alloc (.loop .done (some j) (den n e) ps asg body s.n)) s' ∧ CJ j b s') ?_ ?_ ?_ ?_ ?_ ?_ ?_ ?_ ?_
  · exact ⟨a0, by rw [h0], by rw [h0]; exact .refl _, hC0 _ (((Grows.refl s).alloc _).alloc _)⟩
  · rintro k s' ⟨a, h1, h2, h3⟩
    exact hp k a s' h3 h1 ((((Grows.refl _).alloc _).alloc _).trans h2)
  · rintro k s' o ⟨a, h1, h2, h3⟩
    exact ⟨a, h1, h2.alloc _, hC _ _ _ _ h3⟩
  · rintro j s' o ⟨a, h1, h2, h3⟩
    exact ⟨a, h1, h2.alloc _, hCJ _ _ _ _ h3⟩
  · rintro k s' ⟨a, h1, h2, h3⟩
    rw [h2.get (by simp [h1])]; exact get_alloc_eq (by simp [h1])
  · rintro k s' ⟨a, h1, h2, h3⟩
    rw [h2.get (by simp [h1])]; exact get_alloc_eq (by simp [h1])
  · rintro k hk s' ⟨a, h1, ⟨g', rfl⟩, h3⟩
    unfold Round
    rw [fillT_den]
    refine wp_mono ?_ (hr _ (.loop .busy none (den n e) ps asg body s.n) (fun j => .loop .done (some j) (den n e) ps asg body s.n) ⟨_, _, _, _, _, _, rfl⟩ k hk a g' h1 h3)
    rintro e' a1 s1 ⟨rfl, k2, k3⟩
    refine ⟨rfl, k2, wp_mono ?_ k3⟩
    rintro e' a2 s2 ⟨m1, m2⟩
    refine ⟨m1, ?_⟩
    cases e' <;> exact m2
  · rintro s' ⟨a, h1, ⟨g', rfl⟩, h3⟩
    have := hn _ a g' h1 h3
    rw [set_allocs _ (by simp [h1]), set_alloc_eq (by simp [h1])]
    exact this
  · rintro j s' ⟨a, h1, ⟨g', rfl⟩, h3⟩
    have := hq _ j a g' h1 h3
    rw [set_allocs _ (by simp [h1]), set_alloc_eq (by simp [h1])]
    exact this
end
theorem ret_okD {res : List ARes} {Q : AV → AState → Prop} {t : List AV} {s : AState} {D : List Nat} {xs : List AV} (hd : ∀ x ∈ D, s.get x = .defd) (hn : D.Nodup) (h : evRess t (killAll D s) res = some xs) (hq : Q (retVal xs) (killAll D s)) : fnQ res Q .ret { t := t, d := D } s :=
  ⟨hd, hn, xs, h, hq⟩
def May (n : Nat) (s : AState) (xs : List AV) : Tok → Prop
  | .no => False
  | .zero => True
  | .own t => s.get t = .tok ∧ xs.isEmpty = false ∧ n ≤ t
def eat (s : AState) : Tok → AState
  | .own t => s.set t .dead
  | _ => s
theorem May.alloc {n : Nat} {s : AState} {xs : List AV} {tk : Tok} (h : May n s xs tk) (o : AObj) : May n (s.alloc o) xs tk := by
  cases tk with
  | own t => obtain ⟨h1, h2, h3⟩ := h; exact ⟨by rw [AState.get_alloc_old _ _ (AState.lt_of_get h1 (by simp))]; exact h1, h2, h3⟩
  | _ => exact h
theorem May.set {n : Nat} {s : AState} {xs : List AV} {tk : Tok} (h : May n s xs tk) {b : Nat} (o : AObj) (hb : b < n) : May n (s.set b o) xs tk := by
  cases tk with
  | own t => obtain ⟨h1, h2, h3⟩ := h; exact ⟨by rw [AState.get_set_ne _ _ (by omega)]; exact h1, h2, h3⟩
  | _ => exact h
theorem May.swap {N : Nat} {X X' : AState} {g : List AObj} {xs : List AV} {tk : Tok} (hn : X.n = X'.n) (hN : X.n ≤ N) (h : May N (Ab.allocs X g) xs tk) : May N (Ab.allocs X' g) xs tk := by
  cases tk with
  | own t => obtain ⟨h1, h2, h3⟩ := h; exact ⟨by rw [get_allocs_new (by omega)] at h1 ⊢; rw [← hn]; exact h1, h2, h3⟩
  | _ => exact h
theorem May.low {N M : Nat} {s : AState} {xs : List AV} {tk : Tok} (h : May N s xs tk) (hN : M ≤ N) : May M s xs tk := by
  cases tk with
  | own t => obtain ⟨h1, h2, h3⟩ := h; exact ⟨h1, h2, by omega⟩
  | _ => exact h
theorem Grows.eat {n : Nat} {s s' : AState} (h : Grows s s') {xs : List AV} {tk : Tok} (hm : May n s' xs tk) (hn : s.n ≤ n) : Grows s (eat s' tk) := by
  cases tk with
  | own t => obtain ⟨h1, h2, h3⟩ := hm; exact h.set _ (by omega) (AState.lt_of_get h1 (by simp))
  | _ => exact h
@[simp] theorem n_eat (s : AState) (tk : Tok) : (eat s tk).n = s.n := by cases tk <;> rfl
theorem get_eat {n : Nat} {s : AState} {xs : List AV} {tk : Tok} (hm : May n s xs tk) {b : Nat} (h : b < n) : (eat s tk).get b = s.get b := by
  cases tk with
  | own t => obtain ⟨h1, h2, h3⟩ := hm; exact AState.get_set_ne _ _ (by omega)
  | _ => rfl
theorem exec_append {k bytes : Nat} {a : List AV} {s : AState} {sx sy : Arg} {xs ys : List AV} {tk t2 : Tok} {n : Nat} (hx : sx.ev a = .sl xs tk) (hy : sy.ev a = .sl ys t2) (hm : May n s xs tk) (hne : ys.isEmpty = false)
    (h1 : headK k xs = true) (h2 : ys.all (okRow k) = true) (h3 : (xs.length + ys.length) * bytes ≤ 140737488355328) (h4 : xs.length + ys.length ≤ 4611686018427387904) :
    (AOp.append k bytes sx sy).exec a s = some (.sl (xs ++ ys.map AV.strip) (.own s.n), (eat s tk).alloc .tok) := by
  simp only [AOp.exec, hx, hy, hne, h1, h2, h3, h4]
  cases tk with
  | no => exact hm.elim
  | zero => simp [eat]
  | own t => obtain ⟨m1, m2, m3⟩ := hm; simp [m1, m2, eat]
theorem May.new {n : Nat} {s : AState} {xs ys : List AV} {tk : Tok} (hm : May n s xs tk) (hne : ys.isEmpty = false) (hn : n ≤ s.n) : May n ((eat s tk).alloc .tok) (xs ++ ys) (.own s.n) := by
  refine ⟨?_, ?_, hn⟩
  · rw [← n_eat s tk, AState.get_alloc_new]
  · cases ys <;> simp_all
theorem take_snoc {α β : Type} {f : α → β} {l : List α} {k : Nat} (h : k < l.length) : (l.map f).take (k + 1) = (l.map f).take k ++ [f l[k]] := by
  rw [List.take_succ_eq_append_getElem (by simpa using h)]; simp
def Dfs (N : Nat) (s : AState) (ds : List Nat) : Prop := (∀ x ∈ ds, N ≤ x ∧ s.get x = .defd) ∧ ds.Nodup
theorem Dfs.nil (N : Nat) (s : AState) : Dfs N s [] := ⟨(fun x h => by cases h), List.nodup_nil⟩
theorem Dfs.ext {N : Nat} {s s' : AState} {ds : List Nat} (h : Dfs N s ds) (he : s.ext s') : Dfs N s' ds :=
  ⟨fun x hx => ⟨(h.1 x hx).1, by rw [he.2 x (by rw [(h.1 x hx).2]; simp) (by rw [(h.1 x hx).2]; simp)]; exact (h.1 x hx).2⟩, h.2⟩
theorem Dfs.cons {N : Nat} {s : AState} {ds : List Nat} (h : Dfs N s ds) {x : Nat} (h1 : N ≤ x) (h2 : s.get x = .defd) (h3 : ∀ y ∈ ds, y ≠ x) : Dfs N s (x :: ds) :=
  ⟨fun y hy => (List.mem_cons.1 hy).elim (fun e => by subst e; exact ⟨h1, h2⟩) (fun hy => h.1 y hy), List.nodup_cons.2 ⟨fun hx => h3 x hx rfl, h.2⟩⟩
theorem Dfs.lt {N : Nat} {s : AState} {ds : List Nat} (h : Dfs N s ds) {x : Nat} (hx : x ∈ ds) : x < s.n := AState.lt_of_get (h.1 x hx).2 (by simp)
theorem killAll_grows {N : Nat} {B s : AState} : ∀ {ds : List Nat}, Grows B s → B.n ≤ N → Dfs N s ds → Grows B (killAll ds s) := by
  intro ds
  induction ds generalizing s with
  | nil => intro h _ _; exact h
  | cons x ds ih =>
    intro h hN hd
    have hx := hd.1 x (by simp)
    refine ih (h.set .dead (by omega) (AState.lt_of_get hx.2 (by simp))) hN ⟨fun y hy => ?_, (List.nodup_cons.1 hd.2).2⟩
    have hne : y ≠ x := fun e => (List.nodup_cons.1 hd.2).1 (e ▸ hy)
    rw [AState.get_set_ne _ _ hne]
    exact hd.1 y (by simp [hy])
section
variable {α : Type} {p : α → Bool} {l : List α} {j : Nat}
theorem ftake (h : j < l.length) : (l.take (j + 1)).filter p = (l.take j).filter p ++ (if p l[j] then [l[j]] else []) := by
  rw [List.take_succ_eq_append_getElem h, List.filter_append]
  congr 1
  by_cases e : p l[j] = true <;> simp [e]
theorem fget (h : j < l.length) (hp : p l[j] = true) : ∃ hk : ((l.take j).filter p).length < (l.filter p).length, (l.filter p)[((l.take j).filter p).length] = l[j] := by
  have e : l.filter p = (l.take j).filter p ++ l[j] :: (l.drop (j + 1)).filter p := by
    conv => lhs; rw [← List.take_append_drop j l, List.drop_eq_getElem_cons h]
    rw [List.filter_append, List.filter_cons_of_pos hp]
  refine ⟨by rw [e]; simp, ?_⟩
  simp only [e]
  rw [List.getElem_append_right (Nat.le_refl _)]
  simp
end
theorem o_app {K : List AV → AState → Prop} {n : Nat} {e : List (Nat × AV)} {s B : AState} {d k bytes N : Nat} {sx sy : Arg} {xs ys : List AV} {tk t2 : Tok} {r : List AOper} (hx : sx.ev (den n e) = .sl xs tk) (hy : sy.ev (den n e) = .sl ys t2)
    (hB : Grows B s) (hN : B.n ≤ N) (hN2 : N ≤ s.n) (hm : May N s xs tk) (hne : ys.isEmpty = false) (h1 : headK k xs = true) (h2 : ys.all (okRow k) = true) (h3 : (xs.length + ys.length) * bytes ≤ 140737488355328) (h4 : xs.length + ys.length ≤ 4611686018427387904)
    (hk : ∀ g2 tk2, May N (allocs B g2) (xs ++ ys.map AV.strip) tk2 → (∀ x, x < N → (allocs B g2).get x = s.get x) → s.ext (allocs B g2) → AOps cmp P r K (den n ((d, .sl (xs ++ ys.map AV.strip) tk2) :: e)) (allocs B g2)) : AOps cmp P (⟨some d, .append k bytes sx sy, none⟩ :: r) K (den n e) s := by
  have he := exec_append (a := den n e) hx hy hm hne h1 h2 h3 h4
  obtain ⟨g2, hg2⟩ := (hB.eat hm hN).alloc .tok
  refine o_one (x := _) rfl (by simp only [stepE]; exact he) ?_
  have hm2 := hm.new (ys := ys.map AV.strip) (by cases ys <;> simp_all) hN2
  have hlow : ∀ x, x < N → ((eat s tk).alloc .tok).get x = s.get x := fun x hx => by
    rw [get_alloc_ne (by simp; omega), get_eat hm hx]
  have hext : s.ext ((eat s tk).alloc .tok) := by
    cases tk with
    | own t => exact AState.ext_tok hm.1 _
    | _ => exact AState.ext_alloc _ _
  rw [hg2] at hm2 hlow hext ⊢
  exact hk _ _ hm2 hlow hext
def opensE (n : Nat) (e : List (Nat × AV)) (s : AState) : List AOper → Prop
  | [] => True
  | ⟨some d, op, g⟩ :: r => op.isCall = false ∧ stepE ⟨some d, op, g⟩ (den n e) s = some (look n e d, s) ∧ opensE n e s r
  | ⟨none, _, _⟩ :: _ => False
theorem opensE.mem {n : Nat} {e : List (Nat × AV)} {s : AState} : ∀ {l : List AOper}, opensE n e s l → ∀ o ∈ l, o.op.isCall = false ∧ ∃ d, o.dst = some d ∧ stepE o (den n e) s = some (look n e d, s) := by
  intro l
  induction l with
  | nil => intro _ o h; cases h
  | cons x l ih =>
    obtain ⟨xd, op, g⟩ := x
    cases xd with
    | none => intro h; exact h.elim
    | some d =>
      rintro ⟨h1, h2, h3⟩ o ho
      rcases List.mem_cons.1 ho with rfl | ho
      · exact ⟨h1, d, rfl, h2⟩
      · exact ih h3 o ho
theorem Opens.of_E {n : Nat} {e : List (Nat × AV)} {s s' : AState} {opens : List AOper} (h : opensE n e s' opens) : Opens cmp P opens s (den n e) s' := by
  refine .inr (.inr fun o ho => ?_)
  obtain ⟨h1, d, h2, h3⟩ := h.mem o ho
  refine ⟨h1, stepG_of_E h1 h3 ⟨fun d' hd' _ => ?_, rfl⟩⟩
  rw [h2] at hd'; cases hd'
  exact getD_den _ _ _
attribute [simp] opensE
theorem all_step {p : Nat → Bool} {i : Nat} (h : ((List.range i).all p) = true) (hp : p i = true) : ((List.range (i + 1)).all p) = true := by
  rw [List.range_succ, List.all_append, h]; simp [hp]
theorem all_stop {p : Nat → Bool} {i n : Nat} (hi : i < n) (hp : p i = false) : ((List.range n).all p) = false := by
  rw [List.all_eq_false]; exact ⟨i, by simpa using hi, by simp [hp]⟩
theorem all_congr {p q : Nat → Bool} {n : Nat} (h : ∀ i, i < n → p i = q i) : ((List.range n).all p) = ((List.range n).all q) := by
  rw [Bool.eq_iff_iff]; simp only [List.all_eq_true, List.mem_range]
  exact ⟨fun k i hi => by rw [← h i hi]; exact k i hi, fun k i hi => by rw [h i hi]; exact k i hi⟩
theorem all_eq {α : Type} [DecidableEq α] [Inhabited α] {l m : List α} (h : l.length = m.length) : ((List.range l.length).all fun i => decide (l.getD i default = m.getD i default)) = decide (l = m) := by
  rw [Bool.eq_iff_iff]; simp only [List.all_eq_true, List.mem_range, decide_eq_true_eq]
  constructor
  · intro k
    apply List.ext_getElem h
    intro i h1 h2
    have := k i h1
    rwa [List.getD_eq_getElem?_getD, List.getElem?_eq_getElem h1, List.getD_eq_getElem?_getD, List.getElem?_eq_getElem h2] at this
  · rintro rfl i _; rfl
section
variable {K : List AV → AState → Prop} {n : Nat} {e : List (Nat × AV)} {s s' : AState} {r : List AOper} {rd : List DOper} {x : AV} {op : AOp} {am : Bool} {opens : List AOper} {d : Nat}
theorem o_1 (hc : op.isCall = false) (h : op.exec (den n e) s = some (x, s')) (k : AOps cmp P r K (den n ((d, x) :: e)) s') : AOps cmp P (⟨some d, op, none⟩ :: r) K (den n e) s := o_one hc h k
theorem o_0 (hc : op.isCall = false) (h : op.exec (den n e) s = some (x, s')) (k : AOps cmp P r K (den n e) s') : AOps cmp P (⟨none, op, none⟩ :: r) K (den n e) s := o_none hc h k
theorem exec_same {op : AOp} {t : List AV} (hp : (op.pure' || op.reads) = true) (h : op.exec t s = some (x, s')) : s' = s := by
  rcases Bool.or_eq_true _ _ ▸ hp with hp | hp
  · exact (exec_pure hp h).1
  · exact (exec_reads hp h).1
theorem isCall_of {op : AOp} (hp : (op.pure' || op.reads) = true) : op.isCall = false := by cases op <;> first | rfl | (simp [AOp.pure', AOp.reads] at hp)
theorem d_1 (hp : (op.pure' || op.reads) = true) (h : op.exec (den n e) s = some (x, s')) (k : DWalk cmp P rd K (den n ((d, x) :: e)) s') : DWalk cmp P (⟨⟨some d, op, none⟩, false, am, opens⟩ :: rd) K (den n e) s := by
  have := exec_same hp h; subst this; exact d_one (isCall_of hp) h k
end
theorem o_mksl {K : List AV → AState → Prop} {n : Nat} {e : List (Nat × AV)} {s : AState} {d bytes : Nat} {z : List AV} {lx : Arg} {k : IntKind} {m : Int} {r : List AOper} (hx : lx.ev (den n e) = .v (.int k m))
    (h : 0 ≤ m ∧ m * bytes ≤ 140737488355328 ∧ m ≤ 4611686018427387904) (hk : AOps cmp P r K (den n ((d, .ms s.n 0 m.toNat) :: e)) (s.alloc (.cells (List.replicate m.toNat z).flatten))) :
    AOps cmp P (⟨some d, .mksl z bytes lx, none⟩ :: r) K (den n e) s := by
  refine o_1 rfl ?_ hk
  simp only [AOp.exec]
  split
  · rename_i k' m' he
    rw [hx] at he; cases he
    rw [if_pos h]
  · rename_i hne; exact absurd hx (hne _ _)
end Go.Ab
end
section
namespace Go.Ab
open Go.RowKit Go.Proofs
set_option linter.unusedVariables false
set_option linter.unusedSimpArgs false
@[simp] theorem strEq_self (a : ByteArray) : strEq a a = true := (strEq_iff a a).2 rfl
theorem strEq_dec (a b : ByteArray) : strEq a b = decide (a = b) := by
  by_cases h : a = b
  · subst h; simp
  · have : ¬ strEq a b = true := fun e => h ((strEq_iff a b).1 e)
    simp [h, this]
@[simp] theorem cells_v (x : Value) : (AV.v x).cells = [.v x] := rfl
@[simp] theorem shape_v (x : Value) : (AV.v x).shape = x.oneCell' := rfl
@[simp] theorem one_v (x : Value) : (AV.v x).one = x.oneCell' := rfl
@[simp] theorem strip_v (x : Value) : (AV.v x).strip = .v x := rfl
@[simp] theorem strip1_v (x : Value) : (AV.v x).strip1 = .v x := rfl
@[simp] theorem cells_p (b o : Nat) : (AV.p b o).cells = [.p b o] := rfl
@[simp] theorem shape_p (b o : Nat) : (AV.p b o).shape = true := rfl
@[simp] theorem one_p (b o : Nat) : (AV.p b o).one = true := rfl
@[simp] theorem strip_p (b o : Nat) : (AV.p b o).strip = .p b o := rfl
@[simp] theorem strip1_p (b o : Nat) : (AV.p b o).strip1 = .p b o := rfl
@[simp] theorem cells_q (cs : List AV) (o : Nat) : (AV.q cs o).cells = [.q cs o] := rfl
@[simp] theorem shape_q (cs : List AV) (o : Nat) : (AV.q cs o).shape = true := rfl
@[simp] theorem one_q (cs : List AV) (o : Nat) : (AV.q cs o).one = true := rfl
@[simp] theorem strip_q (cs : List AV) (o : Nat) : (AV.q cs o).strip = .q cs o := rfl
@[simp] theorem strip1_q (cs : List AV) (o : Nat) : (AV.q cs o).strip1 = .q cs o := rfl
@[simp] theorem cells_sl (xs : List AV) (t : Tok) : (AV.sl xs t).cells = [.sl xs t] := rfl
@[simp] theorem shape_sl (xs : List AV) (t : Tok) : (AV.sl xs t).shape = true := rfl
@[simp] theorem one_sl (xs : List AV) (t : Tok) : (AV.sl xs t).one = true := rfl
@[simp] theorem strip_sl (xs : List AV) (t : Tok) : (AV.sl xs t).strip = .sl xs .no := rfl
@[simp] theorem strip1_sl (xs : List AV) (t : Tok) : (AV.sl xs t).strip1 = .sl xs .no := rfl
@[simp] theorem cells_ms (b o l : Nat) : (AV.ms b o l).cells = [.ms b o l] := rfl
@[simp] theorem shape_ms (b o l : Nat) : (AV.ms b o l).shape = true := rfl
@[simp] theorem one_ms (b o l : Nat) : (AV.ms b o l).one = true := rfl
@[simp] theorem strip_ms (b o l : Nat) : (AV.ms b o l).strip = .ms b o l := rfl
@[simp] theorem strip1_ms (b o l : Nat) : (AV.ms b o l).strip1 = .ms b o l := rfl
@[simp] theorem cells_m (b : Nat) : (AV.m b).cells = [.m b] := rfl
@[simp] theorem shape_m (b : Nat) : (AV.m b).shape = true := rfl
@[simp] theorem one_m (b : Nat) : (AV.m b).one = true := rfl
@[simp] theorem strip_m (b : Nat) : (AV.m b).strip = .m b := rfl
@[simp] theorem strip1_m (b : Nat) : (AV.m b).strip1 = .m b := rfl
@[simp] theorem cells_f (fn : Fn) (fs cs : List AV) : (AV.f fn fs cs).cells = [.f fn fs cs] := rfl
@[simp] theorem shape_f (fn : Fn) (fs cs : List AV) : (AV.f fn fs cs).shape = true := rfl
@[simp] theorem one_f (fn : Fn) (fs cs : List AV) : (AV.f fn fs cs).one = true := rfl
@[simp] theorem strip_f (fn : Fn) (fs cs : List AV) : (AV.f fn fs cs).strip = .f fn fs cs := rfl
@[simp] theorem strip1_f (fn : Fn) (fs cs : List AV) : (AV.f fn fs cs).strip1 = .f fn fs cs := rfl
@[simp] theorem cells_y (l : Nat) : (AV.y l).cells = [.y l] := rfl
@[simp] theorem shape_y (l : Nat) : (AV.y l).shape = true := rfl
@[simp] theorem one_y (l : Nat) : (AV.y l).one = true := rfl
@[simp] theorem strip_y (l : Nat) : (AV.y l).strip = .y l := rfl
@[simp] theorem strip1_y (l : Nat) : (AV.y l).strip1 = .y l := rfl
@[simp] theorem eqAV_agg (ks : List SKd) (xs ys : List AV) : eqAV (.agg ks) (.agg xs) (.agg ys) = cellsEq ks xs ys := rfl
@[simp] theorem eqAV_bool (a b : Bool) : eqAV .bool (.v (.bool a)) (.v (.bool b)) = some (a == b) := rfl
@[simp] theorem eqAV_nn : eqAV .ptr (.v (.pointer none)) (.v (.pointer none)) = some true := rfl
@[simp] theorem eqAV_np (b o : Nat) : eqAV .ptr (.v (.pointer none)) (.p b o) = some false := rfl
@[simp] theorem eqAV_pn (b o : Nat) : eqAV .ptr (.p b o) (.v (.pointer none)) = some false := rfl
@[simp] theorem litEq_i (k : IntKind) (a b : Int) : litEq .i (.int k a) (.int k b) = some (a == b) := by simp [litEq]
@[simp] theorem litEq_b (a b : Bool) : litEq .b (.bool a) (.bool b) = some (a == b) := rfl
@[simp] theorem headK_nil (k : Nat) : headK k [] = true := rfl
@[simp] theorem headK_cons (k : Nat) (x : AV) (xs : List AV) : headK k (x :: xs) = (x.cells.length == k) := rfl
@[simp] theorem cells_agg (cs : List AV) : (AV.agg cs).cells = cs := rfl
@[simp] theorem shape_agg (cs : List AV) : (AV.agg cs).shape = true := rfl
@[simp] theorem strip_agg (cs : List AV) : (AV.agg cs).strip = .agg (cs.map AV.strip1) := rfl
structure Row (k : Nat) (x : AV) : Prop where
  len : x.cells.length = k
  one : x.cells.all AV.one = true
  strip : x.strip = x
  shape : x.shape = true
  flat : Flat x
section
variable {α : Type} {k : Nat} {f : α → AV}
theorem head_map (h : ∀ a, Row k (f a)) (l : List α) : headK k (l.map f) = true := by cases l <;> simp only [headK, List.map_nil, List.map_cons, (h _).len]; simp
theorem flat_sl (h : ∀ a, Row k (f a)) (l : List α) : Flat (.sl (l.map f) .no) := by
  refine .sl (fun x hx y hy => ?_) (fun k => by simp)
  obtain ⟨a, _, rfl⟩ := List.mem_map.1 hx
  intro n
  have := (h a).flat n
  cases e : f a <;> rw [e] at this hy <;> simp only [AV.cells, List.mem_cons, List.not_mem_nil, or_false] at hy <;> first | (subst hy; exact this) | skip
  rename_i cs
  cases this with | agg _ h => exact h _ hy
end
theorem Row.int (q : IntKind) (n : Int) : Row 1 (.v (.int q n)) := ⟨rfl, rfl, rfl, rfl, .v _⟩
@[ext] structure Ent where
  ix : Int
  tm : Int
  da : ByteArray
  deriving DecidableEq, Inhabited
def Ent.cells (x : Ent) : List AV := [.v (.int .i64 x.ix), .v (.int .i64 x.tm), .v (.string x.da)]
def Ent.av (x : Ent) : AV := .agg x.cells
theorem Ent.row (x : Ent) : Row 3 x.av := ⟨rfl, rfl, rfl, rfl, .agg (by
  intro y hy
  simp only [Ent.cells, List.mem_cons, List.not_mem_nil, or_false] at hy
  rcases hy with rfl | rfl | rfl
  · exact .v _
  · exact .v _
  · exact .v _
  )⟩
section
variable (x y : Ent) (k : Nat)
@[simp] theorem Ent.s1 : x.av.strip = x.av := rfl
@[simp] theorem Ent.s2 : x.av.cells = x.cells := rfl
@[simp] theorem Ent.s3 : x.av.shape = true := rfl
@[simp] theorem Ent.s4 : x.cells.length = 3 := rfl
@[simp] theorem Ent.s5 : x.cells.take 3 = x.cells := rfl
@[simp] theorem Ent.s6 : AV.agg x.cells = x.av := rfl
@[simp] theorem Ent.s7 : x.cells.drop (k + 1) = List.drop k [.v (.int .i64 x.tm), .v (.string x.da)] := rfl
@[simp low] theorem Ent.s17 : x.cells.take k = List.take k [.v (.int .i64 x.ix), .v (.int .i64 x.tm), .v (.string x.da)] := rfl
@[simp] theorem Ent.s16 : x.cells.tail = [.v (.int .i64 x.tm), .v (.string x.da)] := rfl
@[simp] theorem Ent.s8 : x.cells[k]? = [.v (.int .i64 x.ix), .v (.int .i64 x.tm), .v (.string x.da)][k]? := rfl
@[simp] theorem Ent.s15 (l : List Ent) (i : Nat) : headK 3 ((l.map Ent.av).take i) = true := by rw [← List.map_take]; exact head_map Ent.row _
@[simp] theorem Ent.s13 : AV.strip ∘ Ent.av = Ent.av := rfl
@[simp] theorem Ent.s14 : x.cells.all AV.one = true := rfl
@[simp] theorem Ent.eq : eqAV (.agg [.i, .i, .s]) x.av y.av = some (decide (x = y)) := by
  simp only [eqAV, Ent.av, Ent.cells, cellsEq, litEq, strEq_dec, if_true]
  congr 1
  rw [Bool.eq_iff_iff]; simp [Ent.ext_iff]
end
@[ext] structure Plc where
  sg : Int
  at_ : Int
  deriving DecidableEq, Inhabited
@[ext] structure Hrd where
  ht : Int
  hv : Int
  hc : Int
  deriving DecidableEq, Inhabited
def Hrd.cells (x : Hrd) : List AV := [.v (.int .i64 x.ht), .v (.int .i64 x.hv), .v (.int .i64 x.hc)]
def Hrd.av (x : Hrd) : AV := .agg x.cells
section
variable (x y : Hrd) (k : Nat)
@[simp] theorem Hrd.s1 : x.av.strip = x.av := rfl
@[simp] theorem Hrd.s2 : x.av.cells = x.cells := rfl
@[simp] theorem Hrd.s3 : x.av.shape = true := rfl
@[simp] theorem Hrd.s4 : x.cells.length = 3 := rfl
@[simp] theorem Hrd.s5 : x.cells.take 3 = x.cells := rfl
@[simp] theorem Hrd.s6 : AV.agg x.cells = x.av := rfl
@[simp] theorem Hrd.s7 : x.cells.drop (k + 1) = List.drop k [.v (.int .i64 x.hv), .v (.int .i64 x.hc)] := rfl
@[simp low] theorem Hrd.s17 : x.cells.take k = List.take k [.v (.int .i64 x.ht), .v (.int .i64 x.hv), .v (.int .i64 x.hc)] := rfl
@[simp] theorem Hrd.s16 : x.cells.tail = [.v (.int .i64 x.hv), .v (.int .i64 x.hc)] := rfl
@[simp] theorem Hrd.s8 : x.cells[k]? = [.v (.int .i64 x.ht), .v (.int .i64 x.hv), .v (.int .i64 x.hc)][k]? := rfl
@[simp] theorem Hrd.s13 : AV.strip ∘ Hrd.av = Hrd.av := rfl
@[simp] theorem Hrd.s14 : x.cells.all AV.one = true := rfl
end
@[ext] structure Prt where
  gr : Int
  kd : Int
  es : List Ent
  ht : Int
  hv : Int
  hc : Int
  ix : Int
  tm : Int
  mr : Bool
  he : Bool
  deriving DecidableEq, Inhabited
def Prt.cells (x : Prt) : List AV := [.v (.int .i64 x.gr), .v (.int .i64 x.kd), .sl (x.es.map Ent.av) .no, .v (.int .i64 x.ht), .v (.int .i64 x.hv), .v (.int .i64 x.hc), .v (.int .i64 x.ix), .v (.int .i64 x.tm), .v (.bool x.mr), .v (.bool x.he)]
def Prt.av (x : Prt) : AV := .agg x.cells
theorem Prt.row (x : Prt) : Row 10 x.av := ⟨rfl, rfl, rfl, rfl, .agg (by
  intro y hy
  simp only [Prt.cells, List.mem_cons, List.not_mem_nil, or_false] at hy
  rcases hy with rfl | rfl | rfl | rfl | rfl | rfl | rfl | rfl | rfl | rfl
  · exact .v _
  · exact .v _
  · exact flat_sl Ent.row _
  · exact .v _
  · exact .v _
  · exact .v _
  · exact .v _
  · exact .v _
  · exact .v _
  · exact .v _
  )⟩
theorem Prt.le_of {cs : List AV} {x : Prt} (h : cs = x.cells) : (AV.agg cs).le x.av := by subst h; exact AV.le.refl _
section
variable (x y : Prt) (k : Nat)
@[simp] theorem Prt.s1 : x.av.strip = x.av := rfl
@[simp] theorem Prt.s2 : x.av.cells = x.cells := rfl
@[simp] theorem Prt.s3 : x.av.shape = true := rfl
@[simp] theorem Prt.s4 : x.cells.length = 10 := rfl
@[simp] theorem Prt.s5 : x.cells.take 10 = x.cells := rfl
@[simp] theorem Prt.s6 : AV.agg x.cells = x.av := rfl
@[simp] theorem Prt.s7 : x.cells.drop (k + 1) = List.drop k [.v (.int .i64 x.kd), .sl (x.es.map Ent.av) .no, .v (.int .i64 x.ht), .v (.int .i64 x.hv), .v (.int .i64 x.hc), .v (.int .i64 x.ix), .v (.int .i64 x.tm), .v (.bool x.mr), .v (.bool x.he)] := rfl
@[simp low] theorem Prt.s17 : x.cells.take k = List.take k [.v (.int .i64 x.gr), .v (.int .i64 x.kd), .sl (x.es.map Ent.av) .no, .v (.int .i64 x.ht), .v (.int .i64 x.hv), .v (.int .i64 x.hc), .v (.int .i64 x.ix), .v (.int .i64 x.tm), .v (.bool x.mr), .v (.bool x.he)] := rfl
@[simp] theorem Prt.s16 : x.cells.tail = [.v (.int .i64 x.kd), .sl (x.es.map Ent.av) .no, .v (.int .i64 x.ht), .v (.int .i64 x.hv), .v (.int .i64 x.hc), .v (.int .i64 x.ix), .v (.int .i64 x.tm), .v (.bool x.mr), .v (.bool x.he)] := rfl
@[simp] theorem Prt.s8 : x.cells[k]? = [.v (.int .i64 x.gr), .v (.int .i64 x.kd), .sl (x.es.map Ent.av) .no, .v (.int .i64 x.ht), .v (.int .i64 x.hv), .v (.int .i64 x.hc), .v (.int .i64 x.ix), .v (.int .i64 x.tm), .v (.bool x.mr), .v (.bool x.he)][k]? := rfl
@[simp] theorem Prt.s13 : AV.strip ∘ Prt.av = Prt.av := rfl
@[simp] theorem Prt.s14 : x.cells.all AV.one = true := rfl
end
@[ext] structure Rec where
  sq : Int
  ps : List Prt
  deriving DecidableEq, Inhabited
def Rec.cells (x : Rec) : List AV := [.v (.int .i64 x.sq), .sl (x.ps.map Prt.av) .no]
def Rec.av (x : Rec) : AV := .agg x.cells
section
variable (x y : Rec) (k : Nat)
@[simp] theorem Rec.s1 : x.av.strip = x.av := rfl
@[simp] theorem Rec.s2 : x.av.cells = x.cells := rfl
@[simp] theorem Rec.s3 : x.av.shape = true := rfl
@[simp] theorem Rec.s4 : x.cells.length = 2 := rfl
@[simp] theorem Rec.s5 : x.cells.take 2 = x.cells := rfl
@[simp] theorem Rec.s6 : AV.agg x.cells = x.av := rfl
@[simp] theorem Rec.s7 : x.cells.drop (k + 1) = List.drop k [.sl (x.ps.map Prt.av) .no] := rfl
@[simp low] theorem Rec.s17 : x.cells.take k = List.take k [.v (.int .i64 x.sq), .sl (x.ps.map Prt.av) .no] := rfl
@[simp] theorem Rec.s16 : x.cells.tail = [.sl (x.ps.map Prt.av) .no] := rfl
@[simp] theorem Rec.s8 : x.cells[k]? = [.v (.int .i64 x.sq), .sl (x.ps.map Prt.av) .no][k]? := rfl
@[simp] theorem Rec.s13 : AV.strip ∘ Rec.av = Rec.av := rfl
@[simp] theorem Rec.s14 : x.cells.all AV.one = true := rfl
end
@[ext] structure Fnd where
  sq : Int
  ps : List Prt
  sg : Int
  at_ : Int
  deriving DecidableEq, Inhabited
@[ext] structure Grp where
  id : Int
  fi : Int
  tm : Int
  ht : Int
  hv : Int
  hc : Int
  es : List Ent
  deriving DecidableEq, Inhabited
def Grp.cells (x : Grp) : List AV := [.v (.int .i64 x.id), .v (.int .i64 x.fi), .v (.int .i64 x.tm), .v (.int .i64 x.ht), .v (.int .i64 x.hv), .v (.int .i64 x.hc), .sl (x.es.map Ent.av) .no]
def Grp.av (x : Grp) : AV := .agg x.cells
theorem Grp.row (x : Grp) : Row 7 x.av := ⟨rfl, rfl, rfl, rfl, .agg (by
  intro y hy
  simp only [Grp.cells, List.mem_cons, List.not_mem_nil, or_false] at hy
  rcases hy with rfl | rfl | rfl | rfl | rfl | rfl | rfl
  · exact .v _
  · exact .v _
  · exact .v _
  · exact .v _
  · exact .v _
  · exact .v _
  · exact flat_sl Ent.row _
  )⟩
section
variable (x y : Grp) (k : Nat)
@[simp] theorem Grp.s1 : x.av.strip = x.av := rfl
@[simp] theorem Grp.s2 : x.av.cells = x.cells := rfl
@[simp] theorem Grp.s3 : x.av.shape = true := rfl
@[simp] theorem Grp.s4 : x.cells.length = 7 := rfl
@[simp] theorem Grp.s5 : x.cells.take 7 = x.cells := rfl
@[simp] theorem Grp.s6 : AV.agg x.cells = x.av := rfl
@[simp] theorem Grp.s7 : x.cells.drop (k + 1) = List.drop k [.v (.int .i64 x.fi), .v (.int .i64 x.tm), .v (.int .i64 x.ht), .v (.int .i64 x.hv), .v (.int .i64 x.hc), .sl (x.es.map Ent.av) .no] := rfl
@[simp low] theorem Grp.s17 : x.cells.take k = List.take k [.v (.int .i64 x.id), .v (.int .i64 x.fi), .v (.int .i64 x.tm), .v (.int .i64 x.ht), .v (.int .i64 x.hv), .v (.int .i64 x.hc), .sl (x.es.map Ent.av) .no] := rfl
@[simp] theorem Grp.s16 : x.cells.tail = [.v (.int .i64 x.fi), .v (.int .i64 x.tm), .v (.int .i64 x.ht), .v (.int .i64 x.hv), .v (.int .i64 x.hc), .sl (x.es.map Ent.av) .no] := rfl
@[simp] theorem Grp.s8 : x.cells[k]? = [.v (.int .i64 x.id), .v (.int .i64 x.fi), .v (.int .i64 x.tm), .v (.int .i64 x.ht), .v (.int .i64 x.hv), .v (.int .i64 x.hc), .sl (x.es.map Ent.av) .no][k]? := rfl
@[simp] theorem Grp.s13 : AV.strip ∘ Grp.av = Grp.av := rfl
@[simp] theorem Grp.s14 : x.cells.all AV.one = true := rfl
end
@[ext] structure Spt where
  gr : Int
  ix : Int
  sg : Int
  at_ : Int
  deriving DecidableEq, Inhabited
attribute [simp] wrap_i64 strEq_dec get_alloc_eq get_alloc_ne set_alloc_eq set_alloc_lt get_set_eq get_set_ne' set_set get_allocs set_allocs n_allocs
end Go.Ab
end
section
namespace Go.Ab
open Go.RowKit Go.Proofs
set_option linter.unusedVariables false
set_option linter.unusedSimpArgs false
variable {cmp : Code → Option ACode} {P : Program}
theorem Rel.freeze {c : Cx} {s : AState} {w : World} (h : Rel cmp c s w) {b : Nat} {cs : List AV} (hb : s.get b = .cells cs) :
    ∃ vs : List Value, Rel cmp (c.lay (c.mu b) vs) (s.set b .dead) w ∧ Ext c s w (c.lay (c.mu b) vs) (s.set b .dead) w ∧ RL c cs vs := by
  have hbn : b < s.n := AState.lt_of_get hb (by simp)
  have ho := h.obj b hbn
  rw [hb] at ho
  obtain ⟨vs, e, hv, hr, ha⟩ := ho
  have hle := c.le_lay (c.mu b) vs.toList (by rw [ha]; exact List.nil_prefix)
  refine ⟨vs.toList, ⟨h.n, fun x hx => ?_, (h.kill b).inj, fun B hB => ?_⟩, ⟨hle, rfl, rfl, rfl, Nat.le_refl _, fun B hB => ?_, fun _ _ _ => rfl⟩, hr⟩
  · by_cases e1 : x = b
    · subst e1; rw [AState.get_set_same _ _ hbn]; trivial
    · rw [AState.get_set_ne _ _ e1]
      have hx' : x < s.n := hx
      by_cases hd : s.get x = .dead
      · rw [hd]; trivial
      · exact (h.obj x hx').kept (h.n ▸ hx') hle rfl (c.lay_ne _ (h.inj x b hx' hbn e1 hd (by rw [hb]; simp)))
  · by_cases e1 : B = c.mu b
    · subst e1; exact ⟨vs, e, (0, 0), hv, by simp⟩
    · rw [c.lay_ne _ e1] at hB ⊢; exact h.arr B hB
  · obtain ⟨x, hx, hd, rfl⟩ := hB
    have : x ≠ b := fun e1 => by subst e1; rw [AState.get_set_same _ _ hbn] at hd; exact hd rfl
    rw [AState.get_set_ne _ _ this] at hd
    exact .inr ⟨x, hx, hd, rfl⟩
theorem R.froze {c : Cx} {b len k : Nat} {xs : List AV} {cs : List AV} {vs : List Value} {v : Value} (hr : R c (.ms b 0 len) v) (hv : RL c cs vs) (hle : c.le (c.lay (c.mu b) vs)) (hx : ∀ x ∈ xs, x.cells.length = k) (hlen : xs.length = len) (hcs : cs = xs.flatMap AV.cells) :
    R (c.lay (c.mu b) vs) (.sl xs .no) v := by
  cases hr with
  | ms _ _ _ cap hb h1 =>
  have hfl : ∀ (l : List AV), (∀ x ∈ l, x.cells.length = k) → (l.flatMap AV.cells).length = l.length * k := by
    intro l hl
    induction l with
    | nil => simp
    | cons x l ih => simp [ih (fun y hy => hl y (by simp [hy])), hl x (by simp), Nat.succ_mul, Nat.add_comm]
  have hget : ∀ (l : List AV), (∀ x ∈ l, x.cells.length = k) → ∀ i (hi : i < l.length) j (hj : j < (l[i]).cells.length), (l.flatMap AV.cells)[i * k + j]? = some (l[i]).cells[j] := by
    intro l hl
    induction l with
    | nil => intro i hi; simp at hi
    | cons x l ih =>
      intro i hi j hj
      have hxk := hl x (by simp)
      cases i with
      | zero =>
        simp only [List.getElem_cons_zero] at hj ⊢
        rw [List.flatMap_cons, Nat.zero_mul, Nat.zero_add, List.getElem?_append_left hj, List.getElem?_eq_getElem hj]
      | succ i =>
        simp only [List.getElem_cons_succ] at hj ⊢
        rw [List.flatMap_cons, List.getElem?_append_right (by rw [hxk, Nat.succ_mul]; omega), hxk, show (i + 1) * k + j - k = i * k + j by rw [Nat.succ_mul]; omega]
        exact ih (fun y hy => hl y (by simp [hy])) i (by simpa using hi) j hj
  subst hlen
  refine .sl xs .no k (c.mu b) 0 cap (fun j => vs.getD j undef) (fun i hi => hx _ (List.getElem_mem hi)) (fun j hj => ?_) (fun i hi j hj => ?_) h1 trivial
  · have hl : vs.length = xs.length * k := by rw [hv.1, hcs, hfl xs hx]
    rw [Cx.lay_same, Nat.zero_add, List.getD_eq_getElem?_getD, List.getElem?_eq_getElem (by omega)]; rfl
  · have h2 := hget xs hx i hi j hj
    rw [← hcs] at h2
    have h3 := (hv.get (i * k + j)).mono hle
    rwa [List.getD_eq_getElem?_getD, h2] at h3
theorem Runs.freeze {f : FuncId} {args : List AV} {s : AState} {Q : AV → AState → Prop}
    (h : Runs cmp P f args s (fun x s' => ∃ b len k xs cs, x = .ms b 0 len ∧ s'.get b = .cells cs ∧ (∀ y ∈ xs, y.cells.length = k) ∧ xs.length = len ∧ cs = xs.flatMap AV.cells ∧ Q (.sl xs .no) (s'.set b .dead))) : Runs cmp P f args s Q :=
  ⟨h.1, fun c w vs hr ha => (h.2 c w vs hr ha).mono fun e w' ⟨v, c', x, s', h1, h2, h3, h4, b, len, k, xs, cs, hx, hg, hk, hl, hcs, hq⟩ => by
    obtain ⟨us, r1, x1, hus⟩ := h3.freeze hg
    subst hx
    exact ⟨v, _, _, _, h1, h2.trans x1, r1, h4.froze hus x1.le hk hl hcs, hq⟩⟩
end Go.Ab
end
