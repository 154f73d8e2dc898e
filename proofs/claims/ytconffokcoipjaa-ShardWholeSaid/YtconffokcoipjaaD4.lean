/- AN OBJECT THAT NOBODY WRITES ANY MORE: its cells stay; what points to it is a value. -/
import Derived.Test.YtconffokcoipjaaD3
namespace Go.Ab
open Go.RowKit Go.Proofs
set_option linter.unusedVariables false
set_option linter.unusedSimpArgs false

variable {cmp : Code → Option ACode} {P : Program}

theorem Rel.freeze {c : Cx} {s : AState} {w : World} (h : Rel cmp c s w) {b : Nat} {cs : List AV} (hb : s.get b = .cells cs) :
    ∃ vs : List Value, Rel cmp (c.lay (c.mu b) vs) (s.set b .dead) w ∧ Ext c s w (c.lay (c.mu b) vs) (s.set b .dead) w ∧ RL c cs vs := by
  have hbn : b < s.n := AState.lt_of_get hb (by simp)
  have ho := h.obj b hbn
  rw [hb] at ho
  obtain ⟨vs, e, hv, hr, ha⟩ := ho
  have hle := c.le_lay (c.mu b) vs.toList (by rw [ha]; exact List.nil_prefix)
  refine ⟨vs.toList, ⟨h.n, fun x hx => ?_, (h.kill b).inj, fun B hB => ?_⟩, ⟨hle, rfl, rfl, rfl, Nat.le_refl _, fun B hB => ?_, fun _ _ _ => rfl⟩, hr⟩
  · by_cases e1 : x = b
    · subst e1; rw [AState.get_set_same _ _ hbn]; trivial
    · rw [AState.get_set_ne _ _ e1]
      have hx' : x < s.n := hx
      by_cases hd : s.get x = .dead
      · rw [hd]; trivial
      · exact (h.obj x hx').kept (h.n ▸ hx') hle rfl (c.lay_ne _ (h.inj x b hx' hbn e1 hd (by rw [hb]; simp)))
  · by_cases e1 : B = c.mu b
    · subst e1; exact ⟨vs, e, (0, 0), hv, by simp⟩
    · rw [c.lay_ne _ e1] at hB ⊢; exact h.arr B hB
  · obtain ⟨x, hx, hd, rfl⟩ := hB
    have : x ≠ b := fun e1 => by subst e1; rw [AState.get_set_same _ _ hbn] at hd; exact hd rfl
    rw [AState.get_set_ne _ _ this] at hd
    exact .inr ⟨x, hx, hd, rfl⟩

/-- xs: the rows of an object's cells -/
theorem R.froze {c : Cx} {b len k : Nat} {xs : List AV} {cs : List AV} {vs : List Value} {v : Value} (hr : R c (.ms b 0 len) v) (hv : RL c cs vs) (hle : c.le (c.lay (c.mu b) vs)) (hx : ∀ x ∈ xs, x.cells.length = k) (hlen : xs.length = len) (hcs : cs = xs.flatMap AV.cells) :
    R (c.lay (c.mu b) vs) (.sl xs .no) v := by
  cases hr with
  | ms _ _ _ cap hb h1 =>
  have hfl : ∀ (l : List AV), (∀ x ∈ l, x.cells.length = k) → (l.flatMap AV.cells).length = l.length * k := by
    intro l hl
    induction l with
    | nil => simp
    | cons x l ih => simp [ih (fun y hy => hl y (by simp [hy])), hl x (by simp), Nat.succ_mul, Nat.add_comm]
  have hget : ∀ (l : List AV), (∀ x ∈ l, x.cells.length = k) → ∀ i (hi : i < l.length) j (hj : j < (l[i]).cells.length), (l.flatMap AV.cells)[i * k + j]? = some (l[i]).cells[j] := by
    intro l hl
    induction l with
    | nil => intro i hi; simp at hi
    | cons x l ih =>
      intro i hi j hj
      have hxk := hl x (by simp)
      cases i with
      | zero =>
        simp only [List.getElem_cons_zero] at hj ⊢
        rw [List.flatMap_cons, Nat.zero_mul, Nat.zero_add, List.getElem?_append_left hj, List.getElem?_eq_getElem hj]
      | succ i =>
        simp only [List.getElem_cons_succ] at hj ⊢
        rw [List.flatMap_cons, List.getElem?_append_right (by rw [hxk, Nat.succ_mul]; omega), hxk, show (i + 1) * k + j - k = i * k + j by rw [Nat.succ_mul]; omega]
        exact ih (fun y hy => hl y (by simp [hy])) i (by simpa using hi) j hj
  subst hlen
  refine .sl xs .no k (c.mu b) 0 cap (fun j => vs.getD j undef) (fun i hi => hx _ (List.getElem_mem hi)) (fun j hj => ?_) (fun i hi j hj => ?_) h1 trivial
  · have hl : vs.length = xs.length * k := by rw [hv.1, hcs, hfl xs hx]
    rw [Cx.lay_same, Nat.zero_add, List.getD_eq_getElem?_getD, List.getElem?_eq_getElem (by omega)]; rfl
  · have h2 := hget xs hx i hi j hj
    rw [← hcs] at h2
    have h3 := (hv.get (i * k + j)).mono hle
    rwa [List.getD_eq_getElem?_getD, h2] at h3

/-- a function that hands back memory of its own making: from there on it is a value -/
theorem Runs.freeze {f : FuncId} {args : List AV} {s : AState} {Q : AV → AState → Prop}
    (h : Runs cmp P f args s (fun x s' => ∃ b len k xs cs, x = .ms b 0 len ∧ s'.get b = .cells cs ∧ (∀ y ∈ xs, y.cells.length = k) ∧ xs.length = len ∧ cs = xs.flatMap AV.cells ∧ Q (.sl xs .no) (s'.set b .dead))) : Runs cmp P f args s Q :=
  ⟨h.1, fun c w vs hr ha => (h.2 c w vs hr ha).mono fun e w' ⟨v, c', x, s', h1, h2, h3, h4, b, len, k, xs, cs, hx, hg, hk, hl, hcs, hq⟩ => by
    obtain ⟨us, r1, x1, hus⟩ := h3.freeze hg
    subst hx
    exact ⟨v, _, _, _, h1, h2.trans x1, r1, h4.froze hus x1.le hk hl hcs, hq⟩⟩

/-- elements of a frozen row, known less of -/
theorem AV.le_sl {xs ys : List AV} {t : Tok} (hl : xs.length = ys.length) (h1 : ∀ j (h : j < xs.length) (h' : j < ys.length), (xs[j]).cells.length = (ys[j]).cells.length)
    (h : ∀ j (h : j < xs.length) (h' : j < ys.length) i, ((xs[j]).cells.getD i .any).le ((ys[j]).cells.getD i .any)) : (AV.sl xs t).le (.sl ys t) := fun c v r => by
  cases r with
  | sl _ _ k B o cap g k1 k2 k3 k4 k5 =>
    rw [hl] at k2 k4 k5 ⊢
    refine .sl ys t k B o cap g (fun i hi => by rw [← h1 i (by omega) hi]; exact k1 i (by omega)) k2 (fun i hi j hj => ?_) k4 k5
    have hj' : j < (xs[i]'(by omega)).cells.length := by rw [h1 i (by omega) hi]; exact hj
    have := h i (by omega) hi j c _ (by rw [List.getD_eq_getElem?_getD, List.getElem?_eq_getElem hj']; exact k3 i (by omega) j hj')
    rwa [List.getD_eq_getElem?_getD, List.getElem?_eq_getElem hj] at this
  | sl0 _ p ht =>
    have : ys = [] := by cases ys <;> simp_all
    subst this; exact .sl0 t p ht

end Go.Ab
