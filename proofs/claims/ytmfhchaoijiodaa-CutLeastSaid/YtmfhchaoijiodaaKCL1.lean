/- For every input CutLeast returns true, and their arguments read as they did. No conditions. -/
import Derived.RangeFuncIn
import Derived.OrdersIn
import Derived.Below
import Derived.Laws.World
section
namespace Go.Ab
set_option linter.unusedVariables false
inductive Tok where
  | no | zero | own (t : Nat)
  deriving DecidableEq
inductive AV where
  | v (x : Value)
  | p (b off : Nat)
  | q (cs : List AV) (off : Nat)
  | sl (xs : List AV) (t : Tok)
  | ms (b off len : Nat)
  | m (b : Nat)
  | f (fn : Fn) (fs caps : List AV)
  | y (l : Nat)
  | agg (cs : List AV)
  | tup (vs : List AV)
  | any
instance : Inhabited AV := ⟨.any⟩
def AV.cells : AV → List AV
  | .agg cs => cs
  | x => [x]
structure Cx where
  n : Nat
  mu : Nat → Nat
  tend : Nat → Nat
  csz : Nat → Nat
  arr : Nat → List Value
def TokOk (c : Cx) (t : Tok) (B e ce len cap : Nat) : Prop :=
  match t with
  | .no => True
  | .zero => cap = len
  | .own t => t < c.n ∧ c.mu t = B ∧ c.tend t = e ∧ ce ≤ c.csz t
inductive R (c : Cx) : AV → Value → Prop
  | v (x : Value) : R c (.v x) x
  | p (b off : Nat) (h : b < c.n) : R c (.p b off) (.pointer (some ⟨c.mu b, off, none⟩))
  | q (cs : List AV) (off B o : Nat) (g : Nat → Value) (h1 : ∀ j, j < cs.length → (c.arr B)[o + j]? = some (g j))
      (h2 : ∀ j (h : j < cs.length), R c cs[j] (g j)) : R c (.q cs off) (.pointer (some ⟨B, o + off, none⟩))
  | sl (xs : List AV) (t : Tok) (k B o cap : Nat) (g : Nat → Value) (h1 : ∀ i (h : i < xs.length), (xs[i]).cells.length = k)
      (h2 : ∀ j, j < xs.length * k → (c.arr B)[o + j]? = some (g j))
      (h3 : ∀ i (h : i < xs.length) j (h' : j < (xs[i]).cells.length), R c (xs[i]).cells[j] (g (i * k + j)))
      (h4 : xs.length ≤ cap) (h5 : TokOk c t B (o + xs.length * k) (o + cap * k) xs.length cap) : R c (.sl xs t) (.slice (some ⟨B, o, none⟩) xs.length cap)
  | sl0 (t : Tok) (p : Option Addr) (h : ∀ k, t ≠ .own k) : R c (.sl [] t) (.slice p 0 0)
  | ms (b off len cap : Nat) (h : b < c.n) (h1 : len ≤ cap) : R c (.ms b off len) (.slice (some ⟨c.mu b, off, none⟩) len cap)
  | m (b : Nat) (h : b < c.n) : R c (.m b) (.map (some (c.mu b)))
  | f (fn : Fn) (fs caps : List AV) (us vs : List Value) (h0 : us.length = fs.length) (h : ∀ j (h : j < fs.length), R c fs[j] (us.getD j undef))
      (h1 : vs.length = caps.length) (h2 : ∀ j (h : j < caps.length), R c caps[j] (vs.getD j undef)) : R c (.f fn fs caps) (.func fn us.toArray vs.toArray)
  | y (l : Nat) (h : l < c.n) : R c (.y l) (.func (.yield (c.mu l)) #[] #[])
  | agg (cs : List AV) (vs : List Value) (h0 : vs.length = cs.length) (h : ∀ j (h : j < cs.length), R c cs[j] (vs.getD j undef)) : R c (.agg cs) (.agg vs.toArray)
  | tup (cs : List AV) (vs : List Value) (h0 : vs.length = cs.length) (h : ∀ j (h : j < cs.length), R c cs[j] (vs.getD j undef)) : R c (.tup cs) (.tuple vs.toArray)
  | any (x : Value) : R c .any x
structure Cx.le (c c' : Cx) : Prop where
  n : c.n ≤ c'.n
  mu : ∀ b, b < c.n → c'.mu b = c.mu b
  tend : ∀ b, b < c.n → c'.tend b = c.tend b
  csz : ∀ b, b < c.n → c'.csz b = c.csz b
  arr : ∀ B, c.arr B <+: c'.arr B
theorem Cx.le.refl (c : Cx) : c.le c := ⟨Nat.le_refl _, fun _ _ => rfl, fun _ _ => rfl, fun _ _ => rfl, fun _ => List.prefix_refl _⟩
theorem Cx.le.trans {a b c : Cx} (h : a.le b) (k : b.le c) : a.le c :=
  ⟨Nat.le_trans h.n k.n, fun x hx => (k.mu x (Nat.lt_of_lt_of_le hx h.n)).trans (h.mu x hx), fun x hx => (k.tend x (Nat.lt_of_lt_of_le hx h.n)).trans (h.tend x hx),
    fun x hx => (k.csz x (Nat.lt_of_lt_of_le hx h.n)).trans (h.csz x hx), fun B => (h.arr B).trans (k.arr B)⟩
theorem Cx.le.get {c c' : Cx} (h : c.le c') {B j : Nat} {x : Value} (hx : (c.arr B)[j]? = some x) : (c'.arr B)[j]? = some x := by
  obtain ⟨t, ht⟩ := h.arr B
  rw [← ht]
  rw [List.getElem?_append_left (List.getElem?_eq_some_iff.1 hx).1]; exact hx
theorem TokOk.mono {c c' : Cx} (h : c.le c') {t : Tok} {B e ce len cap : Nat} (ht : TokOk c t B e ce len cap) : TokOk c' t B e ce len cap := by
  cases t with
  | no => trivial
  | zero => exact ht
  | own t =>
    obtain ⟨h1, h2, h3, h4⟩ := ht
    exact ⟨Nat.lt_of_lt_of_le h1 h.n, (h.mu t h1).trans h2, (h.tend t h1).trans h3, by rw [h.csz t h1]; exact h4⟩
theorem R.mono {c c' : Cx} (h : c.le c') {x : AV} {y : Value} (hr : R c x y) : R c' x y := by
  induction hr with
  | v x => exact .v x
  | p b off hb => rw [← h.mu b hb]; exact .p b off (Nat.lt_of_lt_of_le hb h.n)
  | q cs off B o g h1 h2 ih => exact .q cs off B o g (fun j hj => h.get (h1 j hj)) ih
  | sl xs t k B o cap g h1 h2 h3 h4 h5 ih => exact .sl xs t k B o cap g h1 (fun j hj => h.get (h2 j hj)) ih h4 (h5.mono h)
  | sl0 t p ht => exact .sl0 t p ht
  | ms b off len cap hb h1 => rw [← h.mu b hb]; exact .ms b off len cap (Nat.lt_of_lt_of_le hb h.n) h1
  | m b hb => rw [← h.mu b hb]; exact .m b (Nat.lt_of_lt_of_le hb h.n)
  | f fn fs caps us vs h0 h1 h2 h3 ih ih2 => exact .f fn fs caps us vs h0 ih h2 ih2
  | y l hb => rw [← h.mu l hb]; exact .y l (Nat.lt_of_lt_of_le hb h.n)
  | agg cs vs h0 h1 ih => exact .agg cs vs h0 ih
  | tup cs vs h0 h1 ih => exact .tup cs vs h0 ih
  | any x => exact .any x
def RL (c : Cx) (xs : List AV) (vs : List Value) : Prop := vs.length = xs.length ∧ ∀ j (h : j < xs.length), R c xs[j] (vs.getD j undef)
theorem RL.mono {c c' : Cx} (h : c.le c') {xs : List AV} {vs : List Value} (hr : RL c xs vs) : RL c' xs vs := ⟨hr.1, fun j hj => (hr.2 j hj).mono h⟩
theorem RL.nil (c : Cx) : RL c [] [] := ⟨rfl, fun j h => absurd h (Nat.not_lt_zero _)⟩
theorem RL.cons {c : Cx} {x : AV} {y : Value} {xs : List AV} {ys : List Value} (h : R c x y) (t : RL c xs ys) : RL c (x :: xs) (y :: ys) := by
  refine ⟨by simp [t.1], fun j hj => ?_⟩
  cases j with
  | zero => exact h
  | succ j => exact t.2 j (by simpa using hj)
theorem RL.cons_inv {c : Cx} {x : AV} {xs : List AV} {ys : List Value} (h : RL c (x :: xs) ys) : ∃ u us, ys = u :: us ∧ R c x u ∧ RL c xs us := by
  cases ys with
  | nil => have := h.1; simp at this
  | cons u us => exact ⟨u, us, rfl, h.2 0 (by simp), by simpa using h.1, fun j hj => h.2 (j + 1) (by simpa using hj)⟩
theorem RL.nil_inv {c : Cx} {ys : List Value} (h : RL c [] ys) : ys = [] := List.eq_nil_of_length_eq_zero h.1
theorem RL.get {c : Cx} {xs : List AV} {ys : List Value} (h : RL c xs ys) (j : Nat) : R c (xs.getD j .any) (ys.getD j undef) := by
  by_cases hj : j < xs.length
  · rw [List.getD_eq_getElem?_getD, List.getElem?_eq_getElem hj]; exact h.2 j hj
  · rw [List.getD_eq_getElem?_getD, List.getElem?_eq_none (by omega)]; exact .any _
theorem RL.append {c : Cx} {xs xs' : List AV} {ys ys' : List Value} (h : RL c xs ys) (h' : RL c xs' ys') : RL c (xs ++ xs') (ys ++ ys') := by
  refine ⟨by simp [h.1, h'.1], fun j hj => ?_⟩
  by_cases h1 : j < xs.length
  · rw [List.getElem_append_left h1, List.getD_eq_getElem?_getD, List.getElem?_append_left (by rw [h.1]; exact h1), ← List.getD_eq_getElem?_getD]; exact h.2 j h1
  · rw [List.getElem_append_right (by omega), List.getD_eq_getElem?_getD, List.getElem?_append_right (by rw [h.1]; omega), ← List.getD_eq_getElem?_getD, h.1]; exact h'.2 _ (by simp at hj; omega)
theorem RL.set {c : Cx} {xs : List AV} {ys : List Value} (h : RL c xs ys) (j : Nat) {x : AV} {y : Value} (hx : R c x y) : RL c (xs.set j x) (ys.set j y) := by
  refine ⟨by simp [h.1], fun i hi => ?_⟩
  have hi' : i < xs.length := by simpa using hi
  rw [List.getElem_set]
  by_cases e : j = i
  · subst e; rw [if_pos rfl, List.getD_eq_getElem?_getD, List.getElem?_set_self (by rw [h.1]; exact hi')]; exact hx
  · rw [if_neg e, List.getD_eq_getElem?_getD, List.getElem?_set_ne e, ← List.getD_eq_getElem?_getD]; exact h.2 i hi'
theorem RL.any (c : Cx) (n : Nat) (ys : List Value) (h : ys.length = n) : RL c (List.replicate n .any) ys :=
  ⟨by simp [h], fun j hj => by rw [List.getElem_replicate]; exact .any _⟩
theorem RL.take {c : Cx} {xs : List AV} {ys : List Value} (h : RL c xs ys) (n : Nat) : RL c (xs.take n) (ys.take n) := by
  refine ⟨by simp [h.1], fun j hj => ?_⟩
  have h1 : j < n ∧ j < xs.length := by simpa [Nat.lt_min] using hj
  rw [List.getElem_take, List.getD_eq_getElem?_getD, List.getElem?_take, if_pos h1.1, ← List.getD_eq_getElem?_getD]; exact h.2 j h1.2
theorem RL.drop {c : Cx} {xs : List AV} {ys : List Value} (h : RL c xs ys) (n : Nat) : RL c (xs.drop n) (ys.drop n) := by
  refine ⟨by simp [h.1], fun j hj => ?_⟩
  have h1 : n + j < xs.length := by simp at hj; omega
  rw [List.getElem_drop, List.getD_eq_getElem?_getD, List.getElem?_drop, ← List.getD_eq_getElem?_getD]; exact h.2 _ h1
theorem R.agg' {c : Cx} {cs : List AV} {vs : List Value} (h : RL c cs vs) : R c (.agg cs) (.agg vs.toArray) := .agg cs vs h.1 h.2
theorem R.tup' {c : Cx} {cs : List AV} {vs : List Value} (h : RL c cs vs) : R c (.tup cs) (.tuple vs.toArray) := .tup cs vs h.1 h.2
theorem R.agg_inv {c : Cx} {cs : List AV} {y : Value} (h : R c (.agg cs) y) : ∃ vs, y = .agg vs.toArray ∧ RL c cs vs := by
  cases h with | agg _ vs h0 h1 => exact ⟨vs, rfl, h0, h1⟩
theorem R.tup_inv {c : Cx} {cs : List AV} {y : Value} (h : R c (.tup cs) y) : ∃ vs, y = .tuple vs.toArray ∧ RL c cs vs := by
  cases h with | tup _ vs h0 h1 => exact ⟨vs, rfl, h0, h1⟩
theorem R.v_inv {c : Cx} {x y : Value} (h : R c (.v x) y) : y = x := by cases h; rfl
end Go.Ab
end
