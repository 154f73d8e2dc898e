/- How the tie of a state to a world goes on: new blocks, blocks that are written, numbers that are let go. -/
import Derived.Test.YtconffokcoipjaaA2
namespace Go.Ab
set_option linter.unusedVariables false

variable {cmp : Code → Option ACode}

theorem heap_push_old {w : World} (o : Obj) {B : Nat} (h : B < w.heap.size) : (w.alloc o).heap[B]? = w.heap[B]? := heap_alloc_old w o B h
theorem heap_push_new (w : World) (o : Obj) : (w.alloc o).heap[w.heap.size]? = some o := heap_alloc_new w o
theorem lt_of_heap {w : World} {B : Nat} {o : Obj} (h : w.heap[B]? = some o) : B < w.heap.size := (Array.getElem?_eq_some_iff.1 h).1

theorem EntryOk.mono {c c' : Cx} (h : c.le c') {ms : List MapEntry} {es : List (AV × AV)} {clk : Nat} (he : EntryOk c ms es clk) : EntryOk c' ms es clk :=
  ⟨he.1, fun i h1 h2 => ⟨(he.2.1 i h1 h2).1.mono h, (he.2.1 i h1 h2).2.mono h⟩, he.2.2.1, he.2.2.2⟩

theorem ObjOk.kept {c c' : Cx} {w w' : World} {b : Nat} {o : AObj} (h : ObjOk cmp c w b o) (hb : b < c.n) (hle : c.le c')
    (hw : w'.heap[c.mu b]? = w.heap[c.mu b]?) (ha : c'.arr (c.mu b) = c.arr (c.mu b)) : ObjOk cmp c' w' b o := by
  have hmu := hle.mu b hb
  cases o with
  | cells cs => obtain ⟨vs, e, h1, h2, h3⟩ := h; exact ⟨vs, e, by rw [hmu, hw]; exact h1, h2.mono hle, by rw [hmu, ha]; exact h3⟩
  | map es => obtain ⟨ms, clk, h1, h2⟩ := h; exact ⟨ms, clk, by rw [hmu, hw]; exact h1, h2.mono hle⟩
  | loop st pend tmps ps asg body d =>
    obtain ⟨L, h1, h2⟩ := h
    exact ⟨L, by rw [hmu, hw]; exact h1, ⟨h2.h1, h2.h2, h2.h3.mono hle, h2.h4, h2.h5, h2.h6, by rw [hle.mu d h2.h8]; exact h2.h7, Nat.lt_of_lt_of_le h2.h8 hle.n⟩⟩
  | defd => show w'.heap[c'.mu b]? = _; rw [hmu, hw]; exact h
  | tok => obtain ⟨vs, e, h1, h2, h3⟩ := h; exact ⟨vs, e, by rw [hmu, hw]; exact h1, by rw [hmu, ha, hle.tend b hb]; exact h2, by rw [hle.csz b hb]; exact h3⟩
  | dead => trivial

theorem ObjOk.lt {c : Cx} {w : World} {b : Nat} {o : AObj} (h : ObjOk cmp c w b o) (ho : o ≠ .dead) : c.mu b < w.heap.size := by
  cases o with
  | cells cs => obtain ⟨vs, e, h1, _⟩ := h; exact lt_of_heap h1
  | map es => obtain ⟨ms, clk, h1, _⟩ := h; exact lt_of_heap h1
  | loop => obtain ⟨L, h1, _⟩ := h; exact lt_of_heap h1
  | defd => exact lt_of_heap h
  | tok => obtain ⟨vs, e, h1, _⟩ := h; exact lt_of_heap h1
  | dead => exact absurd rfl ho

theorem Rel.lt {c : Cx} {s : AState} {w : World} (h : Rel cmp c s w) {b : Nat} (hb : b < s.n) (ho : s.get b ≠ .dead) : c.mu b < w.heap.size := (h.obj b hb).lt ho

theorem Rel.arr_lt {c : Cx} {s : AState} {w : World} (h : Rel cmp c s w) {B : Nat} (hB : c.arr B ≠ []) : B < w.heap.size := by
  obtain ⟨vs, e, fz, h1, _⟩ := h.arr B hB; exact lt_of_heap h1

theorem Rel.arr_new {c : Cx} {s : AState} {w : World} (h : Rel cmp c s w) : c.arr w.heap.size = [] := by
  by_cases h' : c.arr w.heap.size = []
  · exact h'
  · exact absurd (h.arr_lt h') (Nat.lt_irrefl _)

/-- a new number for block B -/
def Cx.bind (c : Cx) (B e z : Nat) : Cx :=
  { n := c.n + 1, mu := fun x => if x = c.n then B else c.mu x, tend := fun x => if x = c.n then e else c.tend x, csz := fun x => if x = c.n then z else c.csz x, arr := c.arr }
theorem Cx.le_bind (c : Cx) (B e z : Nat) : c.le (c.bind B e z) :=
  ⟨Nat.le_succ _, fun b hb => by simp [bind, Nat.ne_of_lt hb], fun b hb => by simp [bind, Nat.ne_of_lt hb], fun b hb => by simp [bind, Nat.ne_of_lt hb], fun _ => List.prefix_refl _⟩
@[simp] theorem Cx.bind_mu (c : Cx) (B e z : Nat) : (c.bind B e z).mu c.n = B := by simp [bind]
@[simp] theorem Cx.bind_tend (c : Cx) (B e z : Nat) : (c.bind B e z).tend c.n = e := by simp [bind]
@[simp] theorem Cx.bind_csz (c : Cx) (B e z : Nat) : (c.bind B e z).csz c.n = z := by simp [bind]
@[simp] theorem Cx.bind_n (c : Cx) (B e z : Nat) : (c.bind B e z).n = c.n + 1 := rfl
@[simp] theorem Cx.bind_arr (c : Cx) (B e z : Nat) : (c.bind B e z).arr = c.arr := rfl

/-- block B holds these for ever -/
def Cx.lay (c : Cx) (B : Nat) (l : List Value) : Cx := { c with arr := fun x => if x = B then l else c.arr x }
theorem Cx.le_lay (c : Cx) (B : Nat) (l : List Value) (h : c.arr B <+: l) : c.le (c.lay B l) :=
  ⟨Nat.le_refl _, fun _ _ => rfl, fun _ _ => rfl, fun _ _ => rfl, fun x => by
    by_cases e : x = B
    · subst e; simpa [lay] using h
    · simp [lay, e]⟩
@[simp] theorem Cx.lay_same (c : Cx) (B : Nat) (l : List Value) : (c.lay B l).arr B = l := by simp [lay]
theorem Cx.lay_ne (c : Cx) {B x : Nat} (l : List Value) (h : x ≠ B) : (c.lay B l).arr x = c.arr x := by simp [lay, h]
@[simp] theorem Cx.lay_mu (c : Cx) (B : Nat) (l : List Value) : (c.lay B l).mu = c.mu := rfl
@[simp] theorem Cx.lay_n (c : Cx) (B : Nat) (l : List Value) : (c.lay B l).n = c.n := rfl
@[simp] theorem Cx.lay_tend (c : Cx) (B : Nat) (l : List Value) : (c.lay B l).tend = c.tend := rfl
@[simp] theorem Cx.lay_csz (c : Cx) (B : Nat) (l : List Value) : (c.lay B l).csz = c.csz := rfl

/-- the world's other parts stay -/
structure Same (w w' : World) : Prop where
  os : w'.os = w.os
  tape : w'.tape = w.tape
  output : w'.output = w.output

theorem Same.alloc (w : World) (o : Obj) : Same w (w.alloc o) := ⟨rfl, rfl, rfl⟩
theorem Same.refl (w : World) : Same w w := ⟨rfl, rfl, rfl⟩
theorem Same.drew (w : World) : Same w w.drew := ⟨rfl, rfl, rfl⟩

/-- A NEW OBJECT in a new block. -/
theorem Rel.alloc {c : Cx} {s : AState} {w : World} (h : Rel cmp c s w) (o : Obj) (ao : AObj) (e z : Nat)
    (ho : ObjOk cmp (c.bind w.heap.size e z) (w.alloc o) c.n ao) (hne : ao ≠ .tok) :
    Rel cmp (c.bind w.heap.size e z) (s.alloc ao) (w.alloc o) ∧ Ext c s w (c.bind w.heap.size e z) (s.alloc ao) (w.alloc o) := by
  have hn := h.n
  refine ⟨⟨by simp [hn], fun b hb => ?_, fun a b ha hb hne' hda hdb => ?_, fun B hB => ?_⟩, ⟨c.le_bind _ _ _, rfl, rfl, rfl, by simp, fun B hB => ?_, fun B hB _ => heap_push_old o hB⟩⟩
  · rw [AState.get_alloc]
    by_cases e1 : b = s.n
    · rw [if_pos e1, e1, hn]; exact ho
    · rw [if_neg e1]
      have hb' : b < s.n := by simp at hb; omega
      by_cases hd : s.get b = .dead
      · rw [hd]; trivial
      · exact (h.obj b hb').kept (hn ▸ hb') (c.le_bind _ _ _) (heap_push_old o (h.lt hb' hd)) rfl
  · rw [AState.get_alloc] at hda hdb
    simp only [AState.n_alloc] at ha hb
    have key : ∀ x, x < s.n → s.get x ≠ .dead → (c.bind w.heap.size e z).mu x ≠ w.heap.size := by
      intro x hx hdx
      rw [(c.le_bind w.heap.size e z).mu x (hn ▸ hx)]; exact Nat.ne_of_lt (h.lt hx hdx)
    by_cases ea : a = s.n
    · have hb' : b < s.n := by omega
      rw [if_neg (by omega)] at hdb
      rw [ea, hn, Cx.bind_mu]; exact (key b hb' hdb).symm
    · have ha' : a < s.n := by omega
      rw [if_neg ea] at hda
      by_cases eb : b = s.n
      · rw [eb, hn, Cx.bind_mu]; exact key a ha' hda
      · have hb' : b < s.n := by omega
        rw [if_neg eb] at hdb
        rw [(c.le_bind w.heap.size e z).mu a (hn ▸ ha'), (c.le_bind w.heap.size e z).mu b (hn ▸ hb')]
        exact h.inj a b ha' hb' hne' hda hdb
  · obtain ⟨vs, e', fz, h1, h2⟩ := h.arr B hB
    exact ⟨vs, e', fz, by rw [heap_push_old o (lt_of_heap h1)]; exact h1, h2⟩
  · obtain ⟨b, hb, hd, rfl⟩ := hB
    rw [AState.get_alloc] at hd
    simp only [AState.n_alloc] at hb
    by_cases e1 : b = s.n
    · rw [e1, hn]; exact .inl (by simp)
    · rw [if_neg e1] at hd
      have hb' : b < s.n := by omega
      exact .inr ⟨b, hb', hd, ((c.le_bind w.heap.size e z).mu b (hn ▸ hb')).symm⟩

/-- A NEW BLOCK of cells that stay (some spare ones behind them). -/
theorem Rel.lay {c : Cx} {s : AState} {w : World} (h : Rel cmp c s w) (vs : Array Value) (e : TypeId) (fz : Nat × Nat) (l : List Value) (hl : l <+: vs.toList) :
    Rel cmp (c.lay w.heap.size l) s (w.alloc (.cells vs e fz)) ∧ Ext c s w (c.lay w.heap.size l) s (w.alloc (.cells vs e fz)) := by
  have hle := c.le_lay w.heap.size l (by rw [h.arr_new]; exact List.nil_prefix)
  refine ⟨⟨h.n, fun b hb => ?_, h.inj, fun B hB => ?_⟩, ⟨hle, rfl, rfl, rfl, by simp, fun B hB => .inr hB, fun B hB _ => heap_push_old _ hB⟩⟩
  · by_cases hd : s.get b = .dead
    · rw [hd]; trivial
    · exact (h.obj b hb).kept (h.n ▸ hb) hle (heap_push_old _ (h.lt hb hd)) (c.lay_ne l (Nat.ne_of_lt (h.lt hb hd)))
  · by_cases e1 : B = w.heap.size
    · subst e1; exact ⟨vs, e, fz, heap_push_new w _, by simpa using hl⟩
    · rw [c.lay_ne l e1] at hB ⊢
      obtain ⟨vs', e', fz', h1, h2⟩ := h.arr B hB
      exact ⟨vs', e', fz', by rw [heap_push_old _ (lt_of_heap h1)]; exact h1, h2⟩

/-- the same, of a world that is said by its heap -/
theorem Rel.lay' {c : Cx} {s : AState} {w w' : World} (h : Rel cmp c s w) (hsm : Same w w') (hsz : w.heap.size ≤ w'.heap.size) (hold : ∀ B, B < w.heap.size → w'.heap[B]? = w.heap[B]?)
    (vs : Array Value) (e : TypeId) (fz : Nat × Nat) (hnew : w'.heap[w.heap.size]? = some (.cells vs e fz)) (l : List Value) (hl : l <+: vs.toList) :
    Rel cmp (c.lay w.heap.size l) s w' ∧ Ext c s w (c.lay w.heap.size l) s w' := by
  have hle := c.le_lay w.heap.size l (by rw [h.arr_new]; exact List.nil_prefix)
  refine ⟨⟨h.n, fun b hb => ?_, h.inj, fun B hB => ?_⟩, ⟨hle, hsm.os, hsm.tape, hsm.output, hsz, fun B hB => .inr hB, fun B hB _ => hold B hB⟩⟩
  · by_cases hd : s.get b = .dead
    · rw [hd]; trivial
    · exact (h.obj b hb).kept (h.n ▸ hb) hle (hold _ (h.lt hb hd)) (c.lay_ne l (Nat.ne_of_lt (h.lt hb hd)))
  · by_cases e1 : B = w.heap.size
    · subst e1; exact ⟨vs, e, fz, hnew, by simpa using hl⟩
    · rw [c.lay_ne l e1] at hB ⊢
      obtain ⟨vs', e', fz', h1, h2⟩ := h.arr B hB
      exact ⟨vs', e', fz', by rw [hold _ (lt_of_heap h1)]; exact h1, h2⟩

/-- AN OBJECT's BLOCK IS WRITTEN, no other. -/
theorem Rel.upd {c : Cx} {s : AState} {w w' : World} (h : Rel cmp c s w) {b : Nat} (hb : b < s.n) (hd : s.get b ≠ .dead) (hsm : Same w w')
    (hsz : w'.heap.size = w.heap.size) (ho : ∀ B, B ≠ c.mu b → w'.heap[B]? = w.heap[B]?) (ao : AObj) (hao : ObjOk cmp c w' b ao) (harr : c.arr (c.mu b) = []) :
    Rel cmp c (s.set b ao) w' ∧ Ext c s w c (s.set b ao) w' := by
  have live : ∀ z, z < s.n → (s.set b ao).get z ≠ .dead → s.get z ≠ .dead := by
    intro z hz hdz
    by_cases e : z = b
    · subst e; exact hd
    · rwa [AState.get_set_ne _ _ e] at hdz
  refine ⟨⟨h.n, fun x hx => ?_, fun x y hx hy hne hdx hdy => h.inj x y hx hy hne (live x hx hdx) (live y hy hdy), fun B hB => ?_⟩,
    ⟨.refl c, hsm.os, hsm.tape, hsm.output, by omega, fun B ⟨x, hx, hdx, e⟩ => .inr ⟨x, hx, live x hx hdx, e⟩, fun B _ hn => ho B (fun e => hn ⟨b, hb, hd, e.symm⟩)⟩⟩
  · by_cases e : x = b
    · subst e; rw [AState.get_set_same _ _ hb]; exact hao
    · rw [AState.get_set_ne _ _ e]
      have hx' : x < s.n := hx
      by_cases hdx : s.get x = .dead
      · rw [hdx]; trivial
      · exact (h.obj x hx').kept (h.n ▸ hx') (.refl c) (ho _ (h.inj x b hx' hb e hdx hd)) rfl
  · obtain ⟨vs, e, fz, h1, h2⟩ := h.arr B hB
    exact ⟨vs, e, fz, by rw [ho B (fun e => hB (by rw [e]; exact harr))]; exact h1, h2⟩

/-- nothing but the count of draws -/
theorem Rel.heap_eq {c : Cx} {s : AState} {w w' : World} (h : Rel cmp c s w) (hh : w'.heap = w.heap) (hsm : Same w w') : Rel cmp c s w' ∧ Ext c s w c s w' := by
  refine ⟨⟨h.n, fun b hb => (h.obj b hb).kept (h.n ▸ hb) (.refl c) (by rw [hh]) rfl, h.inj, fun B hB => by rw [hh]; exact h.arr B hB⟩, ⟨.refl c, hsm.os, hsm.tape, hsm.output, by rw [hh]; exact Nat.le_refl _, fun B hB => .inr hB, fun B _ _ => by rw [hh]⟩⟩

/-- an object is let go -/
theorem Rel.kill {c : Cx} {s : AState} {w : World} (h : Rel cmp c s w) (b : Nat) : Rel cmp c (s.set b .dead) w := by
  have key : ∀ x, (s.set b .dead).get x ≠ .dead → s.get x ≠ .dead ∧ x ≠ b := by
    intro x hx
    by_cases e : x = b
    · subst e
      by_cases hb : x < s.n
      · rw [AState.get_set_same _ _ hb] at hx; exact absurd rfl hx
      · rw [AState.get_ge _ (by simpa using hb)] at hx; exact absurd rfl hx
    · rw [AState.get_set_ne _ _ e] at hx; exact ⟨hx, e⟩
  refine ⟨h.n, fun x hx => ?_, fun x y hx hy hne hdx hdy => h.inj x y hx hy hne (key x hdx).1 (key y hdy).1, h.arr⟩
  by_cases hd : (s.set b .dead).get x = .dead
  · rw [hd]; trivial
  · rw [AState.get_set_ne _ _ (key x hd).2]; exact h.obj x hx

/-- a state that knows less -/
def AState.sub (s s' : AState) : Prop := s.n ≤ s'.n ∧ ∀ b, b < s.n → s.get b = s'.get b ∨ s.get b = .dead

def Cx.cut (c : Cx) (n : Nat) : Cx := { c with n := n }

theorem AState.sub.refl (s : AState) : s.sub s := ⟨Nat.le_refl _, fun _ _ => .inl rfl⟩
theorem AState.sub.trans {a b c : AState} (h : a.sub b) (k : b.sub c) : a.sub c :=
  ⟨Nat.le_trans h.1 k.1, fun x hx => (h.2 x hx).elim (fun e => (k.2 x (Nat.lt_of_lt_of_le hx h.1)).imp (fun e' => e.trans e') (fun e' => e.trans e')) .inr⟩
theorem AState.sub_alloc (s : AState) (o : AObj) : s.sub (s.alloc o) := ⟨Nat.le_succ _, fun b hb => .inl (s.get_alloc_old o hb).symm⟩
theorem AState.sub_set_new {s s' : AState} (h : s.sub s') {b : Nat} (hb : s.n ≤ b) (o : AObj) : s.sub (s'.set b o) :=
  ⟨h.1, fun x hx => by rw [AState.get_set_ne _ _ (by omega)]; exact h.2 x hx⟩

/-- within n -/
inductive AV.In (n : Nat) : AV → Prop
  | v (x : Value) : In n (.v x)
  | p (b off : Nat) (h : b < n) : In n (.p b off)
  | q (cs : List AV) (off : Nat) (h : ∀ x, x ∈ cs → In n x) : In n (.q cs off)
  | sl (xs : List AV) (t : Tok) (h : ∀ x, x ∈ xs → ∀ y, y ∈ x.cells → In n y) (ht : ∀ k, t = .own k → k < n) : In n (.sl xs t)
  | ms (b off len : Nat) (h : b < n) : In n (.ms b off len)
  | m (b : Nat) (h : b < n) : In n (.m b)
  | f (fn : Fn) (fs caps : List AV) (h : ∀ x, x ∈ fs → In n x) (h' : ∀ x, x ∈ caps → In n x) : In n (.f fn fs caps)
  | y (l : Nat) (h : l < n) : In n (.y l)
  | agg (cs : List AV) (h : ∀ x, x ∈ cs → In n x) : In n (.agg cs)
  | tup (cs : List AV) (h : ∀ x, x ∈ cs → In n x) : In n (.tup cs)
  | any : In n .any

theorem R.cut {c : Cx} {x : AV} {y : Value} (h : R c x y) : ∀ {n : Nat}, x.In n → R (c.cut n) x y := by
  induction h with
  | v x => intro n h; exact .v x
  | p b off hb => intro n h; cases h with | p _ _ h => exact .p (c := c.cut n) b off h
  | q cs off B o g h1 h2 ih => intro n h; cases h with | q _ _ h => exact .q (c := c.cut n) cs off B o g h1 (fun j hj => ih j hj (h _ (List.getElem_mem hj)))
  | sl xs t k B o cap g h1 h2 h3 h4 h5 ih =>
    intro n h
    cases h with
    | sl _ _ h ht =>
      refine .sl (c := c.cut n) xs t k B o cap g h1 h2 (fun i hi j hj => ih i hi j hj (h _ (List.getElem_mem hi) _ (List.getElem_mem hj))) h4 ?_
      cases t with
      | no => trivial
      | zero => exact h5
      | own t =>
        obtain ⟨h6, h7, h8, h9⟩ := h5
        exact ⟨ht t rfl, h7, h8, h9⟩
  | sl0 t p ht => intro n h; exact .sl0 t p ht
  | ms b off len cap hb h1 => intro n h; cases h with | ms _ _ _ h => exact .ms (c := c.cut n) b off len cap h h1
  | m b hb => intro n h; cases h with | m _ h => exact .m (c := c.cut n) b h
  | f fn fs caps us vs h0 h1 h2 h3 ih ih2 => intro n h; cases h with | f _ _ _ h h' => exact .f (c := c.cut n) fn fs caps us vs h0 (fun j hj => ih j hj (h _ (List.getElem_mem hj))) h2 (fun j hj => ih2 j hj (h' _ (List.getElem_mem hj)))
  | y l hb => intro n h; cases h with | y _ h => exact .y (c := c.cut n) l h
  | agg cs vs h0 h1 ih => intro n h; cases h with | agg _ h => exact .agg (c := c.cut n) cs vs h0 (fun j hj => ih j hj (h _ (List.getElem_mem hj)))
  | tup cs vs h0 h1 ih => intro n h; cases h with | tup _ h => exact .tup (c := c.cut n) cs vs h0 (fun j hj => ih j hj (h _ (List.getElem_mem hj)))
  | any x => intro n h; exact .any x

end Go.Ab
