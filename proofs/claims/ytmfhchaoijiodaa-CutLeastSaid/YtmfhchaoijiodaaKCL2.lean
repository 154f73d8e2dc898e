/- Going on. -/
import Derived.Laws.AppendOwn
import Derived.Test.YtmfhchaoijiodaaKCL1
section
namespace Go.Ab
open Go.RowKit
set_option linter.unusedVariables false
inductive Arg where
  | t (i : Nat) | c (x : AV)
inductive SK where
  | str | sl (k : Nat) | arr (n k : Nat)
inductive LK where
  | str | sl | map
inductive KK where
  | int | str | agg2
inductive SKd where
  | i | b | s
inductive EK where
  | agg (ks : List SKd) | bool | ptr
inductive AOp where
  | mov (x : Arg)
  | pick (c a b : Arg)
  | alloc (z : List AV)
  | box (x : Arg)
  | build (z : List AV) (parts : List (Nat × Nat × Arg))
  | bsl (k : Nat) (parts : List Arg)
  | load (ag : Bool) (k : Nat) (x : Arg)
  | store (k : Nat) (x y : Arg)
  | nilck (x : Arg)
  | bin (op : BinOp) (x y : Arg)
  | eqa (neg : Bool) (ek : EK) (x y : Arg)
  | un (op : UnOp) (x : Arg)
  | conv (k : IntKind) (x : Arg)
  | s2b (x : Arg)
  | b2s (x : Arg)
  | mki (t : TypeId) (x : Arg)
  | mkf (fn : Fn) (fs caps : List Arg)
  | mkmap
  | mksl (z : List AV) (bytes : Nat) (l : Arg)
  | slice (sk : SK) (x : Arg) (lo hi mx : Option Arg)
  | fld (off : Nat) (x : Arg)
  | field (ag : Bool) (off k : Nat) (x : Arg)
  | idxp (k : Nat) (x i : Arg)
  | idxa (n k : Nat) (x i : Arg)
  | idxs (x i : Arg)
  | idxv (ag : Bool) (n k : Nat) (x i : Arg)
  | lookup (kk : KK) (z : AV) (ok : Bool) (m k : Arg)
  | mapset (kk : KK) (m k x : Arg)
  | mapdel (kk : KK) (m k : Arg)
  | extract (i : Nat) (x : Arg)
  | len (lk : LK) (x : Arg)
  | append (k bytes : Nat) (s x : Arg)
  | mm (max : Bool) (xs : List Arg)
  | call (f : Arg) (args : List Arg)
  | isnil (neg : Bool) (x : Arg)
  | mrange (x : Arg)
  | mnext (x : Arg)
  | mentry (x : Arg)
structure AOper where
  dst : Option Nat
  op : AOp
  guard : Option (Nat × Bool) := none
structure DOper where
  o : AOper
  eff : Bool
  amid : Bool
  opens : List AOper
inductive ACode where
  | skip
  | region (ops : List AOper)
  | draw (ops : List DOper)
  | seq (a b : ACode)
  | cond (c : Arg) (a b : ACode)
  | block (id : Nat) (c : ACode)
  | loop (c : ACode)
  | range (f : Arg) (ps : List Nat) (asg body : ACode)
  | exit (id : Nat)
  | scope (c : ACode)
  | label (l : Nat)
  | goto (l : Nat)
  | ret
inductive AJump where
  | exit (id : Nat) | goto (l : Nat) | ret
def AJump.code : AJump → Code
  | .exit id => .exit id | .goto l => .goto l | .ret => .ret
inductive AObj where
  | cells (cs : List AV)
  | map (es : List (AV × AV))
  | held (es : List (AV × AV)) (bs : List Nat) (clk : Nat)
  | iter (m : Nat) (bs : List Nat) (clk : Nat) (dn : List Nat)
  | loop (st : LoopState) (pend : Option AJump) (tmps : List AV) (ps : List Nat) (asg body : ACode) (d : Nat)
  | defd
  | tok
  | dead
structure AState where
  n : Nat
  at_ : Nat → AObj
def AState.get (s : AState) (b : Nat) : AObj := if b < s.n then s.at_ b else .dead
def AState.set (s : AState) (b : Nat) (o : AObj) : AState := { s with at_ := fun x => if x = b then o else s.at_ x }
def AState.alloc (s : AState) (o : AObj) : AState := { n := s.n + 1, at_ := fun x => if x = s.n then o else s.at_ x }
def AState.empty : AState := { n := 0, at_ := fun _ => .dead }
@[simp] theorem AState.n_set (s : AState) (b : Nat) (o : AObj) : (s.set b o).n = s.n := by cases s; rfl
@[simp] theorem AState.n_alloc (s : AState) (o : AObj) : (s.alloc o).n = s.n + 1 := by cases s; rfl
theorem AState.get_set (s : AState) (b x : Nat) (o : AObj) : (s.set b o).get x = if x = b ∧ b < s.n then o else s.get x := by
  unfold get set; by_cases h : x = b
  · subst h; by_cases h' : x < s.n <;> simp [h']
  · simp [h]
theorem AState.get_set_same (s : AState) {b : Nat} (o : AObj) (h : b < s.n) : (s.set b o).get b = o := by simp [get_set, h]
theorem AState.get_set_ne (s : AState) {b x : Nat} (o : AObj) (h : x ≠ b) : (s.set b o).get x = s.get x := by simp [get_set, h]
theorem AState.get_alloc (s : AState) (x : Nat) (o : AObj) : (s.alloc o).get x = if x = s.n then o else s.get x := by
  unfold get alloc; by_cases h : x = s.n
  · subst h; simp
  · by_cases h' : x < s.n
    · simp [h, h', Nat.lt_succ_of_lt h']
    · simp [h, h', show ¬ x < s.n + 1 by omega]
@[simp] theorem AState.get_alloc_new (s : AState) (o : AObj) : (s.alloc o).get s.n = o := by simp [get_alloc]
theorem AState.get_alloc_old (s : AState) {x : Nat} (o : AObj) (h : x < s.n) : (s.alloc o).get x = s.get x := by simp [get_alloc, Nat.ne_of_lt h]
theorem AState.get_ge (s : AState) {x : Nat} (h : s.n ≤ x) : s.get x = .dead := by simp [get, Nat.not_lt.2 h]
theorem AState.lt_of_get {s : AState} {b : Nat} {o : AObj} (h : s.get b = o) (ho : o ≠ .dead) : b < s.n := by
  unfold get at h; split at h
  · assumption
  · exact absurd h.symm ho
structure LoopOk (cmp : Code → Option ACode) (c : Cx) (L : Loop) (st : LoopState) (pend : Option AJump) (tmps : List AV) (ps : List Nat) (asg body : ACode) (d : Nat) : Prop where
  h1 : L.state = st
  h2 : L.pending = pend.map AJump.code
  h3 : RL c tmps L.tmps.toList
  h4 : L.params.toList = ps
  h5 : cmp L.assign = some asg
  h6 : cmp L.body = some body
  h7 : L.defers = c.mu d
  h8 : d < c.n
def EntryOk (c : Cx) (ms : List MapEntry) (es : List (AV × AV)) (clk : Nat) : Prop :=
  ms.length = es.length ∧ (∀ i (h : i < es.length) (h' : i < ms.length), R c es[i].1 ms[i].key ∧ R c es[i].2 ms[i].val) ∧
  (∀ m ∈ ms, m.born < clk) ∧ (ms.map (·.born)).Nodup
def ObjOk (cmp : Code → Option ACode) (c : Cx) (w : World) (b : Nat) : AObj → Prop
  | .cells cs => ∃ vs e, w.heap[c.mu b]? = some (.cells vs e (0, 0)) ∧ RL c cs vs.toList ∧ c.arr (c.mu b) = []
  | .map es => ∃ ms clk, w.heap[c.mu b]? = some (.map ms clk) ∧ EntryOk c ms.toList es clk
  | .held es bs clk => ∃ ms, w.heap[c.mu b]? = some (.map ms clk) ∧ EntryOk c ms.toList es clk ∧ ms.toList.map (·.born) = bs
  | .iter m bs clk dn => w.heap[c.mu b]? = some (.mapIter (some (c.mu m)) clk (dn.map fun i => bs.getD i 0).toArray clk) ∧ m < c.n ∧ ∀ i ∈ dn, i < bs.length
  | .loop st pend tmps ps asg body d => ∃ L, w.heap[c.mu b]? = some (.loop L) ∧ LoopOk cmp c L st pend tmps ps asg body d
  | .defd => w.heap[c.mu b]? = some (.deferred (some []))
  | .tok => ∃ vs e, w.heap[c.mu b]? = some (.cells vs e (0, 0)) ∧ (c.arr (c.mu b)).length = c.tend b ∧ c.csz b ≤ vs.size
  | .dead => True
structure Rel (cmp : Code → Option ACode) (c : Cx) (s : AState) (w : World) : Prop where
  n : s.n = c.n
  obj : ∀ b, b < s.n → ObjOk cmp c w b (s.get b)
  inj : ∀ a b, a < s.n → b < s.n → a ≠ b → s.get a ≠ .dead → s.get b ≠ .dead → c.mu a ≠ c.mu b
  arr : ∀ B, c.arr B ≠ [] → ∃ vs e fz, w.heap[B]? = some (.cells vs e fz) ∧ c.arr B <+: vs.toList
def Own (c : Cx) (s : AState) (B : Nat) : Prop := ∃ b, b < s.n ∧ s.get b ≠ .dead ∧ c.mu b = B
structure Ext (c : Cx) (s : AState) (w : World) (c' : Cx) (s' : AState) (w' : World) : Prop where
  le : c.le c'
  os : w'.os = w.os
  tape : w'.tape = w.tape
  output : w'.output = w.output
  size : w.heap.size ≤ w'.heap.size
  fresh : ∀ B, Own c' s' B → w.heap.size ≤ B ∨ Own c s B
  kept : ∀ B, B < w.heap.size → ¬ Own c s B → w'.heap[B]? = w.heap[B]?
theorem Ext.refl (c : Cx) (s : AState) (w : World) : Ext c s w c s w := ⟨.refl c, rfl, rfl, rfl, Nat.le_refl _, fun B h => .inr h, fun _ _ _ => rfl⟩
theorem Ext.trans {c c1 c2 : Cx} {s s1 s2 : AState} {w w1 w2 : World} (h : Ext c s w c1 s1 w1) (k : Ext c1 s1 w1 c2 s2 w2) : Ext c s w c2 s2 w2 := by
  refine ⟨h.le.trans k.le, k.os.trans h.os, k.tape.trans h.tape, k.output.trans h.output, Nat.le_trans h.size k.size, fun B hB => ?_, fun B hB hn => ?_⟩
  · rcases k.fresh B hB with h1 | h1
    · exact .inl (Nat.le_trans h.size h1)
    · exact h.fresh B h1
  · rw [k.kept B (Nat.lt_of_lt_of_le hB h.size) (fun ho => ?_)]
    · exact h.kept B hB hn
    · rcases h.fresh B ho with h1 | h1
      · omega
      · exact hn h1
theorem Ext.below {c c' : Cx} {s s' : AState} {w w' : World} (h : Ext c s w c' s' w') (h0 : s.n = 0) : Below w.heap.size w w' :=
  ⟨h.os, h.tape, h.output, h.size, fun k hk => h.kept k hk (fun ⟨b, hb, _⟩ => by omega)⟩
end Go.Ab
end
section
namespace Go.Ab
set_option linter.unusedVariables false
variable {cmp : Code → Option ACode}
theorem heap_push_old {w : World} (o : Obj) {B : Nat} (h : B < w.heap.size) : (w.alloc o).heap[B]? = w.heap[B]? := heap_alloc_old w o B h
theorem heap_push_new (w : World) (o : Obj) : (w.alloc o).heap[w.heap.size]? = some o := heap_alloc_new w o
theorem lt_of_heap {w : World} {B : Nat} {o : Obj} (h : w.heap[B]? = some o) : B < w.heap.size := (Array.getElem?_eq_some_iff.1 h).1
theorem EntryOk.mono {c c' : Cx} (h : c.le c') {ms : List MapEntry} {es : List (AV × AV)} {clk : Nat} (he : EntryOk c ms es clk) : EntryOk c' ms es clk :=
  ⟨he.1, fun i h1 h2 => ⟨(he.2.1 i h1 h2).1.mono h, (he.2.1 i h1 h2).2.mono h⟩, he.2.2.1, he.2.2.2⟩
theorem ObjOk.kept {c c' : Cx} {w w' : World} {b : Nat} {o : AObj} (h : ObjOk cmp c w b o) (hb : b < c.n) (hle : c.le c')
    (hw : w'.heap[c.mu b]? = w.heap[c.mu b]?) (ha : c'.arr (c.mu b) = c.arr (c.mu b)) : ObjOk cmp c' w' b o := by
  have hmu := hle.mu b hb
  cases o with
  | cells cs => obtain ⟨vs, e, h1, h2, h3⟩ := h; exact ⟨vs, e, by rw [hmu, hw]; exact h1, h2.mono hle, by rw [hmu, ha]; exact h3⟩
  | map es => obtain ⟨ms, clk, h1, h2⟩ := h; exact ⟨ms, clk, by rw [hmu, hw]; exact h1, h2.mono hle⟩
  | held es bs clk => obtain ⟨ms, h1, h2, h3⟩ := h; exact ⟨ms, by rw [hmu, hw]; exact h1, h2.mono hle, h3⟩
  | iter m bs clk dn => obtain ⟨h1, h2, h3⟩ := h; exact ⟨by rw [hmu, hw, hle.mu m h2]; exact h1, Nat.lt_of_lt_of_le h2 hle.n, h3⟩
  | loop st pend tmps ps asg body d =>
    obtain ⟨L, h1, h2⟩ := h
    exact ⟨L, by rw [hmu, hw]; exact h1, ⟨h2.h1, h2.h2, h2.h3.mono hle, h2.h4, h2.h5, h2.h6, by rw [hle.mu d h2.h8]; exact h2.h7, Nat.lt_of_lt_of_le h2.h8 hle.n⟩⟩
  | defd => show w'.heap[c'.mu b]? = _; rw [hmu, hw]; exact h
  | tok => obtain ⟨vs, e, h1, h2, h3⟩ := h; exact ⟨vs, e, by rw [hmu, hw]; exact h1, by rw [hmu, ha, hle.tend b hb]; exact h2, by rw [hle.csz b hb]; exact h3⟩
  | dead => trivial
theorem ObjOk.lt {c : Cx} {w : World} {b : Nat} {o : AObj} (h : ObjOk cmp c w b o) (ho : o ≠ .dead) : c.mu b < w.heap.size := by
  cases o with
  | cells cs => obtain ⟨vs, e, h1, _⟩ := h; exact lt_of_heap h1
  | map es => obtain ⟨ms, clk, h1, _⟩ := h; exact lt_of_heap h1
  | held es bs clk => obtain ⟨ms, h1, _⟩ := h; exact lt_of_heap h1
  | iter m bs clk dn => obtain ⟨h1, _⟩ := h; exact lt_of_heap h1
  | loop => obtain ⟨L, h1, _⟩ := h; exact lt_of_heap h1
  | defd => exact lt_of_heap h
  | tok => obtain ⟨vs, e, h1, _⟩ := h; exact lt_of_heap h1
  | dead => exact absurd rfl ho
theorem Rel.lt {c : Cx} {s : AState} {w : World} (h : Rel cmp c s w) {b : Nat} (hb : b < s.n) (ho : s.get b ≠ .dead) : c.mu b < w.heap.size := (h.obj b hb).lt ho
theorem Rel.arr_lt {c : Cx} {s : AState} {w : World} (h : Rel cmp c s w) {B : Nat} (hB : c.arr B ≠ []) : B < w.heap.size := by
  obtain ⟨vs, e, fz, h1, _⟩ := h.arr B hB; exact lt_of_heap h1
theorem Rel.arr_new {c : Cx} {s : AState} {w : World} (h : Rel cmp c s w) : c.arr w.heap.size = [] := by
  by_cases h' : c.arr w.heap.size = []
  · exact h'
  · exact absurd (h.arr_lt h') (Nat.lt_irrefl _)
def Cx.bind (c : Cx) (B e z : Nat) : Cx :=
  { n := c.n + 1, mu := fun x => if x = c.n then B else c.mu x, tend := fun x => if x = c.n then e else c.tend x, csz := fun x => if x = c.n then z else c.csz x, arr := c.arr }
theorem Cx.le_bind (c : Cx) (B e z : Nat) : c.le (c.bind B e z) :=
  ⟨Nat.le_succ _, fun b hb => by simp [bind, Nat.ne_of_lt hb], fun b hb => by simp [bind, Nat.ne_of_lt hb], fun b hb => by simp [bind, Nat.ne_of_lt hb], fun _ => List.prefix_refl _⟩
@[simp] theorem Cx.bind_mu (c : Cx) (B e z : Nat) : (c.bind B e z).mu c.n = B := by simp [bind]
@[simp] theorem Cx.bind_tend (c : Cx) (B e z : Nat) : (c.bind B e z).tend c.n = e := by simp [bind]
@[simp] theorem Cx.bind_csz (c : Cx) (B e z : Nat) : (c.bind B e z).csz c.n = z := by simp [bind]
@[simp] theorem Cx.bind_n (c : Cx) (B e z : Nat) : (c.bind B e z).n = c.n + 1 := rfl
@[simp] theorem Cx.bind_arr (c : Cx) (B e z : Nat) : (c.bind B e z).arr = c.arr := rfl
def Cx.lay (c : Cx) (B : Nat) (l : List Value) : Cx := { c with arr := fun x => if x = B then l else c.arr x }
theorem Cx.le_lay (c : Cx) (B : Nat) (l : List Value) (h : c.arr B <+: l) : c.le (c.lay B l) :=
  ⟨Nat.le_refl _, fun _ _ => rfl, fun _ _ => rfl, fun _ _ => rfl, fun x => by
    by_cases e : x = B
    · subst e; simpa [lay] using h
    · simp [lay, e]⟩
@[simp] theorem Cx.lay_same (c : Cx) (B : Nat) (l : List Value) : (c.lay B l).arr B = l := by simp [lay]
theorem Cx.lay_ne (c : Cx) {B x : Nat} (l : List Value) (h : x ≠ B) : (c.lay B l).arr x = c.arr x := by simp [lay, h]
@[simp] theorem Cx.lay_mu (c : Cx) (B : Nat) (l : List Value) : (c.lay B l).mu = c.mu := rfl
@[simp] theorem Cx.lay_n (c : Cx) (B : Nat) (l : List Value) : (c.lay B l).n = c.n := rfl
@[simp] theorem Cx.lay_tend (c : Cx) (B : Nat) (l : List Value) : (c.lay B l).tend = c.tend := rfl
@[simp] theorem Cx.lay_csz (c : Cx) (B : Nat) (l : List Value) : (c.lay B l).csz = c.csz := rfl
structure Same (w w' : World) : Prop where
  os : w'.os = w.os
  tape : w'.tape = w.tape
  output : w'.output = w.output
theorem Same.drew (w : World) : Same w w.drew := ⟨rfl, rfl, rfl⟩
theorem Rel.alloc {c : Cx} {s : AState} {w : World} (h : Rel cmp c s w) (o : Obj) (ao : AObj) (e z : Nat)
    (ho : ObjOk cmp (c.bind w.heap.size e z) (w.alloc o) c.n ao) (hne : ao ≠ .tok) :
    Rel cmp (c.bind w.heap.size e z) (s.alloc ao) (w.alloc o) ∧ Ext c s w (c.bind w.heap.size e z) (s.alloc ao) (w.alloc o) := by
  have hn := h.n
  refine ⟨⟨by simp [hn], fun b hb => ?_, fun a b ha hb hne' hda hdb => ?_, fun B hB => ?_⟩, ⟨c.le_bind _ _ _, rfl, rfl, rfl, by simp, fun B hB => ?_, fun B hB _ => heap_push_old o hB⟩⟩
  · rw [AState.get_alloc]
    by_cases e1 : b = s.n
    · rw [if_pos e1, e1, hn]; exact ho
    · rw [if_neg e1]
      have hb' : b < s.n := by simp at hb; omega
      by_cases hd : s.get b = .dead
      · rw [hd]; trivial
      · exact (h.obj b hb').kept (hn ▸ hb') (c.le_bind _ _ _) (heap_push_old o (h.lt hb' hd)) rfl
  · rw [AState.get_alloc] at hda hdb
    simp only [AState.n_alloc] at ha hb
    have key : ∀ x, x < s.n → s.get x ≠ .dead → (c.bind w.heap.size e z).mu x ≠ w.heap.size := by
      intro x hx hdx
      rw [(c.le_bind w.heap.size e z).mu x (hn ▸ hx)]; exact Nat.ne_of_lt (h.lt hx hdx)
    by_cases ea : a = s.n
    · have hb' : b < s.n := by omega
      rw [if_neg (by omega)] at hdb
      rw [ea, hn, Cx.bind_mu]; exact (key b hb' hdb).symm
    · have ha' : a < s.n := by omega
      rw [if_neg ea] at hda
      by_cases eb : b = s.n
      · rw [eb, hn, Cx.bind_mu]; exact key a ha' hda
      · have hb' : b < s.n := by omega
        rw [if_neg eb] at hdb
        rw [(c.le_bind w.heap.size e z).mu a (hn ▸ ha'), (c.le_bind w.heap.size e z).mu b (hn ▸ hb')]
        exact h.inj a b ha' hb' hne' hda hdb
  · obtain ⟨vs, e', fz, h1, h2⟩ := h.arr B hB
    exact ⟨vs, e', fz, by rw [heap_push_old o (lt_of_heap h1)]; exact h1, h2⟩
  · obtain ⟨b, hb, hd, rfl⟩ := hB
    rw [AState.get_alloc] at hd
    simp only [AState.n_alloc] at hb
    by_cases e1 : b = s.n
    · rw [e1, hn]; exact .inl (by simp)
    · rw [if_neg e1] at hd
      have hb' : b < s.n := by omega
      exact .inr ⟨b, hb', hd, ((c.le_bind w.heap.size e z).mu b (hn ▸ hb')).symm⟩
theorem Rel.lay {c : Cx} {s : AState} {w : World} (h : Rel cmp c s w) (vs : Array Value) (e : TypeId) (fz : Nat × Nat) (l : List Value) (hl : l <+: vs.toList) :
    Rel cmp (c.lay w.heap.size l) s (w.alloc (.cells vs e fz)) ∧ Ext c s w (c.lay w.heap.size l) s (w.alloc (.cells vs e fz)) := by
  have hle := c.le_lay w.heap.size l (by rw [h.arr_new]; exact List.nil_prefix)
  refine ⟨⟨h.n, fun b hb => ?_, h.inj, fun B hB => ?_⟩, ⟨hle, rfl, rfl, rfl, by simp, fun B hB => .inr hB, fun B hB _ => heap_push_old _ hB⟩⟩
  · by_cases hd : s.get b = .dead
    · rw [hd]; trivial
    · exact (h.obj b hb).kept (h.n ▸ hb) hle (heap_push_old _ (h.lt hb hd)) (c.lay_ne l (Nat.ne_of_lt (h.lt hb hd)))
  · by_cases e1 : B = w.heap.size
    · subst e1; exact ⟨vs, e, fz, heap_push_new w _, by simpa using hl⟩
    · rw [c.lay_ne l e1] at hB ⊢
      obtain ⟨vs', e', fz', h1, h2⟩ := h.arr B hB
      exact ⟨vs', e', fz', by rw [heap_push_old _ (lt_of_heap h1)]; exact h1, h2⟩
theorem Rel.lay' {c : Cx} {s : AState} {w w' : World} (h : Rel cmp c s w) (hsm : Same w w') (hsz : w.heap.size ≤ w'.heap.size) (hold : ∀ B, B < w.heap.size → w'.heap[B]? = w.heap[B]?)
    (vs : Array Value) (e : TypeId) (fz : Nat × Nat) (hnew : w'.heap[w.heap.size]? = some (.cells vs e fz)) (l : List Value) (hl : l <+: vs.toList) :
    Rel cmp (c.lay w.heap.size l) s w' ∧ Ext c s w (c.lay w.heap.size l) s w' := by
  have hle := c.le_lay w.heap.size l (by rw [h.arr_new]; exact List.nil_prefix)
  refine ⟨⟨h.n, fun b hb => ?_, h.inj, fun B hB => ?_⟩, ⟨hle, hsm.os, hsm.tape, hsm.output, hsz, fun B hB => .inr hB, fun B hB _ => hold B hB⟩⟩
  · by_cases hd : s.get b = .dead
    · rw [hd]; trivial
    · exact (h.obj b hb).kept (h.n ▸ hb) hle (hold _ (h.lt hb hd)) (c.lay_ne l (Nat.ne_of_lt (h.lt hb hd)))
  · by_cases e1 : B = w.heap.size
    · subst e1; exact ⟨vs, e, fz, hnew, by simpa using hl⟩
    · rw [c.lay_ne l e1] at hB ⊢
      obtain ⟨vs', e', fz', h1, h2⟩ := h.arr B hB
      exact ⟨vs', e', fz', by rw [hold _ (lt_of_heap h1)]; exact h1, h2⟩
theorem Rel.upd {c : Cx} {s : AState} {w w' : World} (h : Rel cmp c s w) {b : Nat} (hb : b < s.n) (hd : s.get b ≠ .dead) (hsm : Same w w')
    (hsz : w'.heap.size = w.heap.size) (ho : ∀ B, B ≠ c.mu b → w'.heap[B]? = w.heap[B]?) (ao : AObj) (hao : ObjOk cmp c w' b ao) (harr : c.arr (c.mu b) = []) :
    Rel cmp c (s.set b ao) w' ∧ Ext c s w c (s.set b ao) w' := by
  have live : ∀ z, z < s.n → (s.set b ao).get z ≠ .dead → s.get z ≠ .dead := by
    intro z hz hdz
    by_cases e : z = b
    · subst e; exact hd
    · rwa [AState.get_set_ne _ _ e] at hdz
  refine ⟨⟨h.n, fun x hx => ?_, fun x y hx hy hne hdx hdy => h.inj x y hx hy hne (live x hx hdx) (live y hy hdy), fun B hB => ?_⟩,
    ⟨.refl c, hsm.os, hsm.tape, hsm.output, by omega, fun B ⟨x, hx, hdx, e⟩ => .inr ⟨x, hx, live x hx hdx, e⟩, fun B _ hn => ho B (fun e => hn ⟨b, hb, hd, e.symm⟩)⟩⟩
  · by_cases e : x = b
    · subst e; rw [AState.get_set_same _ _ hb]; exact hao
    · rw [AState.get_set_ne _ _ e]
      have hx' : x < s.n := hx
      by_cases hdx : s.get x = .dead
      · rw [hdx]; trivial
      · exact (h.obj x hx').kept (h.n ▸ hx') (.refl c) (ho _ (h.inj x b hx' hb e hdx hd)) rfl
  · obtain ⟨vs, e, fz, h1, h2⟩ := h.arr B hB
    exact ⟨vs, e, fz, by rw [ho B (fun e => hB (by rw [e]; exact harr))]; exact h1, h2⟩
theorem Rel.heap_eq {c : Cx} {s : AState} {w w' : World} (h : Rel cmp c s w) (hh : w'.heap = w.heap) (hsm : Same w w') : Rel cmp c s w' ∧ Ext c s w c s w' := by
  refine ⟨⟨h.n, fun b hb => (h.obj b hb).kept (h.n ▸ hb) (.refl c) (by rw [hh]) rfl, h.inj, fun B hB => by rw [hh]; exact h.arr B hB⟩, ⟨.refl c, hsm.os, hsm.tape, hsm.output, by rw [hh]; exact Nat.le_refl _, fun B hB => .inr hB, fun B _ _ => by rw [hh]⟩⟩
theorem Rel.kill {c : Cx} {s : AState} {w : World} (h : Rel cmp c s w) (b : Nat) : Rel cmp c (s.set b .dead) w := by
  have key : ∀ x, (s.set b .dead).get x ≠ .dead → s.get x ≠ .dead ∧ x ≠ b := by
    intro x hx
    by_cases e : x = b
    · subst e
      by_cases hb : x < s.n
      · rw [AState.get_set_same _ _ hb] at hx; exact absurd rfl hx
      · rw [AState.get_ge _ (by simpa using hb)] at hx; exact absurd rfl hx
    · rw [AState.get_set_ne _ _ e] at hx; exact ⟨hx, e⟩
  refine ⟨h.n, fun x hx => ?_, fun x y hx hy hne hdx hdy => h.inj x y hx hy hne (key x hdx).1 (key y hdy).1, h.arr⟩
  by_cases hd : (s.set b .dead).get x = .dead
  · rw [hd]; trivial
  · rw [AState.get_set_ne _ _ (key x hd).2]; exact h.obj x hx
def AState.sub (s s' : AState) : Prop := s.n ≤ s'.n ∧ ∀ b, b < s.n → s.get b = s'.get b ∨ s.get b = .dead ∨ ∃ es bs clk, s.get b = .map es ∧ s'.get b = .held es bs clk
def Cx.cut (c : Cx) (n : Nat) : Cx := { c with n := n }
inductive AV.In (n : Nat) : AV → Prop
  | v (x : Value) : In n (.v x)
  | p (b off : Nat) (h : b < n) : In n (.p b off)
  | q (cs : List AV) (off : Nat) (h : ∀ x, x ∈ cs → In n x) : In n (.q cs off)
  | sl (xs : List AV) (t : Tok) (h : ∀ x, x ∈ xs → ∀ y, y ∈ x.cells → In n y) (ht : ∀ k, t = .own k → k < n) : In n (.sl xs t)
  | ms (b off len : Nat) (h : b < n) : In n (.ms b off len)
  | m (b : Nat) (h : b < n) : In n (.m b)
  | f (fn : Fn) (fs caps : List AV) (h : ∀ x, x ∈ fs → In n x) (h' : ∀ x, x ∈ caps → In n x) : In n (.f fn fs caps)
  | y (l : Nat) (h : l < n) : In n (.y l)
  | agg (cs : List AV) (h : ∀ x, x ∈ cs → In n x) : In n (.agg cs)
  | tup (cs : List AV) (h : ∀ x, x ∈ cs → In n x) : In n (.tup cs)
  | any : In n .any
theorem R.cut {c : Cx} {x : AV} {y : Value} (h : R c x y) : ∀ {n : Nat}, x.In n → R (c.cut n) x y := by
  induction h with
  | v x => intro n h; exact .v x
  | p b off hb => intro n h; cases h with | p _ _ h => exact .p (c := c.cut n) b off h
  | q cs off B o g h1 h2 ih => intro n h; cases h with | q _ _ h => exact .q (c := c.cut n) cs off B o g h1 (fun j hj => ih j hj (h _ (List.getElem_mem hj)))
  | sl xs t k B o cap g h1 h2 h3 h4 h5 ih =>
    intro n h
    cases h with
    | sl _ _ h ht =>
      refine .sl (c := c.cut n) xs t k B o cap g h1 h2 (fun i hi j hj => ih i hi j hj (h _ (List.getElem_mem hi) _ (List.getElem_mem hj))) h4 ?_
      cases t with
      | no => trivial
      | zero => exact h5
      | own t =>
        obtain ⟨h6, h7, h8, h9⟩ := h5
        exact ⟨ht t rfl, h7, h8, h9⟩
  | sl0 t p ht => intro n h; exact .sl0 t p ht
  | ms b off len cap hb h1 => intro n h; cases h with | ms _ _ _ h => exact .ms (c := c.cut n) b off len cap h h1
  | m b hb => intro n h; cases h with | m _ h => exact .m (c := c.cut n) b h
  | f fn fs caps us vs h0 h1 h2 h3 ih ih2 => intro n h; cases h with | f _ _ _ h h' => exact .f (c := c.cut n) fn fs caps us vs h0 (fun j hj => ih j hj (h _ (List.getElem_mem hj))) h2 (fun j hj => ih2 j hj (h' _ (List.getElem_mem hj)))
  | y l hb => intro n h; cases h with | y _ h => exact .y (c := c.cut n) l h
  | agg cs vs h0 h1 ih => intro n h; cases h with | agg _ h => exact .agg (c := c.cut n) cs vs h0 (fun j hj => ih j hj (h _ (List.getElem_mem hj)))
  | tup cs vs h0 h1 ih => intro n h; cases h with | tup _ h => exact .tup (c := c.cut n) cs vs h0 (fun j hj => ih j hj (h _ (List.getElem_mem hj)))
  | any x => intro n h; exact .any x
end Go.Ab
end
