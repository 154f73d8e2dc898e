/- The abstract code, states, and what ties a state to a world. -/
import Derived.Test.YtconffokcoipjaaA1
import Derived.Laws.AppendOwn
namespace Go.Ab
open Go.RowKit
set_option linter.unusedVariables false

inductive Arg where
  | t (i : Nat) | c (x : AV)

/-- kinds of what is sliced -/
inductive SK where
  | str | sl (k : Nat) | arr (n k : Nat)

/-- what 'len' is of -/
inductive LK where
  | str | sl | map

/-- kinds of keys -/
inductive KK where
  | int | str | agg2

/-- kinds of cells that '==' compares -/
inductive SKd where
  | i | b | s

/-- what '==' is on: a struct; bools; a pointer against nil -/
inductive EK where
  | agg (ks : List SKd) | bool | ptr

inductive AOp where
  | mov (x : Arg)
  | pick (c a b : Arg)
  | alloc (z : List AV)
  | box (x : Arg)
  | build (z : List AV) (parts : List (Nat × Nat × Arg))
  | bsl (k : Nat) (parts : List Arg)
  | load (ag : Bool) (k : Nat) (x : Arg)
  | store (k : Nat) (x y : Arg)
  | nilck (x : Arg)
  | bin (op : BinOp) (x y : Arg)
  | eqa (neg : Bool) (ek : EK) (x y : Arg)
  | un (op : UnOp) (x : Arg)
  | conv (k : IntKind) (x : Arg)
  | s2b (x : Arg)
  | b2s (x : Arg)
  | mki (t : TypeId) (x : Arg)
  | mkf (fn : Fn) (fs caps : List Arg)
  | mkmap
  | mksl (z : List AV) (bytes : Nat) (l : Arg)
  | slice (sk : SK) (x : Arg) (lo hi mx : Option Arg)
  | fld (off : Nat) (x : Arg)
  | field (ag : Bool) (off k : Nat) (x : Arg)
  | idxp (k : Nat) (x i : Arg)
  | idxa (n k : Nat) (x i : Arg)
  | idxs (x i : Arg)
  | idxv (ag : Bool) (n k : Nat) (x i : Arg)
  | lookup (kk : KK) (z : AV) (ok : Bool) (m k : Arg)
  | mapset (kk : KK) (m k x : Arg)
  | mapdel (kk : KK) (m k : Arg)
  | extract (i : Nat) (x : Arg)
  | len (lk : LK) (x : Arg)
  | append (k bytes : Nat) (s x : Arg)
  | mm (max : Bool) (xs : List Arg)
  | call (f : Arg) (args : List Arg)

structure AOper where
  dst : Option Nat
  op : AOp
  guard : Option (Nat × Bool) := none

/-- an operation of a region that draws its order, in an order in which those that leave the state as it is stand as far ahead as they can: has it an effect; may one with an effect come ahead of it, though it stands behind; those (that read) which may come behind it, though they stand ahead -/
structure DOper where
  o : AOper
  eff : Bool
  amid : Bool
  opens : List AOper

inductive ACode where
  | skip
  | region (ops : List AOper)
  | draw (ops : List DOper)
  | seq (a b : ACode)
  | cond (c : Arg) (a b : ACode)
  | block (id : Nat) (c : ACode)
  | loop (c : ACode)
  | range (f : Arg) (ps : List Nat) (asg body : ACode)
  | exit (id : Nat)
  | scope (c : ACode)
  | label (l : Nat)
  | goto (l : Nat)
  | ret

inductive AJump where
  | exit (id : Nat) | goto (l : Nat) | ret

def AJump.code : AJump → Code
  | .exit id => .exit id | .goto l => .goto l | .ret => .ret

inductive AObj where
  | cells (cs : List AV)
  | map (es : List (AV × AV))
  | loop (st : LoopState) (pend : Option AJump) (tmps : List AV) (ps : List Nat) (asg body : ACode) (d : Nat)
  | defd
  | tok
  | dead

structure AState where
  n : Nat
  at_ : Nat → AObj

def AState.get (s : AState) (b : Nat) : AObj := if b < s.n then s.at_ b else .dead
def AState.set (s : AState) (b : Nat) (o : AObj) : AState := { s with at_ := fun x => if x = b then o else s.at_ x }
def AState.alloc (s : AState) (o : AObj) : AState := { n := s.n + 1, at_ := fun x => if x = s.n then o else s.at_ x }
def AState.cut (s : AState) (n : Nat) : AState := { s with n := n }
def AState.empty : AState := { n := 0, at_ := fun _ => .dead }

@[simp] theorem AState.n_set (s : AState) (b : Nat) (o : AObj) : (s.set b o).n = s.n := by cases s; rfl
@[simp] theorem AState.n_alloc (s : AState) (o : AObj) : (s.alloc o).n = s.n + 1 := by cases s; rfl
theorem AState.get_set (s : AState) (b x : Nat) (o : AObj) : (s.set b o).get x = if x = b ∧ b < s.n then o else s.get x := by
  unfold get set; by_cases h : x = b
  · subst h; by_cases h' : x < s.n <;> simp [h']
  · simp [h]
theorem AState.get_set_same (s : AState) {b : Nat} (o : AObj) (h : b < s.n) : (s.set b o).get b = o := by simp [get_set, h]
theorem AState.get_set_ne (s : AState) {b x : Nat} (o : AObj) (h : x ≠ b) : (s.set b o).get x = s.get x := by simp [get_set, h]
theorem AState.get_alloc (s : AState) (x : Nat) (o : AObj) : (s.alloc o).get x = if x = s.n then o else s.get x := by
  unfold get alloc; by_cases h : x = s.n
  · subst h; simp
  · by_cases h' : x < s.n
    · simp [h, h', Nat.lt_succ_of_lt h']
    · simp [h, h', show ¬ x < s.n + 1 by omega]
@[simp] theorem AState.get_alloc_new (s : AState) (o : AObj) : (s.alloc o).get s.n = o := by simp [get_alloc]
theorem AState.get_alloc_old (s : AState) {x : Nat} (o : AObj) (h : x < s.n) : (s.alloc o).get x = s.get x := by simp [get_alloc, Nat.ne_of_lt h]
theorem AState.get_ge (s : AState) {x : Nat} (h : s.n ≤ x) : s.get x = .dead := by simp [get, Nat.not_lt.2 h]
theorem AState.lt_of_get {s : AState} {b : Nat} {o : AObj} (h : s.get b = o) (ho : o ≠ .dead) : b < s.n := by
  unfold get at h; split at h
  · assumption
  · exact absurd h.symm ho

/-- compiled code and what it is compiled from: given by the next text, as a parameter here -/
structure LoopOk (cmp : Code → Option ACode) (c : Cx) (L : Loop) (st : LoopState) (pend : Option AJump) (tmps : List AV) (ps : List Nat) (asg body : ACode) (d : Nat) : Prop where
  h1 : L.state = st
  h2 : L.pending = pend.map AJump.code
  h3 : RL c tmps L.tmps.toList
  h4 : L.params.toList = ps
  h5 : cmp L.assign = some asg
  h6 : cmp L.body = some body
  h7 : L.defers = c.mu d
  h8 : d < c.n

def EntryOk (c : Cx) (ms : List MapEntry) (es : List (AV × AV)) (clk : Nat) : Prop :=
  ms.length = es.length ∧ (∀ i (h : i < es.length) (h' : i < ms.length), R c es[i].1 ms[i].key ∧ R c es[i].2 ms[i].val) ∧
  (∀ m ∈ ms, m.born < clk) ∧ (ms.map (·.born)).Nodup

def ObjOk (cmp : Code → Option ACode) (c : Cx) (w : World) (b : Nat) : AObj → Prop
  | .cells cs => ∃ vs e, w.heap[c.mu b]? = some (.cells vs e (0, 0)) ∧ RL c cs vs.toList ∧ c.arr (c.mu b) = []
  | .map es => ∃ ms clk, w.heap[c.mu b]? = some (.map ms clk) ∧ EntryOk c ms.toList es clk
  | .loop st pend tmps ps asg body d => ∃ L, w.heap[c.mu b]? = some (.loop L) ∧ LoopOk cmp c L st pend tmps ps asg body d
  | .defd => w.heap[c.mu b]? = some (.deferred (some []))
  | .tok => ∃ vs e, w.heap[c.mu b]? = some (.cells vs e (0, 0)) ∧ (c.arr (c.mu b)).length = c.tend b ∧ c.csz b ≤ vs.size
  | .dead => True

structure Rel (cmp : Code → Option ACode) (c : Cx) (s : AState) (w : World) : Prop where
  n : s.n = c.n
  obj : ∀ b, b < s.n → ObjOk cmp c w b (s.get b)
  inj : ∀ a b, a < s.n → b < s.n → a ≠ b → s.get a ≠ .dead → s.get b ≠ .dead → c.mu a ≠ c.mu b
  arr : ∀ B, c.arr B ≠ [] → ∃ vs e fz, w.heap[B]? = some (.cells vs e fz) ∧ c.arr B <+: vs.toList

/-- the blocks that a state speaks of -/
def Own (c : Cx) (s : AState) (B : Nat) : Prop := ∃ b, b < s.n ∧ s.get b ≠ .dead ∧ c.mu b = B

/-- from one world (its bindings, its state) on to another -/
structure Ext (c : Cx) (s : AState) (w : World) (c' : Cx) (s' : AState) (w' : World) : Prop where
  le : c.le c'
  os : w'.os = w.os
  tape : w'.tape = w.tape
  output : w'.output = w.output
  size : w.heap.size ≤ w'.heap.size
  fresh : ∀ B, Own c' s' B → w.heap.size ≤ B ∨ Own c s B
  kept : ∀ B, B < w.heap.size → ¬ Own c s B → w'.heap[B]? = w.heap[B]?

theorem Ext.refl (c : Cx) (s : AState) (w : World) : Ext c s w c s w := ⟨.refl c, rfl, rfl, rfl, Nat.le_refl _, fun B h => .inr h, fun _ _ _ => rfl⟩

theorem Ext.trans {c c1 c2 : Cx} {s s1 s2 : AState} {w w1 w2 : World} (h : Ext c s w c1 s1 w1) (k : Ext c1 s1 w1 c2 s2 w2) : Ext c s w c2 s2 w2 := by
  refine ⟨h.le.trans k.le, k.os.trans h.os, k.tape.trans h.tape, k.output.trans h.output, Nat.le_trans h.size k.size, fun B hB => ?_, fun B hB hn => ?_⟩
  · rcases k.fresh B hB with h1 | h1
    · exact .inl (Nat.le_trans h.size h1)
    · exact h.fresh B h1
  · rw [k.kept B (Nat.lt_of_lt_of_le hB h.size) (fun ho => ?_)]
    · exact h.kept B hB hn
    · rcases h.fresh B ho with h1 | h1
      · omega
      · exact hn h1

theorem Ext.below {c c' : Cx} {s s' : AState} {w w' : World} (h : Ext c s w c' s' w') (h0 : s.n = 0) : Below w.heap.size w w' :=
  ⟨h.os, h.tape, h.output, h.size, fun k hk => h.kept k hk (fun ⟨b, hb, _⟩ => by omega)⟩

end Go.Ab
