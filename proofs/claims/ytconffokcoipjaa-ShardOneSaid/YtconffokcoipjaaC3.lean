/- COMPILING: the model's code to the abstract code; a draw's order and its check. -/
import Derived.Test.YtconffokcoipjaaC2
namespace Go.Ab
open Go.RowKit Go.Proofs
set_option linter.unusedVariables false
set_option linter.unusedSimpArgs false

variable {P : Program}

def edges (ops : Array Oper) (i : Nat) : List Nat :=
  match ops[i]? with
  | some o => (o.after.toList.filter (Region.binds .any)).map (·.on)
  | none => []
def addNew (l : List Nat) (k : Nat) : List Nat := if l.contains k then l else k :: l
def depsTab (ops : Array Oper) : List (List Nat) :=
  (List.range ops.size).foldl (fun acc i => acc ++ [(edges ops i).foldl (fun l e => (e :: acc.getD e []).foldl addNew l) []]) []

def AOp.quietOp (o : AOp) : Bool := o.pure' || o.reads

/-- which have an effect: a call does, but where an operation that has one is open in its order beside it -/
def effOf (tab : List (Nat × AOper)) (D : Nat → List Nat) (i : Nat) (o : AOper) : Bool :=
  if o.op.isCall then !(tab.any fun x => !x.2.op.quietOp && x.1 != i && !(D i).contains x.1 && !(D x.1).contains i) else !o.op.quietOp

def pick1 (ops : Array Oper) (eff : Nat → Bool) (done : List Nat) (left : List Nat) : Option Nat :=
  match left.find? (fun i => !eff i && (edges ops i).all done.contains) with
  | some i => some i
  | none => left.find? (fun i => (edges ops i).all done.contains)
def orderOf (ops : Array Oper) (eff : Nat → Bool) : Nat → List Nat → List Nat → List Nat
  | 0, _, _ => []
  | n + 1, done, left => match pick1 ops eff done left with
    | some i => i :: orderOf ops eff n (i :: done) (left.filter (· != i))
    | none => []

def mkDs (D : Nat → List Nat) (eff : Nat → Bool) (pre : List (Nat × AOper)) : List (Nat × AOper) → List It
  | [] => []
  | (j, o) :: r => (j, { o := o, eff := eff j, amid := r.any (fun x => eff x.1 && !(D x.1).contains j), opens := if eff j then (pre.filter fun x => !eff x.1 && !x.2.op.pure' && !(D j).contains x.1).map (·.2) else [] }) :: mkDs D eff ((j, o) :: pre) r

def pairChk (D : Nat → List Nat) (eff : Nat → Bool) (x y : Nat × AOper) : Bool :=
  x.1 != y.1 && (!eff x.1 || (D y.1).contains x.1) &&
  (match x.2.dst with | some d => y.2.dst != some d && (!y.2.looks.contains d || (D y.1).contains x.1) | none => true) &&
  (match y.2.dst with | some d => !x.2.looks.contains d | none => true)

def chkDs (ops : Array Oper) (D : Nat → List Nat) (eff : Nat → Bool) (pre : List (Nat × AOper)) : List (Nat × AOper) → Bool
  | [] => true
  | (j, o) :: r => (edges ops j).all (fun e => pre.any (·.1 == e)) && (match o.dst with | some d => !o.looks.contains d | none => true) &&
      (eff j || o.op.pure' || o.op.reads || o.op.isCall) && pre.all (fun x => pairChk D eff x (j, o)) && chkDs ops D eff ((j, o) :: pre) r

def chkDeps (ops : Array Oper) (D : Nat → List Nat) : Bool :=
  (List.range ops.size).all fun i => (D i).all fun k => (edges ops i).any fun e => e == k || (D e).contains k

def compDraw (P : Program) (ops : Array Oper) : Option (List DOper) := do
  let tab ← (List.range ops.size).mapM fun i => (ops[i]?).bind fun o => (compOper P ops o).map fun ao => (i, ao)
  let D := fun i => (depsTab ops).getD i []
  let eff := fun i => match tab[i]? with
    | some (_, o) => effOf tab D i o
    | none => false
  let order := orderOf ops eff ops.size [] (List.range ops.size)
  let its ← order.mapM fun i => (ops[i]?).bind fun o => (compOper P ops o).map fun ao => (i, ao)
  if P.follows .mixedOrders = true ∧ chkDs ops D eff [] its = true ∧ chkDeps ops D = true ∧ (List.range ops.size).all (fun i => its.any (·.1 == i)) = true then some ((mkDs D eff [] its).map (·.2)) else none

theorem mem_mkDs {D : Nat → List Nat} {eff : Nat → Bool} : ∀ {r pre : List (Nat × AOper)} {x : It}, x ∈ mkDs D eff pre r → (x.1, x.2.o) ∈ r ∧ x.2.eff = eff x.1 ∧
    ∀ y ∈ pre, eff x.1 = true → eff y.1 = false → y.2.op.pure' = false → y.1 ∉ D x.1 → y.2 ∈ x.2.opens := by
  intro r
  induction r with
  | nil => intro pre x h; cases h
  | cons jo r ih =>
    intro pre x h
    obtain ⟨j, o⟩ := jo
    rcases List.mem_cons.1 h with rfl | h
    · refine ⟨by simp, rfl, fun y hy he hne hp hD => ?_⟩
      have he' : eff j = true := he
      show y.2 ∈ (if eff j = true then _ else _)
      rw [if_pos he']
      exact List.mem_map.2 ⟨y, List.mem_filter.2 ⟨hy, by simpa [hne, hp] using hD⟩, rfl⟩
    · obtain ⟨h1, h2, h3⟩ := ih h
      exact ⟨List.mem_cons_of_mem _ h1, h2, fun y hy => h3 y (List.mem_cons_of_mem _ hy)⟩

theorem mkDs_fst {D : Nat → List Nat} {eff : Nat → Bool} : ∀ {r pre : List (Nat × AOper)} {y : Nat × AOper}, y ∈ r → ∃ d, (y.1, d) ∈ mkDs D eff pre r := by
  intro r
  induction r with
  | nil => intro pre y h; cases h
  | cons jo r ih =>
    intro pre y h
    obtain ⟨j, o⟩ := jo
    rcases List.mem_cons.1 h with rfl | h
    · exact ⟨_, List.mem_cons_self⟩
    · obtain ⟨d, hd⟩ := ih (pre := (j, o) :: pre) h
      exact ⟨d, List.mem_cons_of_mem _ hd⟩

/-- the check read -/
theorem chkDs_ok {ops : Array Oper} {D : Nat → List Nat} {eff : Nat → Bool} : ∀ {r pre : List (Nat × AOper)}, chkDs ops D eff pre r = true →
    (mkDs D eff pre r).Pairwise (PairOk D) ∧ (∀ x ∈ mkDs D eff pre r, SelfOk x ∧ ∀ y ∈ pre, pairChk D eff y (x.1, x.2.o) = true) := by
  intro r
  induction r with
  | nil => intro pre _; exact ⟨List.Pairwise.nil, fun x h => by cases h⟩
  | cons jo r ih =>
    intro pre h
    obtain ⟨j, o⟩ := jo
    simp only [chkDs, Bool.and_eq_true] at h
    obtain ⟨⟨⟨⟨h1, h2⟩, h3⟩, h4⟩, h5⟩ := h
    obtain ⟨i1, i2⟩ := ih h5
    refine ⟨List.pairwise_cons.2 ⟨fun y hy => ?_, i1⟩, fun x hx => ?_⟩
    · have hc := (i2 y hy).2 (j, o) (by simp)
      obtain ⟨m1, m2, m3⟩ := mem_mkDs hy
      simp only [pairChk, Bool.and_eq_true] at hc
      obtain ⟨⟨⟨c0, c1⟩, c2⟩, c3⟩ := hc
      refine ⟨by simpa using c0, fun he => ?_, fun d hd => ?_, fun d hd => ?_, fun d hd hl => ?_, fun he hn => ?_⟩
      · have he' : eff j = true := he
        simpa [he'] using c1
      · have hd' : o.dst = some d := hd
        rw [hd'] at c2
        simp only [Bool.and_eq_true] at c2
        simpa using c2.1
      · rw [hd] at c3
        simpa using c3
      · have hd' : o.dst = some d := hd
        rw [hd'] at c2
        simp only [Bool.and_eq_true] at c2
        have : y.2.o.looks.contains d = true := by simpa using hl
        have h5 := c2.2
        rw [this] at h5
        simpa using h5
      · have hn' : eff j = false := hn
        rw [m2] at he
        by_cases hD : j ∈ D y.1
        · exact .inl hD
        · by_cases hp : o.op.pure' = true
          · exact .inr (.inl hp)
          · refine .inr (.inr ⟨m3 (j, o) (by simp) he hn' (by simpa using hp) hD, fun _ => ?_⟩)
            exact List.any_eq_true.2 ⟨(y.1, y.2.o), m1, by simpa [he] using hD⟩
    · rcases List.mem_cons.1 hx with rfl | hx
      · refine ⟨⟨fun d hd => ?_, fun he => ?_⟩, fun y hy => List.all_eq_true.1 h4 y hy⟩
        · have hd' : o.dst = some d := hd
          rw [hd'] at h2
          simpa using h2
        · have he' : eff j = false := he
          have : (o.op.pure' = true ∨ o.op.reads = true) ∨ o.op.isCall = true := by simpa [he'] using h3
          rcases this with (h | h) | h
          · exact .inl h
          · exact .inr (.inl h)
          · exact .inr (.inr h)
      · exact ⟨(i2 x hx).1, fun y hy => (i2 x hx).2 y (List.mem_cons_of_mem _ hy)⟩

theorem chkDs_edge {ops : Array Oper} {D : Nat → List Nat} {eff : Nat → Bool} : ∀ {r pre : List (Nat × AOper)}, chkDs ops D eff pre r = true →
    ∀ a x b, mkDs D eff pre r = a ++ x :: b → ∀ e ∈ edges ops x.1, (∃ y ∈ pre, y.1 = e) ∨ ∃ y ∈ a, y.1 = e := by
  intro r
  induction r with
  | nil => intro pre _ a x b h; simp [mkDs] at h
  | cons jo r ih =>
    intro pre h a x b hab e he
    obtain ⟨j, o⟩ := jo
    simp only [chkDs, Bool.and_eq_true] at h
    obtain ⟨⟨⟨⟨h1, h2⟩, h3⟩, h4⟩, h5⟩ := h
    cases a with
    | nil =>
      simp only [mkDs, List.nil_append, List.cons.injEq] at hab
      obtain ⟨rfl, _⟩ := hab
      have := List.all_eq_true.1 h1 e he
      obtain ⟨y, hy, hye⟩ := List.any_eq_true.1 this
      exact .inl ⟨y, hy, by simpa using hye⟩
    | cons a0 a =>
      simp only [mkDs, List.cons_append, List.cons.injEq] at hab
      obtain ⟨rfl, hab⟩ := hab
      rcases ih h5 a x b hab e he with ⟨y, hy, hye⟩ | ⟨y, hy, hye⟩
      · rcases List.mem_cons.1 hy with rfl | hy
        · exact .inr ⟨_, List.mem_cons_self, hye⟩
        · exact .inl ⟨y, hy, hye⟩
      · exact .inr ⟨y, List.mem_cons_of_mem _ hy, hye⟩

theorem mem_edges {ops : Array Oper} {i k : Nat} {o : Oper} (ho : ops[i]? = some o) : k ∈ edges ops i ↔ ∃ e ∈ o.after, Region.binds .any e = true ∧ e.on = k := by
  simp only [edges, ho, List.mem_map, List.mem_filter, Array.mem_toList_iff]
  constructor
  · rintro ⟨e, ⟨h1, h2⟩, h3⟩; exact ⟨e, h1, h2, h3⟩
  · rintro ⟨e, h1, h2, h3⟩; exact ⟨e, ⟨h1, h2⟩, h3⟩

theorem mem_mapM {α β : Type} {f : α → Option β} : ∀ {l : List α} {l' : List β}, l.mapM f = some l' → ∀ y ∈ l', ∃ x ∈ l, f x = some y := by
  intro l
  induction l with
  | nil => intro l' h y hy; simp at h; subst h; cases hy
  | cons x l ih =>
    intro l' h y hy
    simp only [List.mapM_cons, bind, Option.bind_eq_some_iff] at h
    obtain ⟨z, hz, l'', hl, h⟩ := h
    cases h
    rcases List.mem_cons.1 hy with rfl | hy
    · exact ⟨x, by simp, hz⟩
    · obtain ⟨u, hu, hf⟩ := ih hl y hy; exact ⟨u, by simp [hu], hf⟩

theorem compDraw_ok {ops : Array Oper} {dl : List DOper} (h : compDraw P ops = some dl) : P.follows .mixedOrders = true ∧ ∃ D ds, ds.map (·.2) = dl ∧ DrawOk P ops D ds := by
  unfold compDraw at h
  obtain ⟨tab, h1, h⟩ := bind_some h
  obtain ⟨its, h2, h⟩ := bind_some h
  split at h
  · rename_i hc
    obtain ⟨c1, c2, c3, c4⟩ := hc
    cases h
    generalize hD : (fun i => (depsTab ops).getD i []) = D at *
    generalize (fun i : Nat => match tab[i]? with
      | some (_, o) => effOf tab D i o
      | none => false) = eff at *
    obtain ⟨k1, k2⟩ := chkDs_ok c2
    refine ⟨c1, D, _, rfl, ⟨fun x hx => ?_, fun i hi => ?_, k1, fun x hx => (k2 x hx).1, fun pre x post hds o ho e he hb => ?_, fun i o ho k hk => ?_⟩⟩
    · obtain ⟨m1, _, _⟩ := mem_mkDs hx
      obtain ⟨i, hi, hf⟩ := mem_mapM h2 _ m1
      simp only [Option.bind_eq_some_iff, Option.map_eq_some_iff] at hf
      obtain ⟨o, ho, ao, hao, e⟩ := hf
      simp only [Prod.mk.injEq] at e
      obtain ⟨rfl, rfl⟩ := e
      exact ⟨o, ho, hao⟩
    · have := List.all_eq_true.1 c4 i (List.mem_range.2 hi)
      obtain ⟨y, hy, hye⟩ := List.any_eq_true.1 this
      obtain ⟨d, hd⟩ := mkDs_fst (D := D) (eff := eff) (pre := []) hy
      have : y.1 = i := by simpa using hye
      exact ⟨d, this ▸ hd⟩
    · rcases chkDs_edge c2 pre x post hds e.on ((mem_edges ho).2 ⟨e, he, hb, rfl⟩) with ⟨y, hy, _⟩ | h
      · cases hy
      · exact h
    · have hi : i < ops.size := (Array.getElem?_eq_some_iff.1 ho).1
      have := List.all_eq_true.1 (List.all_eq_true.1 c3 i (List.mem_range.2 hi)) k hk
      obtain ⟨e, he, hek⟩ := List.any_eq_true.1 this
      obtain ⟨e', he', hb, rfl⟩ := (mem_edges ho).1 he
      refine ⟨e', he', hb, ?_⟩
      simp only [Bool.or_eq_true, beq_iff_eq, List.contains_iff_mem] at hek
      rcases hek with h | h
      · exact .inl h.symm
      · exact .inr h
  · cases h

/-! ### code -/

def compCode (P : Program) : Code → Option ACode
  | .skip => some .skip
  | .region _ ops false => ((List.range ops.size).mapM fun i => (ops[i]?).bind (compOper P ops)).map .region
  | .region _ ops true => (compDraw P ops).map .draw
  | .seq a b => (compCode P a).bind fun x => (compCode P b).map (.seq x)
  | .cond c a b => (cArg c).bind fun c => (compCode P a).bind fun x => (compCode P b).map (.cond c x)
  | .block id c => (compCode P c).map (.block id)
  | .loop c => (compCode P c).map .loop
  | .rangeFunc f ps a b => (cArg f).bind fun f => (compCode P a).bind fun x => (compCode P b).map (.range f ps.toList x)
  | .exit id => some (.exit id)
  | .scope c => (compCode P c).map .scope
  | .label l => some (.label l)
  | .goto l => some (.goto l)
  | .ret => some .ret
  | .refuse _ => none

theorem WC_region {ro : Option Nat} {Q : Exit → AAct → AState → Prop} {aa : AAct} {s : AState} {id : Nat} {ops : Array Oper} {aops : List AOper} {cmp : Code → Option ACode}
    (hc : (List.range ops.size).mapM (fun i => (ops[i]?).bind (compOper P ops)) = some aops) (h : AOps cmp P aops (fun t s => Q .normal { t := t, d := aa.d } s) aa.t s) : WC cmp P ro (.region id ops false) Q aa s :=
  fun c w a hr ha hl => wpIn_region (ops_ok hl aa.d _ aops hc aa.t s h c w a (.refl c s w) hr ha)

theorem replicate_no (n i : Nat) : ¬ (Array.replicate n false).getD i false = true := by
  by_cases h : i < n <;> simp [h]

theorem foldl_replicate_getD (n i : Nat) : (Array.replicate n false).getD i true = false ↔ i < n := by
  by_cases h : i < n
  · simp [h]
  · simp [h]

theorem WC_draw {ro : Option Nat} {Q : Exit → AAct → AState → Prop} {aa : AAct} {s : AState} {id : Nat} {ops : Array Oper} {dl : List DOper} {cmp : Code → Option ACode}
    (hc : compDraw P ops = some dl) (h : DWalk cmp P dl (fun t s => Q .normal { t := t, d := aa.d } s) aa.t s) : WC cmp P ro (.region id ops true) Q aa s := by
  intro c w a hr ha hl
  obtain ⟨hm, D, ds, rfl, hd⟩ := compDraw_ok hc
  refine wpIn_region_any hm ?_
  obtain ⟨r1, x1⟩ := hr.heap_eq (w' := { w with drawn := w.drawn + 1 }) rfl ⟨rfl, rfl, rfl⟩
  obtain ⟨mid, r', T', e1, e2, e3, e4, e5, e6, e7⟩ := DWalk_norm ds aa.t [] hd.self hd.pair (fun x hx => by cases hx) (fun x hx => by cases hx) h
  have hnd : ds.Pairwise (fun x y => x.1 ≠ y.1) := hd.pair.imp (fun h => h.p0)
  have hmem : ∀ i, i < ops.size ↔ ∃ x ∈ ds, x.1 = i := fun i => ⟨fun hi => by obtain ⟨d, h⟩ := hd.all i hi; exact ⟨_, h, rfl⟩, fun ⟨x, hx, e⟩ => by
    obtain ⟨o, ho, _⟩ := hd.item x hx
    rw [← e]; exact (Array.getElem?_eq_some_iff.1 ho).1⟩
  have hlen : ds.length = ops.size := by
    have hnd' : (ds.map (·.1)).Nodup := List.pairwise_map.2 hnd
    have hp : (ds.map (·.1)).Perm (List.range ops.size) := (List.perm_ext_iff_of_nodup hnd' List.nodup_range).2 fun i => by
      rw [List.mem_range, hmem i]; simp [List.mem_map]
    have := hp.length_eq
    simpa using this
  have hds : mid ++ r' = ds := e1.symm
  have hblur : RL c (blur (dsts (mid ++ r')) T') a.tmps.toList := by
    refine ⟨by have := ha.t.1; simpa [e4] using this, fun j hj => ?_⟩
    have hj' : j < T'.length := by simpa using hj
    have e1' := getD_blur (dsts (mid ++ r')) T' j
    rw [List.getD_eq_getElem?_getD, List.getElem?_eq_getElem hj, Option.getD_some] at e1'
    rw [e1']
    split
    · exact .any _
    · rename_i hu
      rw [e5 j (fun hm' => hu (by obtain ⟨k, hk, hkd⟩ := mem_dsts.1 hm'; exact mem_dsts.2 ⟨k, by simp [hk], hkd⟩))]
      exact ha.t.get j
  refine draw_any (cmp := cmp) (ro := ro) (c0 := c) (s0 := s) (w0 := w) (dl := aa.d) hd hl ops.size (Array.replicate ops.size false) mid r' mid T' s c _ a ?_ ?_ e1 (fun x hx => hx) (hds ▸ hnd) e2 e3 (by simpa using e6) e7 x1 r1 hblur ha.d ha.dn
  · rw [hds]
    refine ⟨fun i => by rw [foldl_replicate_getD, hmem], fun i => ?_, fun i hi => ?_⟩
    · constructor
      · intro hi
        exact absurd hi (replicate_no _ _)
      · rintro ⟨h1, h2⟩
        obtain ⟨x, hx, e⟩ := (hmem i).1 h1
        exact absurd e (h2 x hx)
    · exact absurd hi (replicate_no _ _)
  · rw [hds]; exact hlen

end Go.Ab
