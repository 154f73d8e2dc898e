/- The structs of the program: as Lean structures, as abstract values; facts for the walks. -/
import Derived.Test.YtconffokcoipjaaD2
namespace Go.Ab
open Go.RowKit Go.Proofs
set_option linter.unusedVariables false
set_option linter.unusedSimpArgs false

@[simp] theorem strEq_self (a : ByteArray) : strEq a a = true := (strEq_iff a a).2 rfl
theorem strEq_dec (a b : ByteArray) : strEq a b = decide (a = b) := by
  by_cases h : a = b
  · subst h; simp
  · have : ¬ strEq a b = true := fun e => h ((strEq_iff a b).1 e)
    simp [h, this]

@[simp] theorem cells_v (x : Value) : (AV.v x).cells = [.v x] := rfl
@[simp] theorem shape_v (x : Value) : (AV.v x).shape = x.oneCell' := rfl
@[simp] theorem one_v (x : Value) : (AV.v x).one = x.oneCell' := rfl
@[simp] theorem strip_v (x : Value) : (AV.v x).strip = .v x := rfl
@[simp] theorem strip1_v (x : Value) : (AV.v x).strip1 = .v x := rfl
@[simp] theorem cells_p (b o : Nat) : (AV.p b o).cells = [.p b o] := rfl
@[simp] theorem shape_p (b o : Nat) : (AV.p b o).shape = true := rfl
@[simp] theorem one_p (b o : Nat) : (AV.p b o).one = true := rfl
@[simp] theorem strip_p (b o : Nat) : (AV.p b o).strip = .p b o := rfl
@[simp] theorem strip1_p (b o : Nat) : (AV.p b o).strip1 = .p b o := rfl
@[simp] theorem cells_q (cs : List AV) (o : Nat) : (AV.q cs o).cells = [.q cs o] := rfl
@[simp] theorem shape_q (cs : List AV) (o : Nat) : (AV.q cs o).shape = true := rfl
@[simp] theorem one_q (cs : List AV) (o : Nat) : (AV.q cs o).one = true := rfl
@[simp] theorem strip_q (cs : List AV) (o : Nat) : (AV.q cs o).strip = .q cs o := rfl
@[simp] theorem strip1_q (cs : List AV) (o : Nat) : (AV.q cs o).strip1 = .q cs o := rfl
@[simp] theorem cells_sl (xs : List AV) (t : Tok) : (AV.sl xs t).cells = [.sl xs t] := rfl
@[simp] theorem shape_sl (xs : List AV) (t : Tok) : (AV.sl xs t).shape = true := rfl
@[simp] theorem one_sl (xs : List AV) (t : Tok) : (AV.sl xs t).one = true := rfl
@[simp] theorem strip_sl (xs : List AV) (t : Tok) : (AV.sl xs t).strip = .sl xs .no := rfl
@[simp] theorem strip1_sl (xs : List AV) (t : Tok) : (AV.sl xs t).strip1 = .sl xs .no := rfl
@[simp] theorem cells_ms (b o l : Nat) : (AV.ms b o l).cells = [.ms b o l] := rfl
@[simp] theorem shape_ms (b o l : Nat) : (AV.ms b o l).shape = true := rfl
@[simp] theorem one_ms (b o l : Nat) : (AV.ms b o l).one = true := rfl
@[simp] theorem strip_ms (b o l : Nat) : (AV.ms b o l).strip = .ms b o l := rfl
@[simp] theorem strip1_ms (b o l : Nat) : (AV.ms b o l).strip1 = .ms b o l := rfl
@[simp] theorem cells_m (b : Nat) : (AV.m b).cells = [.m b] := rfl
@[simp] theorem shape_m (b : Nat) : (AV.m b).shape = true := rfl
@[simp] theorem one_m (b : Nat) : (AV.m b).one = true := rfl
@[simp] theorem strip_m (b : Nat) : (AV.m b).strip = .m b := rfl
@[simp] theorem strip1_m (b : Nat) : (AV.m b).strip1 = .m b := rfl
@[simp] theorem cells_f (fn : Fn) (fs cs : List AV) : (AV.f fn fs cs).cells = [.f fn fs cs] := rfl
@[simp] theorem shape_f (fn : Fn) (fs cs : List AV) : (AV.f fn fs cs).shape = true := rfl
@[simp] theorem one_f (fn : Fn) (fs cs : List AV) : (AV.f fn fs cs).one = true := rfl
@[simp] theorem strip_f (fn : Fn) (fs cs : List AV) : (AV.f fn fs cs).strip = .f fn fs cs := rfl
@[simp] theorem strip1_f (fn : Fn) (fs cs : List AV) : (AV.f fn fs cs).strip1 = .f fn fs cs := rfl
@[simp] theorem cells_y (l : Nat) : (AV.y l).cells = [.y l] := rfl
@[simp] theorem shape_y (l : Nat) : (AV.y l).shape = true := rfl
@[simp] theorem one_y (l : Nat) : (AV.y l).one = true := rfl
@[simp] theorem strip_y (l : Nat) : (AV.y l).strip = .y l := rfl
@[simp] theorem strip1_y (l : Nat) : (AV.y l).strip1 = .y l := rfl
@[simp] theorem eqAV_agg (ks : List SKd) (xs ys : List AV) : eqAV (.agg ks) (.agg xs) (.agg ys) = cellsEq ks xs ys := rfl
@[simp] theorem eqAV_bool (a b : Bool) : eqAV .bool (.v (.bool a)) (.v (.bool b)) = some (a == b) := rfl
@[simp] theorem eqAV_nn : eqAV .ptr (.v (.pointer none)) (.v (.pointer none)) = some true := rfl
@[simp] theorem eqAV_np (b o : Nat) : eqAV .ptr (.v (.pointer none)) (.p b o) = some false := rfl
@[simp] theorem eqAV_pn (b o : Nat) : eqAV .ptr (.p b o) (.v (.pointer none)) = some false := rfl
@[simp] theorem litEq_i (k : IntKind) (a b : Int) : litEq .i (.int k a) (.int k b) = some (a == b) := by simp [litEq]
@[simp] theorem litEq_b (a b : Bool) : litEq .b (.bool a) (.bool b) = some (a == b) := rfl
@[simp] theorem litEq_s (a b : ByteArray) : litEq .s (.string a) (.string b) = some (decide (a = b)) := by simp [litEq, strEq_dec]
@[simp] theorem headK_nil (k : Nat) : headK k [] = true := rfl
@[simp] theorem headK_cons (k : Nat) (x : AV) (xs : List AV) : headK k (x :: xs) = (x.cells.length == k) := rfl
@[simp] theorem cells_agg (cs : List AV) : (AV.agg cs).cells = cs := rfl
@[simp] theorem shape_agg (cs : List AV) : (AV.agg cs).shape = true := rfl
@[simp] theorem strip_agg (cs : List AV) : (AV.agg cs).strip = .agg (cs.map AV.strip1) := rfl

/-- abstract values that are aggregates of k cells, of one each, which no leave hangs on -/
structure Row (k : Nat) (x : AV) : Prop where
  len : x.cells.length = k
  one : x.cells.all AV.one = true
  strip : x.strip = x
  shape : x.shape = true
  flat : Flat x
theorem Row.ok {k : Nat} {x : AV} (h : Row k x) : okRow k x = true := by simp only [okRow, h.len, h.one]; simp

section
variable {α : Type} {k : Nat} {f : α → AV}
theorem head_map (h : ∀ a, Row k (f a)) (l : List α) : headK k (l.map f) = true := by cases l <;> simp only [headK, List.map_nil, List.map_cons, (h _).len]; simp
theorem ok_map (h : ∀ a, Row k (f a)) (l : List α) : (l.map f).all (okRow k) = true := by
  rw [List.all_eq_true]; intro x hx; obtain ⟨a, _, rfl⟩ := List.mem_map.1 hx; exact (h a).ok
theorem strip_map (h : ∀ a, Row k (f a)) (l : List α) : (l.map f).map AV.strip = l.map f := by
  rw [List.map_map]; exact List.map_congr_left fun a _ => (h a).strip
theorem flat_sl (h : ∀ a, Row k (f a)) (l : List α) : Flat (.sl (l.map f) .no) := by
  refine .sl (fun x hx y hy => ?_) (fun k => by simp)
  obtain ⟨a, _, rfl⟩ := List.mem_map.1 hx
  intro n
  have := (h a).flat n
  cases e : f a <;> rw [e] at this hy <;> simp only [AV.cells, List.mem_cons, List.not_mem_nil, or_false] at hy <;> first | (subst hy; exact this) | skip
  rename_i cs
  cases this with | agg _ h => exact h _ hy
theorem flat_sl0 (h : ∀ a, Row k (f a)) (l : List α) : Flat (.sl (l.map f) .zero) := by
  intro n
  cases flat_sl h l n with | sl _ _ h _ => exact .sl _ _ h (fun k e => by cases e)
end

theorem Row.int (q : IntKind) (n : Int) : Row 1 (.v (.int q n)) := ⟨rfl, rfl, rfl, rfl, .v _⟩
theorem Row.bool (b : Bool) : Row 1 (.v (.bool b)) := ⟨rfl, rfl, rfl, rfl, .v _⟩
theorem Row.str (b : ByteArray) : Row 1 (.v (.string b)) := ⟨rfl, rfl, rfl, rfl, .v _⟩
theorem Row.sl {α : Type} {k : Nat} {f : α → AV} (h : ∀ a, Row k (f a)) (l : List α) : Row 1 (.sl (l.map f) .no) := ⟨rfl, rfl, rfl, rfl, flat_sl h l⟩

/-- an entry -/
@[ext] structure Ent where
  ix : Int
  tm : Int
  da : ByteArray
  deriving DecidableEq, Inhabited
def Ent.cells (x : Ent) : List AV := [.v (.int .i64 x.ix), .v (.int .i64 x.tm), .v (.string x.da)]
def Ent.av (x : Ent) : AV := .agg x.cells
theorem Ent.row (x : Ent) : Row 3 x.av := ⟨rfl, rfl, rfl, rfl, .agg (by
  intro y hy
  simp only [Ent.cells, List.mem_cons, List.not_mem_nil, or_false] at hy
  rcases hy with rfl | rfl | rfl
  · exact .v _
  · exact .v _
  · exact .v _
  )⟩
theorem Ent.le_of {cs : List AV} {x : Ent} (h : cs = x.cells) : (AV.agg cs).le x.av := by subst h; exact AV.le.refl _
section
variable (x y : Ent) (k : Nat)
@[simp] theorem Ent.s1 : x.av.strip = x.av := rfl
@[simp] theorem Ent.s2 : x.av.cells = x.cells := rfl
@[simp] theorem Ent.s3 : x.av.shape = true := rfl
@[simp] theorem Ent.s4 : x.cells.length = 3 := rfl
@[simp] theorem Ent.s5 : x.cells.take 3 = x.cells := rfl
@[simp] theorem Ent.s6 : AV.agg x.cells = x.av := rfl
@[simp] theorem Ent.s7 : x.cells.drop (k + 1) = List.drop k [.v (.int .i64 x.tm), .v (.string x.da)] := rfl
@[simp low] theorem Ent.s17 : x.cells.take k = List.take k [.v (.int .i64 x.ix), .v (.int .i64 x.tm), .v (.string x.da)] := rfl
@[simp] theorem Ent.s16 : x.cells.tail = [.v (.int .i64 x.tm), .v (.string x.da)] := rfl
@[simp] theorem Ent.s8 : x.cells[k]? = [.v (.int .i64 x.ix), .v (.int .i64 x.tm), .v (.string x.da)][k]? := rfl
@[simp] theorem Ent.s9 : okRow 3 x.av = true := x.row.ok
@[simp] theorem Ent.s10 (l : List Ent) : (l.map Ent.av).all (okRow 3) = true := ok_map Ent.row l
@[simp] theorem Ent.s11 (l : List Ent) : headK 3 (l.map Ent.av) = true := head_map Ent.row l
@[simp] theorem Ent.s15 (l : List Ent) (i : Nat) : headK 3 ((l.map Ent.av).take i) = true := by rw [← List.map_take]; exact head_map Ent.row _
@[simp] theorem Ent.s12 (l : List Ent) : (l.map Ent.av).map AV.strip = l.map Ent.av := strip_map Ent.row l
@[simp] theorem Ent.s13 : AV.strip ∘ Ent.av = Ent.av := rfl
@[simp] theorem Ent.s14 : x.cells.all AV.one = true := rfl
@[simp] theorem Ent.eq : eqAV (.agg [.i, .i, .s]) x.av y.av = some (decide (x = y)) := by
  simp only [eqAV, Ent.av, Ent.cells, cellsEq, litEq, strEq_dec, if_true]
  congr 1
  rw [Bool.eq_iff_iff]; simp [Ent.ext_iff]
end

/-- a place -/
@[ext] structure Plc where
  sg : Int
  at_ : Int
  deriving DecidableEq, Inhabited
def Plc.cells (x : Plc) : List AV := [.v (.int .i64 x.sg), .v (.int .i64 x.at_)]
def Plc.av (x : Plc) : AV := .agg x.cells
theorem Plc.row (x : Plc) : Row 2 x.av := ⟨rfl, rfl, rfl, rfl, .agg (by
  intro y hy
  simp only [Plc.cells, List.mem_cons, List.not_mem_nil, or_false] at hy
  rcases hy with rfl | rfl
  · exact .v _
  · exact .v _
  )⟩
theorem Plc.le_of {cs : List AV} {x : Plc} (h : cs = x.cells) : (AV.agg cs).le x.av := by subst h; exact AV.le.refl _
section
variable (x y : Plc) (k : Nat)
@[simp] theorem Plc.s1 : x.av.strip = x.av := rfl
@[simp] theorem Plc.s2 : x.av.cells = x.cells := rfl
@[simp] theorem Plc.s3 : x.av.shape = true := rfl
@[simp] theorem Plc.s4 : x.cells.length = 2 := rfl
@[simp] theorem Plc.s5 : x.cells.take 2 = x.cells := rfl
@[simp] theorem Plc.s6 : AV.agg x.cells = x.av := rfl
@[simp] theorem Plc.s7 : x.cells.drop (k + 1) = List.drop k [.v (.int .i64 x.at_)] := rfl
@[simp low] theorem Plc.s17 : x.cells.take k = List.take k [.v (.int .i64 x.sg), .v (.int .i64 x.at_)] := rfl
@[simp] theorem Plc.s16 : x.cells.tail = [.v (.int .i64 x.at_)] := rfl
@[simp] theorem Plc.s8 : x.cells[k]? = [.v (.int .i64 x.sg), .v (.int .i64 x.at_)][k]? := rfl
@[simp] theorem Plc.s9 : okRow 2 x.av = true := x.row.ok
@[simp] theorem Plc.s10 (l : List Plc) : (l.map Plc.av).all (okRow 2) = true := ok_map Plc.row l
@[simp] theorem Plc.s11 (l : List Plc) : headK 2 (l.map Plc.av) = true := head_map Plc.row l
@[simp] theorem Plc.s15 (l : List Plc) (i : Nat) : headK 2 ((l.map Plc.av).take i) = true := by rw [← List.map_take]; exact head_map Plc.row _
@[simp] theorem Plc.s12 (l : List Plc) : (l.map Plc.av).map AV.strip = l.map Plc.av := strip_map Plc.row l
@[simp] theorem Plc.s13 : AV.strip ∘ Plc.av = Plc.av := rfl
@[simp] theorem Plc.s14 : x.cells.all AV.one = true := rfl
@[simp] theorem Plc.eq : eqAV (.agg [.i, .i]) x.av y.av = some (decide (x = y)) := by
  simp only [eqAV, Plc.av, Plc.cells, cellsEq, litEq, strEq_dec, if_true]
  congr 1
  rw [Bool.eq_iff_iff]; simp [Plc.ext_iff]
end

/-- a hard state -/
@[ext] structure Hrd where
  ht : Int
  hv : Int
  hc : Int
  deriving DecidableEq, Inhabited
def Hrd.cells (x : Hrd) : List AV := [.v (.int .i64 x.ht), .v (.int .i64 x.hv), .v (.int .i64 x.hc)]
def Hrd.av (x : Hrd) : AV := .agg x.cells
theorem Hrd.row (x : Hrd) : Row 3 x.av := ⟨rfl, rfl, rfl, rfl, .agg (by
  intro y hy
  simp only [Hrd.cells, List.mem_cons, List.not_mem_nil, or_false] at hy
  rcases hy with rfl | rfl | rfl
  · exact .v _
  · exact .v _
  · exact .v _
  )⟩
theorem Hrd.le_of {cs : List AV} {x : Hrd} (h : cs = x.cells) : (AV.agg cs).le x.av := by subst h; exact AV.le.refl _
section
variable (x y : Hrd) (k : Nat)
@[simp] theorem Hrd.s1 : x.av.strip = x.av := rfl
@[simp] theorem Hrd.s2 : x.av.cells = x.cells := rfl
@[simp] theorem Hrd.s3 : x.av.shape = true := rfl
@[simp] theorem Hrd.s4 : x.cells.length = 3 := rfl
@[simp] theorem Hrd.s5 : x.cells.take 3 = x.cells := rfl
@[simp] theorem Hrd.s6 : AV.agg x.cells = x.av := rfl
@[simp] theorem Hrd.s7 : x.cells.drop (k + 1) = List.drop k [.v (.int .i64 x.hv), .v (.int .i64 x.hc)] := rfl
@[simp low] theorem Hrd.s17 : x.cells.take k = List.take k [.v (.int .i64 x.ht), .v (.int .i64 x.hv), .v (.int .i64 x.hc)] := rfl
@[simp] theorem Hrd.s16 : x.cells.tail = [.v (.int .i64 x.hv), .v (.int .i64 x.hc)] := rfl
@[simp] theorem Hrd.s8 : x.cells[k]? = [.v (.int .i64 x.ht), .v (.int .i64 x.hv), .v (.int .i64 x.hc)][k]? := rfl
@[simp] theorem Hrd.s9 : okRow 3 x.av = true := x.row.ok
@[simp] theorem Hrd.s10 (l : List Hrd) : (l.map Hrd.av).all (okRow 3) = true := ok_map Hrd.row l
@[simp] theorem Hrd.s11 (l : List Hrd) : headK 3 (l.map Hrd.av) = true := head_map Hrd.row l
@[simp] theorem Hrd.s15 (l : List Hrd) (i : Nat) : headK 3 ((l.map Hrd.av).take i) = true := by rw [← List.map_take]; exact head_map Hrd.row _
@[simp] theorem Hrd.s12 (l : List Hrd) : (l.map Hrd.av).map AV.strip = l.map Hrd.av := strip_map Hrd.row l
@[simp] theorem Hrd.s13 : AV.strip ∘ Hrd.av = Hrd.av := rfl
@[simp] theorem Hrd.s14 : x.cells.all AV.one = true := rfl
@[simp] theorem Hrd.eq : eqAV (.agg [.i, .i, .i]) x.av y.av = some (decide (x = y)) := by
  simp only [eqAV, Hrd.av, Hrd.cells, cellsEq, litEq, strEq_dec, if_true]
  congr 1
  rw [Bool.eq_iff_iff]; simp [Hrd.ext_iff]
end

/-- a part -/
@[ext] structure Prt where
  gr : Int
  kd : Int
  es : List Ent
  ht : Int
  hv : Int
  hc : Int
  ix : Int
  tm : Int
  mr : Bool
  he : Bool
  deriving DecidableEq, Inhabited
def Prt.cells (x : Prt) : List AV := [.v (.int .i64 x.gr), .v (.int .i64 x.kd), .sl (x.es.map Ent.av) .no, .v (.int .i64 x.ht), .v (.int .i64 x.hv), .v (.int .i64 x.hc), .v (.int .i64 x.ix), .v (.int .i64 x.tm), .v (.bool x.mr), .v (.bool x.he)]
def Prt.av (x : Prt) : AV := .agg x.cells
theorem Prt.row (x : Prt) : Row 10 x.av := ⟨rfl, rfl, rfl, rfl, .agg (by
  intro y hy
  simp only [Prt.cells, List.mem_cons, List.not_mem_nil, or_false] at hy
  rcases hy with rfl | rfl | rfl | rfl | rfl | rfl | rfl | rfl | rfl | rfl
  · exact .v _
  · exact .v _
  · exact flat_sl Ent.row _
  · exact .v _
  · exact .v _
  · exact .v _
  · exact .v _
  · exact .v _
  · exact .v _
  · exact .v _
  )⟩
theorem Prt.le_of {cs : List AV} {x : Prt} (h : cs = x.cells) : (AV.agg cs).le x.av := by subst h; exact AV.le.refl _
section
variable (x y : Prt) (k : Nat)
@[simp] theorem Prt.s1 : x.av.strip = x.av := rfl
@[simp] theorem Prt.s2 : x.av.cells = x.cells := rfl
@[simp] theorem Prt.s3 : x.av.shape = true := rfl
@[simp] theorem Prt.s4 : x.cells.length = 10 := rfl
@[simp] theorem Prt.s5 : x.cells.take 10 = x.cells := rfl
@[simp] theorem Prt.s6 : AV.agg x.cells = x.av := rfl
@[simp] theorem Prt.s7 : x.cells.drop (k + 1) = List.drop k [.v (.int .i64 x.kd), .sl (x.es.map Ent.av) .no, .v (.int .i64 x.ht), .v (.int .i64 x.hv), .v (.int .i64 x.hc), .v (.int .i64 x.ix), .v (.int .i64 x.tm), .v (.bool x.mr), .v (.bool x.he)] := rfl
@[simp low] theorem Prt.s17 : x.cells.take k = List.take k [.v (.int .i64 x.gr), .v (.int .i64 x.kd), .sl (x.es.map Ent.av) .no, .v (.int .i64 x.ht), .v (.int .i64 x.hv), .v (.int .i64 x.hc), .v (.int .i64 x.ix), .v (.int .i64 x.tm), .v (.bool x.mr), .v (.bool x.he)] := rfl
@[simp] theorem Prt.s16 : x.cells.tail = [.v (.int .i64 x.kd), .sl (x.es.map Ent.av) .no, .v (.int .i64 x.ht), .v (.int .i64 x.hv), .v (.int .i64 x.hc), .v (.int .i64 x.ix), .v (.int .i64 x.tm), .v (.bool x.mr), .v (.bool x.he)] := rfl
@[simp] theorem Prt.s8 : x.cells[k]? = [.v (.int .i64 x.gr), .v (.int .i64 x.kd), .sl (x.es.map Ent.av) .no, .v (.int .i64 x.ht), .v (.int .i64 x.hv), .v (.int .i64 x.hc), .v (.int .i64 x.ix), .v (.int .i64 x.tm), .v (.bool x.mr), .v (.bool x.he)][k]? := rfl
@[simp] theorem Prt.s9 : okRow 10 x.av = true := x.row.ok
@[simp] theorem Prt.s10 (l : List Prt) : (l.map Prt.av).all (okRow 10) = true := ok_map Prt.row l
@[simp] theorem Prt.s11 (l : List Prt) : headK 10 (l.map Prt.av) = true := head_map Prt.row l
@[simp] theorem Prt.s15 (l : List Prt) (i : Nat) : headK 10 ((l.map Prt.av).take i) = true := by rw [← List.map_take]; exact head_map Prt.row _
@[simp] theorem Prt.s12 (l : List Prt) : (l.map Prt.av).map AV.strip = l.map Prt.av := strip_map Prt.row l
@[simp] theorem Prt.s13 : AV.strip ∘ Prt.av = Prt.av := rfl
@[simp] theorem Prt.s14 : x.cells.all AV.one = true := rfl
end

/-- a record -/
@[ext] structure Rec where
  sq : Int
  ps : List Prt
  deriving DecidableEq, Inhabited
def Rec.cells (x : Rec) : List AV := [.v (.int .i64 x.sq), .sl (x.ps.map Prt.av) .no]
def Rec.av (x : Rec) : AV := .agg x.cells
theorem Rec.row (x : Rec) : Row 2 x.av := ⟨rfl, rfl, rfl, rfl, .agg (by
  intro y hy
  simp only [Rec.cells, List.mem_cons, List.not_mem_nil, or_false] at hy
  rcases hy with rfl | rfl
  · exact .v _
  · exact flat_sl Prt.row _
  )⟩
theorem Rec.le_of {cs : List AV} {x : Rec} (h : cs = x.cells) : (AV.agg cs).le x.av := by subst h; exact AV.le.refl _
section
variable (x y : Rec) (k : Nat)
@[simp] theorem Rec.s1 : x.av.strip = x.av := rfl
@[simp] theorem Rec.s2 : x.av.cells = x.cells := rfl
@[simp] theorem Rec.s3 : x.av.shape = true := rfl
@[simp] theorem Rec.s4 : x.cells.length = 2 := rfl
@[simp] theorem Rec.s5 : x.cells.take 2 = x.cells := rfl
@[simp] theorem Rec.s6 : AV.agg x.cells = x.av := rfl
@[simp] theorem Rec.s7 : x.cells.drop (k + 1) = List.drop k [.sl (x.ps.map Prt.av) .no] := rfl
@[simp low] theorem Rec.s17 : x.cells.take k = List.take k [.v (.int .i64 x.sq), .sl (x.ps.map Prt.av) .no] := rfl
@[simp] theorem Rec.s16 : x.cells.tail = [.sl (x.ps.map Prt.av) .no] := rfl
@[simp] theorem Rec.s8 : x.cells[k]? = [.v (.int .i64 x.sq), .sl (x.ps.map Prt.av) .no][k]? := rfl
@[simp] theorem Rec.s9 : okRow 2 x.av = true := x.row.ok
@[simp] theorem Rec.s10 (l : List Rec) : (l.map Rec.av).all (okRow 2) = true := ok_map Rec.row l
@[simp] theorem Rec.s11 (l : List Rec) : headK 2 (l.map Rec.av) = true := head_map Rec.row l
@[simp] theorem Rec.s15 (l : List Rec) (i : Nat) : headK 2 ((l.map Rec.av).take i) = true := by rw [← List.map_take]; exact head_map Rec.row _
@[simp] theorem Rec.s12 (l : List Rec) : (l.map Rec.av).map AV.strip = l.map Rec.av := strip_map Rec.row l
@[simp] theorem Rec.s13 : AV.strip ∘ Rec.av = Rec.av := rfl
@[simp] theorem Rec.s14 : x.cells.all AV.one = true := rfl
end

/-- a record that was found, where -/
@[ext] structure Fnd where
  sq : Int
  ps : List Prt
  sg : Int
  at_ : Int
  deriving DecidableEq, Inhabited
def Fnd.cells (x : Fnd) : List AV := [.v (.int .i64 x.sq), .sl (x.ps.map Prt.av) .no, .v (.int .i64 x.sg), .v (.int .i64 x.at_)]
def Fnd.av (x : Fnd) : AV := .agg x.cells
theorem Fnd.row (x : Fnd) : Row 4 x.av := ⟨rfl, rfl, rfl, rfl, .agg (by
  intro y hy
  simp only [Fnd.cells, List.mem_cons, List.not_mem_nil, or_false] at hy
  rcases hy with rfl | rfl | rfl | rfl
  · exact .v _
  · exact flat_sl Prt.row _
  · exact .v _
  · exact .v _
  )⟩
theorem Fnd.le_of {cs : List AV} {x : Fnd} (h : cs = x.cells) : (AV.agg cs).le x.av := by subst h; exact AV.le.refl _
section
variable (x y : Fnd) (k : Nat)
@[simp] theorem Fnd.s1 : x.av.strip = x.av := rfl
@[simp] theorem Fnd.s2 : x.av.cells = x.cells := rfl
@[simp] theorem Fnd.s3 : x.av.shape = true := rfl
@[simp] theorem Fnd.s4 : x.cells.length = 4 := rfl
@[simp] theorem Fnd.s5 : x.cells.take 4 = x.cells := rfl
@[simp] theorem Fnd.s6 : AV.agg x.cells = x.av := rfl
@[simp] theorem Fnd.s7 : x.cells.drop (k + 1) = List.drop k [.sl (x.ps.map Prt.av) .no, .v (.int .i64 x.sg), .v (.int .i64 x.at_)] := rfl
@[simp low] theorem Fnd.s17 : x.cells.take k = List.take k [.v (.int .i64 x.sq), .sl (x.ps.map Prt.av) .no, .v (.int .i64 x.sg), .v (.int .i64 x.at_)] := rfl
@[simp] theorem Fnd.s16 : x.cells.tail = [.sl (x.ps.map Prt.av) .no, .v (.int .i64 x.sg), .v (.int .i64 x.at_)] := rfl
@[simp] theorem Fnd.s8 : x.cells[k]? = [.v (.int .i64 x.sq), .sl (x.ps.map Prt.av) .no, .v (.int .i64 x.sg), .v (.int .i64 x.at_)][k]? := rfl
@[simp] theorem Fnd.s9 : okRow 4 x.av = true := x.row.ok
@[simp] theorem Fnd.s10 (l : List Fnd) : (l.map Fnd.av).all (okRow 4) = true := ok_map Fnd.row l
@[simp] theorem Fnd.s11 (l : List Fnd) : headK 4 (l.map Fnd.av) = true := head_map Fnd.row l
@[simp] theorem Fnd.s15 (l : List Fnd) (i : Nat) : headK 4 ((l.map Fnd.av).take i) = true := by rw [← List.map_take]; exact head_map Fnd.row _
@[simp] theorem Fnd.s12 (l : List Fnd) : (l.map Fnd.av).map AV.strip = l.map Fnd.av := strip_map Fnd.row l
@[simp] theorem Fnd.s13 : AV.strip ∘ Fnd.av = Fnd.av := rfl
@[simp] theorem Fnd.s14 : x.cells.all AV.one = true := rfl
end

/-- a group -/
@[ext] structure Grp where
  id : Int
  fi : Int
  tm : Int
  ht : Int
  hv : Int
  hc : Int
  es : List Ent
  deriving DecidableEq, Inhabited
def Grp.cells (x : Grp) : List AV := [.v (.int .i64 x.id), .v (.int .i64 x.fi), .v (.int .i64 x.tm), .v (.int .i64 x.ht), .v (.int .i64 x.hv), .v (.int .i64 x.hc), .sl (x.es.map Ent.av) .no]
def Grp.av (x : Grp) : AV := .agg x.cells
theorem Grp.row (x : Grp) : Row 7 x.av := ⟨rfl, rfl, rfl, rfl, .agg (by
  intro y hy
  simp only [Grp.cells, List.mem_cons, List.not_mem_nil, or_false] at hy
  rcases hy with rfl | rfl | rfl | rfl | rfl | rfl | rfl
  · exact .v _
  · exact .v _
  · exact .v _
  · exact .v _
  · exact .v _
  · exact .v _
  · exact flat_sl Ent.row _
  )⟩
theorem Grp.le_of {cs : List AV} {x : Grp} (h : cs = x.cells) : (AV.agg cs).le x.av := by subst h; exact AV.le.refl _
section
variable (x y : Grp) (k : Nat)
@[simp] theorem Grp.s1 : x.av.strip = x.av := rfl
@[simp] theorem Grp.s2 : x.av.cells = x.cells := rfl
@[simp] theorem Grp.s3 : x.av.shape = true := rfl
@[simp] theorem Grp.s4 : x.cells.length = 7 := rfl
@[simp] theorem Grp.s5 : x.cells.take 7 = x.cells := rfl
@[simp] theorem Grp.s6 : AV.agg x.cells = x.av := rfl
@[simp] theorem Grp.s7 : x.cells.drop (k + 1) = List.drop k [.v (.int .i64 x.fi), .v (.int .i64 x.tm), .v (.int .i64 x.ht), .v (.int .i64 x.hv), .v (.int .i64 x.hc), .sl (x.es.map Ent.av) .no] := rfl
@[simp low] theorem Grp.s17 : x.cells.take k = List.take k [.v (.int .i64 x.id), .v (.int .i64 x.fi), .v (.int .i64 x.tm), .v (.int .i64 x.ht), .v (.int .i64 x.hv), .v (.int .i64 x.hc), .sl (x.es.map Ent.av) .no] := rfl
@[simp] theorem Grp.s16 : x.cells.tail = [.v (.int .i64 x.fi), .v (.int .i64 x.tm), .v (.int .i64 x.ht), .v (.int .i64 x.hv), .v (.int .i64 x.hc), .sl (x.es.map Ent.av) .no] := rfl
@[simp] theorem Grp.s8 : x.cells[k]? = [.v (.int .i64 x.id), .v (.int .i64 x.fi), .v (.int .i64 x.tm), .v (.int .i64 x.ht), .v (.int .i64 x.hv), .v (.int .i64 x.hc), .sl (x.es.map Ent.av) .no][k]? := rfl
@[simp] theorem Grp.s9 : okRow 7 x.av = true := x.row.ok
@[simp] theorem Grp.s10 (l : List Grp) : (l.map Grp.av).all (okRow 7) = true := ok_map Grp.row l
@[simp] theorem Grp.s11 (l : List Grp) : headK 7 (l.map Grp.av) = true := head_map Grp.row l
@[simp] theorem Grp.s15 (l : List Grp) (i : Nat) : headK 7 ((l.map Grp.av).take i) = true := by rw [← List.map_take]; exact head_map Grp.row _
@[simp] theorem Grp.s12 (l : List Grp) : (l.map Grp.av).map AV.strip = l.map Grp.av := strip_map Grp.row l
@[simp] theorem Grp.s13 : AV.strip ∘ Grp.av = Grp.av := rfl
@[simp] theorem Grp.s14 : x.cells.all AV.one = true := rfl
end

/-- a spot -/
@[ext] structure Spt where
  gr : Int
  ix : Int
  sg : Int
  at_ : Int
  deriving DecidableEq, Inhabited
def Spt.cells (x : Spt) : List AV := [.v (.int .i64 x.gr), .v (.int .i64 x.ix), .v (.int .i64 x.sg), .v (.int .i64 x.at_)]
def Spt.av (x : Spt) : AV := .agg x.cells
theorem Spt.row (x : Spt) : Row 4 x.av := ⟨rfl, rfl, rfl, rfl, .agg (by
  intro y hy
  simp only [Spt.cells, List.mem_cons, List.not_mem_nil, or_false] at hy
  rcases hy with rfl | rfl | rfl | rfl
  · exact .v _
  · exact .v _
  · exact .v _
  · exact .v _
  )⟩
theorem Spt.le_of {cs : List AV} {x : Spt} (h : cs = x.cells) : (AV.agg cs).le x.av := by subst h; exact AV.le.refl _
section
variable (x y : Spt) (k : Nat)
@[simp] theorem Spt.s1 : x.av.strip = x.av := rfl
@[simp] theorem Spt.s2 : x.av.cells = x.cells := rfl
@[simp] theorem Spt.s3 : x.av.shape = true := rfl
@[simp] theorem Spt.s4 : x.cells.length = 4 := rfl
@[simp] theorem Spt.s5 : x.cells.take 4 = x.cells := rfl
@[simp] theorem Spt.s6 : AV.agg x.cells = x.av := rfl
@[simp] theorem Spt.s7 : x.cells.drop (k + 1) = List.drop k [.v (.int .i64 x.ix), .v (.int .i64 x.sg), .v (.int .i64 x.at_)] := rfl
@[simp low] theorem Spt.s17 : x.cells.take k = List.take k [.v (.int .i64 x.gr), .v (.int .i64 x.ix), .v (.int .i64 x.sg), .v (.int .i64 x.at_)] := rfl
@[simp] theorem Spt.s16 : x.cells.tail = [.v (.int .i64 x.ix), .v (.int .i64 x.sg), .v (.int .i64 x.at_)] := rfl
@[simp] theorem Spt.s8 : x.cells[k]? = [.v (.int .i64 x.gr), .v (.int .i64 x.ix), .v (.int .i64 x.sg), .v (.int .i64 x.at_)][k]? := rfl
@[simp] theorem Spt.s9 : okRow 4 x.av = true := x.row.ok
@[simp] theorem Spt.s10 (l : List Spt) : (l.map Spt.av).all (okRow 4) = true := ok_map Spt.row l
@[simp] theorem Spt.s11 (l : List Spt) : headK 4 (l.map Spt.av) = true := head_map Spt.row l
@[simp] theorem Spt.s15 (l : List Spt) (i : Nat) : headK 4 ((l.map Spt.av).take i) = true := by rw [← List.map_take]; exact head_map Spt.row _
@[simp] theorem Spt.s12 (l : List Spt) : (l.map Spt.av).map AV.strip = l.map Spt.av := strip_map Spt.row l
@[simp] theorem Spt.s13 : AV.strip ∘ Spt.av = Spt.av := rfl
@[simp] theorem Spt.s14 : x.cells.all AV.one = true := rfl
@[simp] theorem Spt.eq : eqAV (.agg [.i, .i, .i, .i]) x.av y.av = some (decide (x = y)) := by
  simp only [eqAV, Spt.av, Spt.cells, cellsEq, litEq, strEq_dec, if_true]
  congr 1
  rw [Bool.eq_iff_iff]; simp [Spt.ext_iff]
end


attribute [simp] wrap_i64 strEq_dec get_alloc_eq get_alloc_ne set_alloc_eq set_alloc_lt get_set_eq get_set_ne' set_set get_allocs set_allocs n_allocs

end Go.Ab
