/- The operations carried out on abstract values ('exec'), and how the model's operations are compiled to them. -/
import Derived.Test.YtconffokcoipjaaA5
import Derived.Laws.Build
namespace Go.Ab
open Go.RowKit
set_option linter.unusedVariables false

/-- of one cell, for sure -/
def AV.one : AV → Bool
  | .v x => x.oneCell'
  | .agg _ | .tup _ | .any => false
  | _ => true
/-- whose cells are known to be its own -/
def AV.shape : AV → Bool
  | .agg _ => true
  | x => x.one
def AV.strip1 : AV → AV
  | .sl xs _ => .sl xs .no
  | x => x
/-- without leave to append -/
def AV.strip : AV → AV
  | .sl xs _ => .sl xs .no
  | .agg cs => .agg (cs.map AV.strip1)
  | x => x
def okRow (k : Nat) (y : AV) : Bool := y.cells.length == k && y.cells.all AV.one
def headK (k : Nat) : List AV → Bool
  | [] => true
  | x :: _ => x.cells.length == k

def AV.int? : AV → Option Int
  | .v (.int _ n) => some n
  | _ => none

/-- the cells of an object (or of an element that stays) from a place on -/
def cellsAt (s : AState) : AV → Option (List AV)
  | .p b off => match s.get b with
    | .cells cs => some (cs.drop off)
    | _ => none
  | .q cs off => some (cs.drop off)
  | _ => none

def litEq : SKd → Value → Value → Option Bool
  | .i, .int k a, .int k' b => if k = k' then some (a == b) else none
  | .b, .bool a, .bool b => some (a == b)
  | .s, .string a, .string b => some (strEq a b)
  | _, _, _ => none
def cellsEq : List SKd → List AV → List AV → Option Bool
  | [], [], [] => some true
  | k :: ks, .v a :: xs, .v b :: ys => match litEq k a b, cellsEq ks xs ys with
    | some r, some r' => some (r && r')
    | _, _ => none
  | _, _, _ => none
def eqAV : EK → AV → AV → Option Bool
  | .agg ks, .agg xs, .agg ys => cellsEq ks xs ys
  | .bool, .v (.bool a), .v (.bool b) => some (a == b)
  | .ptr, .v (.pointer none), .v (.pointer none) => some true
  | .ptr, .v (.pointer none), .p _ _ => some false
  | .ptr, .p _ _, .v (.pointer none) => some false
  | _, _, _ => none

def fillA (cells : List AV) : List (Nat × Nat × AV) → Option (List AV)
  | [] => some cells
  | (off, k, x) :: rest =>
    if x.shape = true ∧ x.cells.length = k ∧ off + k ≤ cells.length then fillA (cells.take off ++ x.cells ++ cells.drop (off + k)) rest else none

def bytesOf (s : ByteArray) : List AV := s.data.toList.map fun c => .v (.int .u8 c.toNat)
def numsOf : List AV → Option (List Int)
  | [] => some []
  | .v (.int .u8 n) :: r => (numsOf r).map (n :: ·)
  | _ => none

def keyEq : KK → AV → AV → Option Bool
  | .int, .v (.int k a), .v (.int k' b) => if k = k' then some (a == b) else none
  | .str, .v (.string a), .v (.string b) => some (strEq a b)
  | .agg2, .agg [.v (.int k a), .v (.int l b)], .agg [.v (.int k' a'), .v (.int l' b')] => if k = k' ∧ l = l' then some (a == a' && b == b') else none
  | _, _, _ => none
def findK (kk : KK) (key : AV) : List (AV × AV) → Nat → Option (Option Nat)
  | [], _ => some none
  | e :: es, i => match keyEq kk key e.1 with
    | some true => some (some i)
    | some false => findK kk key es (i + 1)
    | none => none
/-- a key that may be looked for (in an empty map, too) -/
def keyOk : KK → AV → Bool
  | .int, .v (.int _ _) => true
  | .str, .v (.string _) => true
  | .agg2, .agg [.v (.int _ _), .v (.int _ _)] => true
  | _, _ => false

def optInt (a : List AV) : Option Arg → Option (Option Int)
  | none => some none
  | some x => match x.ev a with
    | .v (.int _ n) => some (some n)
    | _ => none

def mmV (mx : Bool) (m : Int) : List AV → Option Int
  | [] => some m
  | .v (.int _ y) :: r => mmV mx (if mx then (if y > m then y else m) else (if y < m then y else m)) r
  | _ => none

def AOp.exec (a : List AV) (s : AState) : AOp → Option (AV × AState)
  | .mov x => some (x.ev a, s)
  | .pick c x y => match c.ev a with
    | .v (.bool b) => some (if b then x.ev a else y.ev a, s)
    | _ => none
  | .alloc z => some (.p s.n 0, s.alloc (.cells z))
  | .box x => if (x.ev a).shape = true then some (.p s.n 0, s.alloc (.cells (x.ev a).cells)) else none
  | .build z parts => (fillA z (parts.map fun (off, k, x) => (off, k, x.ev a))).map fun cs => (.agg cs, s)
  | .bsl k parts => if (parts.map (Arg.ev a)).all (okRow k) then some (.sl ((parts.map (Arg.ev a)).map AV.strip) .zero, s) else none
  | .load ag k x => match cellsAt s (x.ev a) with
    | some cs => if k ≤ cs.length then some (if ag then .agg (cs.take k) else cs.getD 0 .any, s) else none
    | none => none
  | .store k x y => match x.ev a with
    | .p b off => match s.get b with
      | .cells cs => if okRow k (y.ev a) = true ∧ off + k ≤ cs.length then some (.any, s.set b (.cells (cs.take off ++ (y.ev a).cells ++ cs.drop (off + k)))) else none
      | _ => none
    | _ => none
  | .nilck x => match x.ev a with
    | .p b o => some (.p b o, s)
    | .q cs o => some (.q cs o, s)
    | .y l => some (.y l, s)
    | .f (.func g) fs caps => some (.f (.func g) fs caps, s)
    | _ => none
  | .bin op x y => match x.ev a, y.ev a with
    | .v u, .v v => (binV op u v).map fun r => (.v r, s)
    | _, _ => none
  | .eqa neg ek x y => (eqAV ek (x.ev a) (y.ev a)).map fun b => (.v (.bool (if neg then !b else b)), s)
  | .un op x => match x.ev a with
    | .v u => (unV op u).map fun r => (.v r, s)
    | _ => none
  | .conv k x => match x.ev a with
    | .v (.int _ n) => some (.v (.int k (k.wrap n)), s)
    | _ => none
  | .s2b x => match x.ev a with
    | .v (.string b) => some (.sl (bytesOf b) .no, s)
    | _ => none
  | .b2s x => match x.ev a with
    | .sl xs _ => (numsOf xs).map fun l => (.v (.string (strOfNums l)), s)
    | .ms b off ln => match s.get b with
      | .cells cs => if off + ln ≤ cs.length then (numsOf ((cs.drop off).take ln)).map fun l => (.v (.string (strOfNums l)), s) else none
      | _ => none
    | _ => none
  | .mki t x => match x.ev a with
    | .v y => some (.v (.iface t y), s)
    | _ => none
  | .mkf fn fs caps => some (.f fn (fs.map (Arg.ev a)) (caps.map (Arg.ev a)), s)
  | .mkmap => some (.m s.n, s.alloc (.map []))
  | .mksl z bytes l => match x : l.ev a with
    | .v (.int _ n) => if 0 ≤ n ∧ n * bytes ≤ 140737488355328 ∧ n ≤ 4611686018427387904 then some (.ms s.n 0 n.toNat, s.alloc (.cells (List.replicate n.toNat z).flatten)) else none
    | _ => none
  | .slice sk x lo hi mx => match sk, x.ev a, optInt a lo, optInt a hi, optInt a mx with
    | .str, .v (.string b), some l, some h, some none =>
      let l := l.getD 0; let h := h.getD b.size
      if 0 ≤ l ∧ l ≤ h ∧ h ≤ b.size then some (.v (.string (b.extract l.toNat h.toNat)), s) else none
    | .sl k, .sl xs t, some l, some h', some m =>
      let l := l.getD 0; let h := h'.getD xs.length
      if 0 ≤ l ∧ l ≤ h ∧ h ≤ xs.length ∧ headK k xs = true then
        match m with
        | none => some (.sl ((xs.take h.toNat).drop l.toNat) .no, s)
        | some m => if m = h ∧ h'.isSome = true then some (.sl ((xs.take h.toNat).drop l.toNat) .zero, s) else none
      else none
    | .sl k, .ms b off ln, some l, some h, some none =>
      let l := l.getD 0; let h := h.getD ln
      if 0 ≤ l ∧ l < h ∧ h ≤ ln then some (.ms b (off + l.toNat * k) (h.toNat - l.toNat), s) else if 0 ≤ l ∧ l = h ∧ h ≤ ln then some (.sl [] .no, s) else none
    | .arr n k, .p b off, some l, some h, some none =>
      let l := l.getD 0; let h := h.getD n
      if 0 ≤ l ∧ l < h ∧ h ≤ n then some (.ms b (off + l.toNat * k) (h.toNat - l.toNat), s) else none
    | _, _, _, _, _ => none
  | .fld off x => match x.ev a with
    | .p b o => some (.p b (o + off), s)
    | .q cs o => some (.q cs (o + off), s)
    | _ => none
  | .field ag off k x => match x.ev a with
    | .agg cs => if off + k ≤ cs.length then some (if ag then .agg ((cs.drop off).take k) else cs.getD off .any, s) else none
    | _ => none
  | .idxp k x i => match x.ev a, (i.ev a).int? with
    | .sl xs _, some i => if h : 0 ≤ i ∧ i.toNat < xs.length then (if (xs[i.toNat]'h.2).cells.length = k then some (.q (xs[i.toNat]'h.2).cells 0, s) else none) else none
    | .ms b off ln, some i => if 0 ≤ i ∧ i.toNat < ln then some (.p b (off + i.toNat * k), s) else none
    | _, _ => none
  | .idxa n k x i => match x.ev a, (i.ev a).int? with
    | .p b off, some i => if 0 ≤ i ∧ i < n then some (.p b (off + i.toNat * k), s) else none
    | .q cs off, some i => if 0 ≤ i ∧ i < n then some (.q cs (off + i.toNat * k), s) else none
    | _, _ => none
  | .idxs x i => match x.ev a, (i.ev a).int? with
    | .v (.string b), some i => if 0 ≤ i ∧ i < b.size then some (.v (.int .u8 (b.data.toList.getD i.toNat 0).toNat), s) else none
    | _, _ => none
  | .idxv ag n k x i => match x.ev a, (i.ev a).int? with
    | .agg cs, some i => if 0 ≤ i ∧ i < n ∧ (i.toNat + 1) * k ≤ cs.length then some (if ag then .agg ((cs.drop (i.toNat * k)).take k) else cs.getD (i.toNat * k) .any, s) else none
    | _, _ => none
  | .lookup kk z ok m k => match m.ev a with
    | .m b => match s.get b with
      | .map es => if keyOk kk (k.ev a) = true then (match findK kk (k.ev a) es 0 with
        | some (some i) => some (if ok then .tup [(es.getD i (.any, .any)).2, .v (.bool true)] else (es.getD i (.any, .any)).2, s)
        | some none => some (if ok then .tup [z, .v (.bool false)] else z, s)
        | none => none) else none
      | _ => none
    | _ => none
  | .mapset kk m k x => match m.ev a with
    | .m b => match s.get b with
      | .map es => if keyOk kk (k.ev a) = true then (match findK kk (k.ev a) es 0 with
        | some (some i) => some (.any, s.set b (.map (es.set i (k.ev a, x.ev a))))
        | some none => some (.any, s.set b (.map (es ++ [(k.ev a, x.ev a)])))
        | none => none) else none
      | _ => none
    | _ => none
  | .mapdel kk m k => match m.ev a with
    | .m b => match s.get b with
      | .map es => if keyOk kk (k.ev a) = true then (match findK kk (k.ev a) es 0 with
        | some (some i) => some (.tup [], s.set b (.map (es.eraseIdx i)))
        | some none => some (.tup [], s)
        | none => none) else none
      | _ => none
    | _ => none
  | .extract i x => match x.ev a with
    | .tup vs => if i < vs.length then some (vs.getD i .any, s) else none
    | _ => none
  | .len lk x => match lk, x.ev a with
    | .str, .v (.string b) => some (.v (.int .i64 b.size), s)
    | .sl, .sl xs _ => some (.v (.int .i64 xs.length), s)
    | .sl, .ms _ _ ln => some (.v (.int .i64 ln), s)
    | .map, .m b => match s.get b with
      | .map es => some (.v (.int .i64 es.length), s)
      | _ => none
    | _, _ => none
  | .append k bytes x y => match x.ev a, y.ev a with
    | .sl xs t, .sl ys _ =>
      if ys.isEmpty then some (.sl xs t, s) else
      if headK k xs = true ∧ ys.all (okRow k) = true ∧ (xs.length + ys.length) * bytes ≤ 140737488355328 ∧ xs.length + ys.length ≤ 4611686018427387904 then
        match t with
        | .no => none
        | .zero => some (.sl (xs ++ ys.map AV.strip) (.own s.n), s.alloc .tok)
        | .own t => match s.get t with
          | .tok => if xs.isEmpty then none else some (.sl (xs ++ ys.map AV.strip) (.own s.n), (s.set t .dead).alloc .tok)
          | _ => none
      else none
    | _, _ => none
  | .mm mx xs => match (xs.map (Arg.ev a) : List AV) with
    | AV.v (.int k n) :: rest => (mmV mx n rest).map fun r => (.v (.int k r), s)
    | _ => none
  | .call _ _ => none

/-! ### Compiling -/

def kOf (P : Program) (t : TypeId) : Option Nat := (P.info? t).map (·.size)
def aggOf (P : Program) (t : TypeId) : Option Bool := (P.underlying t).map fun d => d matches .struct _ | .array _ _
def zeroOf (P : Program) (t : TypeId) : Option Value := (P.info? t).bind (·.zero)
def keyKind (P : Program) (t : TypeId) : Option KK :=
  match P.underlying t with
  | some (.int _) => some .int
  | some .string => some .str
  | some (.array 2 e) => match P.underlying e, kOf P e with
    | some (.int _), some 1 => some .agg2
    | _, _ => none
  | _ => none
def isU8 (P : Program) (t : TypeId) : Bool := match P.underlying t with | some (.int .u8) => true | _ => false
def cArgs (xs : Array Operand) : Option (List Arg) := xs.toList.mapM cArg
def cOpt : Option Operand → Option (Option Arg)
  | none => some none
  | some x => (cArg x).map some
/-- types on which '==' goes cell by cell: no interface, no float in it -/
def eqFlat (P : Program) : Nat → TypeId → Option (List SKd)
  | 0, _ => none
  | d + 1, t => match P.underlying t with
    | some (.int _) => if kOf P t = some 1 then some [.i] else none
    | some .bool => if kOf P t = some 1 then some [.b] else none
    | some .string => if kOf P t = some 1 then some [.s] else none
    | some (.struct fs) => if P.stoodInHeld t then none else
      fs.toList.foldlM (fun (acc : List SKd) (f : Field) => match eqFlat P d f.type with
        | some ks => if f.name ≠ "_" ∧ f.offset = acc.length ∧ kOf P f.type = some ks.length then some (acc ++ ks) else none
        | none => none) []
    | _ => none

def compOp (P : Program) (o : Oper) : Option AOp :=
  match o.op with
  | .move x | .assign x => do some (.mov (← cArg x))
  | .pick c x y => do some (.pick (← cArg c) (← cArg x) (← cArg y))
  | .alloc t => do some (.alloc ((← zeroOf P t).cells.toList.map ofCell))
  | .box _ x => do some (.box (← cArg x))
  | .build t parts => do
    let z ← zeroOf P t
    match ← P.underlying t with
    | .struct fs =>
      let ps ← parts.toList.mapM fun (i, x) => do let f ← fs[i]?; some (f.offset, ← kOf P f.type, ← cArg x)
      if (fs.toList.all fun f => (kOf P f.type).isSome) then some (.build (z.cells.toList.map ofCell) ps) else none
    | .array _ e =>
      let k ← kOf P e
      let ps ← parts.toList.mapM fun (i, x) => do some (i * k, k, ← cArg x)
      some (.build (z.cells.toList.map ofCell) ps)
    | _ => none
  | .buildSlice t len parts => do
    let .slice e ← P.underlying t | none
    let k ← kOf P e
    let z ← zeroOf P e
    if parts.toList.map (·.1) = List.range len ∧ len * k ≤ 16777216 ∧ z.cells.size = k then some (.bsl k (← parts.toList.mapM fun (_, x) => cArg x)) else none
  | .load t x => do
    let ag ← aggOf P t
    let k ← kOf P t
    if ag = true ∨ k = 1 then some (.load ag k (← cArg x)) else none
  | .store t x y => do some (.store (← kOf P t) (← cArg x) (← cArg y))
  | .nilCheck x => do some (.nilck (← cArg x))
  | .binOp op t x y _ => do
    let x ← cArg x
    let y ← cArg y
    match ← P.underlying t with
    | .int _ | .string => some (.bin op x y)
    | .bool => match op with
      | .eql => some (.eqa false .bool x y)
      | .neq => some (.eqa true .bool x y)
      | _ => none
    | .pointer _ => match op with
      | .eql => some (.eqa false .ptr x y)
      | .neq => some (.eqa true .ptr x y)
      | _ => none
    | .struct _ => do
      let k ← eqFlat P 10 t
      if !(P.eqGuardType P.depth t) then (match op with
      | .eql => some (.eqa false (.agg k) x y)
      | .neq => some (.eqa true (.agg k) x y)
      | _ => none) else none
    | _ => none
  | .unOp op _ x => do some (.un op (← cArg x))
  | .convert src dst x => do
    let x ← cArg x
    match ← P.underlying src, ← P.underlying dst with
    | .int _, .int k => some (.conv k x)
    | .string, .slice e => if isU8 P e ∧ kOf P e = some 1 then some (.s2b x) else none
    | .slice e, .string => if isU8 P e then some (.b2s x) else none
    | _, _ => none
  | .makeInterface t x => do if P.concrete t then some (.mki t (← cArg x)) else none
  | .makeFunc fn fs caps => do some (.mkf fn (← cArgs fs) (← cArgs caps))
  | .makeMap _ none => some .mkmap
  | .makeSlice t l c => do
    let .slice e ← P.underlying t | none
    let i ← P.info? e
    let z ← i.zero
    match l, c with
    | .tmp u, .tmp v => if u = v ∧ z.cells.size = i.size then some (.mksl (z.cells.toList.map ofCell) i.bytes (.t u)) else none
    | .const (.int k u), .const (.int l v) => if k = l ∧ u = v ∧ z.cells.size = i.size then some (.mksl (z.cells.toList.map ofCell) i.bytes (.c (.v (.int k u)))) else none
    | _, _ => none
  | .slice t x lo hi mx => do
    let x ← cArg x
    let lo ← cOpt lo
    let hi ← cOpt hi
    let mx ← cOpt mx
    match ← P.underlying t with
    | .string => some (.slice .str x lo hi mx)
    | .slice e => some (.slice (.sl (← kOf P e)) x lo hi mx)
    | .array n e => some (.slice (.arr n (← kOf P e)) x lo hi mx)
    | _ => none
  | .fieldAddr t x i => do
    let .struct fs ← P.underlying t | none
    let f ← fs[i]?
    let k ← kOf P f.type
    if k = 0 then none else some (.fld f.offset (← cArg x))
  | .field t x i => do
    let .struct fs ← P.underlying t | none
    let f ← fs[i]?
    let ag ← aggOf P f.type
    let k ← kOf P f.type
    if ag = true ∨ k = 1 then some (.field ag f.offset k (← cArg x)) else none
  | .indexAddr t x i => do
    match ← P.underlying t with
    | .slice e => some (.idxp (← kOf P e) (← cArg x) (← cArg i))
    | .array n e => some (.idxa n (← kOf P e) (← cArg x) (← cArg i))
    | _ => none
  | .index t x i => do
    match ← P.underlying t with
    | .string => some (.idxs (← cArg x) (← cArg i))
    | .array n e =>
      let ag ← aggOf P e
      let k ← kOf P e
      if ag = true ∨ k = 1 then some (.idxv ag n k (← cArg x) (← cArg i)) else none
    | _ => none
  | .lookup t m k ok => do
    let .map key e ← P.underlying t | none
    some (.lookup (← keyKind P key) (ofConst (← zeroOf P e)) ok (← cArg m) (← cArg k))
  | .mapUpdate t m k x | .insert t m k x => do
    let .map key _ ← P.underlying t | none
    some (.mapset (← keyKind P key) (← cArg m) (← cArg k) (← cArg x))
  | .extract x i => do some (.extract i (← cArg x))
  | .call c => do
    match c.callee with
    | .value f => some (.call (← cArg f) (← cArgs c.args))
    | .builtin .len => match c.args.toList, c.argTypes.toList with
      | [x], [t] => match ← P.underlying t with
        | .string => some (.len .str (← cArg x))
        | .slice _ => some (.len .sl (← cArg x))
        | .map _ _ => some (.len .map (← cArg x))
        | _ => none
      | _, _ => none
    | .builtin .append => match c.args.toList, c.argTypes.toList with
      | [x, y], [t, u] => do
        let .slice e ← P.underlying t | none
        let .slice _ ← P.underlying u | none
        let i ← P.info? e
        let z ← i.zero
        if z.cells.size = i.size ∧ 0 < i.size ∧ 0 < i.bytes ∧ t = u then some (.append i.size i.bytes (← cArg x) (← cArg y)) else none
      | _, _ => none
    | .builtin .max => do some (.mm true (← cArgs c.args))
    | .builtin .min => do some (.mm false (← cArgs c.args))
    | .builtin .delete => match c.args.toList, c.argTypes.toList with
      | [m, k], [t, _] => do
        let .map key _ ← P.underlying t | none
        some (.mapdel (← keyKind P key) (← cArg m) (← cArg k))
      | _, _ => none
    | _ => none
  | _ => none

end Go.Ab
