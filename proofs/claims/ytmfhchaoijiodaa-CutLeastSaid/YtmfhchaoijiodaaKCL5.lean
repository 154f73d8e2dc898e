/- Going on. -/
import Derived.Laws.Build
import Derived.Test.YtmfhchaoijiodaaKCL4
section
namespace Go.Ab
open Go.RowKit
set_option linter.unusedVariables false
def AV.one : AV → Bool
  | .v x => x.oneCell'
  | .agg _ | .tup _ | .any => false
  | _ => true
def AV.shape : AV → Bool
  | .agg _ => true
  | x => x.one
def AV.strip1 : AV → AV
  | .sl xs _ => .sl xs .no
  | x => x
def AV.strip : AV → AV
  | .sl xs _ => .sl xs .no
  | .agg cs => .agg (cs.map AV.strip1)
  | x => x
def okRow (k : Nat) (y : AV) : Bool := y.cells.length == k && y.cells.all AV.one
def headK (k : Nat) : List AV → Bool
  | [] => true
  | x :: _ => x.cells.length == k
def AV.int? : AV → Option Int
  | .v (.int _ n) => some n
  | _ => none
def cellsAt (s : AState) : AV → Option (List AV)
  | .p b off => match s.get b with
    | .cells cs => some (cs.drop off)
    | _ => none
  | .q cs off => some (cs.drop off)
  | _ => none
def litEq : SKd → Value → Value → Option Bool
  | .i, .int k a, .int k' b => if k = k' then some (a == b) else none
  | .b, .bool a, .bool b => some (a == b)
  | .s, .string a, .string b => some (strEq a b)
  | _, _, _ => none
def cellsEq : List SKd → List AV → List AV → Option Bool
  | [], [], [] => some true
  | k :: ks, .v a :: xs, .v b :: ys => match litEq k a b, cellsEq ks xs ys with
    | some r, some r' => some (r && r')
    | _, _ => none
  | _, _, _ => none
def eqAV : EK → AV → AV → Option Bool
  | .agg ks, .agg xs, .agg ys => cellsEq ks xs ys
  | .bool, .v (.bool a), .v (.bool b) => some (a == b)
  | .ptr, .v (.pointer none), .v (.pointer none) => some true
  | .ptr, .v (.pointer none), .p _ _ => some false
  | .ptr, .p _ _, .v (.pointer none) => some false
  | _, _, _ => none
def fillA (cells : List AV) : List (Nat × Nat × AV) → Option (List AV)
  | [] => some cells
  | (off, k, x) :: rest =>
    if x.shape = true ∧ x.cells.length = k ∧ off + k ≤ cells.length then fillA (cells.take off ++ x.cells ++ cells.drop (off + k)) rest else none
def bytesOf (s : ByteArray) : List AV := s.data.toList.map fun c => .v (.int .u8 c.toNat)
def numsOf : List AV → Option (List Int)
  | [] => some []
  | .v (.int .u8 n) :: r => (numsOf r).map (n :: ·)
  | _ => none
def keyEq : KK → AV → AV → Option Bool
  | .int, .v (.int k a), .v (.int k' b) => if k = k' then some (a == b) else none
  | .str, .v (.string a), .v (.string b) => some (strEq a b)
  | .agg2, .agg [.v (.int k a), .v (.int l b)], .agg [.v (.int k' a'), .v (.int l' b')] => if k = k' ∧ l = l' then some (a == a' && b == b') else none
  | _, _, _ => none
def findK (kk : KK) (key : AV) : List (AV × AV) → Nat → Option (Option Nat)
  | [], _ => some none
  | e :: es, i => match keyEq kk key e.1 with
    | some true => some (some i)
    | some false => findK kk key es (i + 1)
    | none => none
def keyOk : KK → AV → Bool
  | .int, .v (.int _ _) => true
  | .str, .v (.string _) => true
  | .agg2, .agg [.v (.int _ _), .v (.int _ _)] => true
  | _, _ => false
def optInt (a : List AV) : Option Arg → Option (Option Int)
  | none => some none
  | some x => match x.ev a with
    | .v (.int _ n) => some (some n)
    | _ => none
def mmV (mx : Bool) (m : Int) : List AV → Option Int
  | [] => some m
  | .v (.int _ y) :: r => mmV mx (if mx then (if y > m then y else m) else (if y < m then y else m)) r
  | _ => none
def AOp.exec (a : List AV) (s : AState) : AOp → Option (AV × AState)
  | .mov x => some (x.ev a, s)
  | .pick c x y => match c.ev a with
    | .v (.bool b) => some (if b then x.ev a else y.ev a, s)
    | _ => none
  | .alloc z => some (.p s.n 0, s.alloc (.cells z))
  | .box x => if (x.ev a).shape = true then some (.p s.n 0, s.alloc (.cells (x.ev a).cells)) else none
  | .build z parts => (fillA z (parts.map fun (off, k, x) => (off, k, x.ev a))).map fun cs => (.agg cs, s)
  | .bsl k parts => if (parts.map (Arg.ev a)).all (okRow k) then some (.sl ((parts.map (Arg.ev a)).map AV.strip) .zero, s) else none
  | .load ag k x => match cellsAt s (x.ev a) with
    | some cs => if k ≤ cs.length then some (if ag then .agg (cs.take k) else cs.getD 0 .any, s) else none
    | none => none
  | .store k x y => match x.ev a with
    | .p b off => match s.get b with
      | .cells cs => if okRow k (y.ev a) = true ∧ off + k ≤ cs.length then some (.any, s.set b (.cells (cs.take off ++ (y.ev a).cells ++ cs.drop (off + k)))) else none
      | _ => none
    | _ => none
  | .nilck x => match x.ev a with
    | .p b o => some (.p b o, s)
    | .q cs o => some (.q cs o, s)
    | .y l => some (.y l, s)
    | .f (.func g) fs caps => some (.f (.func g) fs caps, s)
    | _ => none
  | .bin op x y => match x.ev a, y.ev a with
    | .v u, .v v => (binV op u v).map fun r => (.v r, s)
    | _, _ => none
  | .eqa neg ek x y => (eqAV ek (x.ev a) (y.ev a)).map fun b => (.v (.bool (if neg then !b else b)), s)
  | .un op x => match x.ev a with
    | .v u => (unV op u).map fun r => (.v r, s)
    | _ => none
  | .conv k x => match x.ev a with
    | .v (.int _ n) => some (.v (.int k (k.wrap n)), s)
    | _ => none
  | .s2b x => match x.ev a with
    | .v (.string b) => some (.sl (bytesOf b) .no, s)
    | _ => none
  | .b2s x => match x.ev a with
    | .sl xs _ => (numsOf xs).map fun l => (.v (.string (strOfNums l)), s)
    | .ms b off ln => match s.get b with
      | .cells cs => if off + ln ≤ cs.length then (numsOf ((cs.drop off).take ln)).map fun l => (.v (.string (strOfNums l)), s) else none
      | _ => none
    | _ => none
  | .mki t x => match x.ev a with
    | .v y => some (.v (.iface t y), s)
    | _ => none
  | .mkf fn fs caps => some (.f fn (fs.map (Arg.ev a)) (caps.map (Arg.ev a)), s)
  | .mkmap => some (.m s.n, s.alloc (.map []))
  | .mksl z bytes l => match x : l.ev a with
    | .v (.int _ n) => if 0 ≤ n ∧ n * bytes ≤ 140737488355328 ∧ n ≤ 4611686018427387904 then some (.ms s.n 0 n.toNat, s.alloc (.cells (List.replicate n.toNat z).flatten)) else none
    | _ => none
  | .slice sk x lo hi mx => match sk, x.ev a, optInt a lo, optInt a hi, optInt a mx with
    | .str, .v (.string b), some l, some h, some none =>
      let l := l.getD 0; let h := h.getD b.size
      if 0 ≤ l ∧ l ≤ h ∧ h ≤ b.size then some (.v (.string (b.extract l.toNat h.toNat)), s) else none
    | .sl k, .sl xs t, some l, some h', some m =>
      let l := l.getD 0; let h := h'.getD xs.length
      if 0 ≤ l ∧ l ≤ h ∧ h ≤ xs.length ∧ headK k xs = true then
        match m with
        | none => some (.sl ((xs.take h.toNat).drop l.toNat) .no, s)
        | some m => if m = h ∧ h'.isSome = true then some (.sl ((xs.take h.toNat).drop l.toNat) .zero, s) else none
      else none
    | .sl k, .ms b off ln, some l, some h, some none =>
      let l := l.getD 0; let h := h.getD ln
      if 0 ≤ l ∧ l < h ∧ h ≤ ln then some (.ms b (off + l.toNat * k) (h.toNat - l.toNat), s) else if 0 ≤ l ∧ l = h ∧ h ≤ ln then some (.sl [] .no, s) else none
    | .arr n k, .p b off, some l, some h, some none =>
      let l := l.getD 0; let h := h.getD n
      if 0 ≤ l ∧ l < h ∧ h ≤ n then some (.ms b (off + l.toNat * k) (h.toNat - l.toNat), s) else none
    | _, _, _, _, _ => none
  | .fld off x => match x.ev a with
    | .p b o => some (.p b (o + off), s)
    | .q cs o => some (.q cs (o + off), s)
    | _ => none
  | .field ag off k x => match x.ev a with
    | .agg cs => if off + k ≤ cs.length then some (if ag then .agg ((cs.drop off).take k) else cs.getD off .any, s) else none
    | _ => none
  | .idxp k x i => match x.ev a, (i.ev a).int? with
    | .sl xs _, some i => if h : 0 ≤ i ∧ i.toNat < xs.length then (if (xs[i.toNat]'h.2).cells.length = k then some (.q (xs[i.toNat]'h.2).cells 0, s) else none) else none
    | .ms b off ln, some i => if 0 ≤ i ∧ i.toNat < ln then some (.p b (off + i.toNat * k), s) else none
    | _, _ => none
  | .idxa n k x i => match x.ev a, (i.ev a).int? with
    | .p b off, some i => if 0 ≤ i ∧ i < n then some (.p b (off + i.toNat * k), s) else none
    | .q cs off, some i => if 0 ≤ i ∧ i < n then some (.q cs (off + i.toNat * k), s) else none
    | _, _ => none
  | .idxs x i => match x.ev a, (i.ev a).int? with
    | .v (.string b), some i => if 0 ≤ i ∧ i < b.size then some (.v (.int .u8 (b.data.toList.getD i.toNat 0).toNat), s) else none
    | _, _ => none
  | .idxv ag n k x i => match x.ev a, (i.ev a).int? with
    | .agg cs, some i => if 0 ≤ i ∧ i < n ∧ (i.toNat + 1) * k ≤ cs.length then some (if ag then .agg ((cs.drop (i.toNat * k)).take k) else cs.getD (i.toNat * k) .any, s) else none
    | _, _ => none
  | .lookup kk z ok m k => match m.ev a with
    | .m b => match s.get b with
      | .map es => if keyOk kk (k.ev a) = true then (match findK kk (k.ev a) es 0 with
        | some (some i) => some (if ok then .tup [(es.getD i (.any, .any)).2, .v (.bool true)] else (es.getD i (.any, .any)).2, s)
        | some none => some (if ok then .tup [z, .v (.bool false)] else z, s)
        | none => none) else none
      | _ => none
    | _ => none
  | .mapset kk m k x => match m.ev a with
    | .m b => match s.get b with
      | .map es => if keyOk kk (k.ev a) = true then (match findK kk (k.ev a) es 0 with
        | some (some i) => some (.any, s.set b (.map (es.set i (k.ev a, x.ev a))))
        | some none => some (.any, s.set b (.map (es ++ [(k.ev a, x.ev a)])))
        | none => none) else none
      | _ => none
    | _ => none
  | .mapdel kk m k => match m.ev a with
    | .m b => match s.get b with
      | .map es => if keyOk kk (k.ev a) = true then (match findK kk (k.ev a) es 0 with
        | some (some i) => some (.tup [], s.set b (.map (es.eraseIdx i)))
        | some none => some (.tup [], s)
        | none => none) else none
      | _ => none
    | _ => none
  | .extract i x => match x.ev a with
    | .tup vs => if i < vs.length then some (vs.getD i .any, s) else none
    | _ => none
  | .len lk x => match lk, x.ev a with
    | .str, .v (.string b) => some (.v (.int .i64 b.size), s)
    | .sl, .sl xs _ => some (.v (.int .i64 xs.length), s)
    | .sl, .ms _ _ ln => some (.v (.int .i64 ln), s)
    | .map, .m b => match s.get b with
      | .map es => some (.v (.int .i64 es.length), s)
      | _ => none
    | _, _ => none
  | .append k bytes x y => match x.ev a, y.ev a with
    | .sl xs t, .sl ys _ =>
      if ys.isEmpty then some (.sl xs t, s) else
      if headK k xs = true ∧ ys.all (okRow k) = true ∧ (xs.length + ys.length) * bytes ≤ 140737488355328 ∧ xs.length + ys.length ≤ 4611686018427387904 then
        match t with
        | .no => none
        | .zero => some (.sl (xs ++ ys.map AV.strip) (.own s.n), s.alloc .tok)
        | .own t => match s.get t with
          | .tok => if xs.isEmpty then none else some (.sl (xs ++ ys.map AV.strip) (.own s.n), (s.set t .dead).alloc .tok)
          | _ => none
      else none
    | _, _ => none
  | .mm mx xs => match (xs.map (Arg.ev a) : List AV) with
    | AV.v (.int k n) :: rest => (mmV mx n rest).map fun r => (.v (.int k r), s)
    | _ => none
  | .call _ _ => none
  | .isnil _ _ => none
  | .mrange _ => none
  | .mnext _ => none
  | .mentry x => match x.ev a with
    | .p it 0 => match s.get it with
      | .iter m bs clk dn => match s.get m with
        | .held es bs' clk' => if bs' = bs ∧ clk' = clk then (match dn.getLast? with
          | some i => if i < es.length then some (.tup [(es.getD i (.any, .any)).1, (es.getD i (.any, .any)).2], s) else none
          | none => none) else none
        | _ => none
      | _ => none
    | _ => none
def kOf (P : Program) (t : TypeId) : Option Nat := (P.info? t).map (·.size)
def aggOf (P : Program) (t : TypeId) : Option Bool := (P.underlying t).map fun d => d matches .struct _ | .array _ _
def zeroOf (P : Program) (t : TypeId) : Option Value := (P.info? t).bind (·.zero)
def keyKind (P : Program) (t : TypeId) : Option KK :=
  match P.underlying t with
  | some (.int _) => some .int
  | some .string => some .str
  | some (.array 2 e) => match P.underlying e, kOf P e with
    | some (.int _), some 1 => some .agg2
    | _, _ => none
  | _ => none
def isU8 (P : Program) (t : TypeId) : Bool := match P.underlying t with | some (.int .u8) => true | _ => false
def cArgs (xs : Array Operand) : Option (List Arg) := xs.toList.mapM cArg
def cOpt : Option Operand → Option (Option Arg)
  | none => some none
  | some x => (cArg x).map some
def eqFlat (P : Program) : Nat → TypeId → Option (List SKd)
  | 0, _ => none
  | d + 1, t => match P.underlying t with
    | some (.int _) => if kOf P t = some 1 then some [.i] else none
    | some .bool => if kOf P t = some 1 then some [.b] else none
    | some .string => if kOf P t = some 1 then some [.s] else none
    | some (.struct fs) => if P.stoodInHeld t then none else
      fs.toList.foldlM (fun (acc : List SKd) (f : Field) => match eqFlat P d f.type with
        | some ks => if f.name ≠ "_" ∧ f.offset = acc.length ∧ kOf P f.type = some ks.length then some (acc ++ ks) else none
        | none => none) []
    | _ => none
def compOp (P : Program) (o : Oper) : Option AOp :=
  match o.op with
  | .move x | .assign x => do some (.mov (← cArg x))
  | .pick c x y => do some (.pick (← cArg c) (← cArg x) (← cArg y))
  | .alloc t => do some (.alloc ((← zeroOf P t).cells.toList.map ofCell))
  | .box _ x => do some (.box (← cArg x))
  | .build t parts => do
    let z ← zeroOf P t
    match ← P.underlying t with
    | .struct fs =>
      let ps ← parts.toList.mapM fun (i, x) => do let f ← fs[i]?; some (f.offset, ← kOf P f.type, ← cArg x)
      if (fs.toList.all fun f => (kOf P f.type).isSome) then some (.build (z.cells.toList.map ofCell) ps) else none
    | .array _ e =>
      let k ← kOf P e
      let ps ← parts.toList.mapM fun (i, x) => do some (i * k, k, ← cArg x)
      some (.build (z.cells.toList.map ofCell) ps)
    | _ => none
  | .buildSlice t len parts => do
    let .slice e ← P.underlying t | none
    let k ← kOf P e
    let z ← zeroOf P e
    if parts.toList.map (·.1) = List.range len ∧ len * k ≤ 16777216 ∧ z.cells.size = k then some (.bsl k (← parts.toList.mapM fun (_, x) => cArg x)) else none
  | .load t x => do
    let ag ← aggOf P t
    let k ← kOf P t
    if ag = true ∨ k = 1 then some (.load ag k (← cArg x)) else none
  | .store t x y => do some (.store (← kOf P t) (← cArg x) (← cArg y))
  | .nilCheck x => do some (.nilck (← cArg x))
  | .binOp op t x y0 _ => do
    let x ← cArg x
    let y ← cArg y0
    match ← P.underlying t with
    | .int _ | .string => some (.bin op x y)
    | .bool => match op with
      | .eql => some (.eqa false .bool x y)
      | .neq => some (.eqa true .bool x y)
      | _ => none
    | .pointer _ => match op with
      | .eql => some (.eqa false .ptr x y)
      | .neq => some (.eqa true .ptr x y)
      | _ => none
    | .struct _ => do
      let k ← eqFlat P 10 t
      if !(P.eqGuardType P.depth t) then (match op with
      | .eql => some (.eqa false (.agg k) x y)
      | .neq => some (.eqa true (.agg k) x y)
      | _ => none) else none
    | .slice _ => match op, y0 with
      | .eql, .const (.slice none 0 0) => some (.isnil false x)
      | .neq, .const (.slice none 0 0) => some (.isnil true x)
      | _, _ => none
    | _ => none
  | .unOp op _ x => do some (.un op (← cArg x))
  | .convert src dst x => do
    let x ← cArg x
    match ← P.underlying src, ← P.underlying dst with
    | .int _, .int k => some (.conv k x)
    | .string, .slice e => if isU8 P e ∧ kOf P e = some 1 then some (.s2b x) else none
    | .slice e, .string => if isU8 P e then some (.b2s x) else none
    | _, _ => none
  | .makeInterface t x => do if P.concrete t then some (.mki t (← cArg x)) else none
  | .makeFunc fn fs caps => do some (.mkf fn (← cArgs fs) (← cArgs caps))
  | .makeMap _ none => some .mkmap
  | .makeSlice t l c => do
    let .slice e ← P.underlying t | none
    let i ← P.info? e
    let z ← i.zero
    match l, c with
    | .tmp u, .tmp v => if u = v ∧ z.cells.size = i.size then some (.mksl (z.cells.toList.map ofCell) i.bytes (.t u)) else none
    | .const (.int k u), .const (.int l v) => if k = l ∧ u = v ∧ z.cells.size = i.size then some (.mksl (z.cells.toList.map ofCell) i.bytes (.c (.v (.int k u)))) else none
    | _, _ => none
  | .slice t x lo hi mx => do
    let x ← cArg x
    let lo ← cOpt lo
    let hi ← cOpt hi
    let mx ← cOpt mx
    match ← P.underlying t with
    | .string => some (.slice .str x lo hi mx)
    | .slice e => some (.slice (.sl (← kOf P e)) x lo hi mx)
    | .array n e => some (.slice (.arr n (← kOf P e)) x lo hi mx)
    | _ => none
  | .fieldAddr t x i => do
    let .struct fs ← P.underlying t | none
    let f ← fs[i]?
    let k ← kOf P f.type
    if k = 0 then none else some (.fld f.offset (← cArg x))
  | .field t x i => do
    let .struct fs ← P.underlying t | none
    let f ← fs[i]?
    let ag ← aggOf P f.type
    let k ← kOf P f.type
    if ag = true ∨ k = 1 then some (.field ag f.offset k (← cArg x)) else none
  | .indexAddr t x i => do
    match ← P.underlying t with
    | .slice e => some (.idxp (← kOf P e) (← cArg x) (← cArg i))
    | .array n e => some (.idxa n (← kOf P e) (← cArg x) (← cArg i))
    | _ => none
  | .index t x i => do
    match ← P.underlying t with
    | .string => some (.idxs (← cArg x) (← cArg i))
    | .array n e =>
      let ag ← aggOf P e
      let k ← kOf P e
      if ag = true ∨ k = 1 then some (.idxv ag n k (← cArg x) (← cArg i)) else none
    | _ => none
  | .lookup t m k ok => do
    let .map key e ← P.underlying t | none
    some (.lookup (← keyKind P key) (ofConst (← zeroOf P e)) ok (← cArg m) (← cArg k))
  | .mapUpdate t m k x | .insert t m k x => do
    let .map key _ ← P.underlying t | none
    some (.mapset (← keyKind P key) (← cArg m) (← cArg k) (← cArg x))
  | .extract x i => do some (.extract i (← cArg x))
  | .call c => do
    match c.callee with
    | .value f => some (.call (← cArg f) (← cArgs c.args))
    | .builtin .len => match c.args.toList, c.argTypes.toList with
      | [x], [t] => match ← P.underlying t with
        | .string => some (.len .str (← cArg x))
        | .slice _ => some (.len .sl (← cArg x))
        | .map _ _ => some (.len .map (← cArg x))
        | _ => none
      | _, _ => none
    | .builtin .append => match c.args.toList, c.argTypes.toList with
      | [x, y], [t, u] => do
        let .slice e ← P.underlying t | none
        let .slice _ ← P.underlying u | none
        let i ← P.info? e
        let z ← i.zero
        if z.cells.size = i.size ∧ 0 < i.size ∧ 0 < i.bytes ∧ t = u then some (.append i.size i.bytes (← cArg x) (← cArg y)) else none
      | _, _ => none
    | .builtin .max => do some (.mm true (← cArgs c.args))
    | .builtin .min => do some (.mm false (← cArgs c.args))
    | .builtin .delete => match c.args.toList, c.argTypes.toList with
      | [m, k], [t, _] => do
        let .map key _ ← P.underlying t | none
        some (.mapdel (← keyKind P key) (← cArg m) (← cArg k))
      | _, _ => none
    | _ => none
  | .range t x => do
    let .map _ _ ← P.underlying t | none
    some (.mrange (← cArg x))
  | .next x s => do if s then none else some (.mnext (← cArg x))
  | .entry x => do some (.mentry (← cArg x))
  | _ => none
end Go.Ab
end
section
namespace Go.Ab
open Go.RowKit
set_option linter.unusedVariables false
set_option linter.unusedSimpArgs false
variable {cmp : Code → Option ACode} {P : Program}
def Ev (c : Cx) (t : List AV) (ρ : Operand → Value) : Prop := ∀ x y, cArg x = some y → R c (y.ev t) (ρ x)
def OpOk (cmp : Code → Option ACode) (P : Program) (o : Oper) (t : List AV) (s : AState) (x : AV) (s' : AState) : Prop :=
  ∀ (c : Cx) (w : World) (ρ : Operand → Value), Rel cmp c s w → Ev c t ρ → ∃ v w' c',
    ((execOp ρ o).run P w = .ok (.value v) w' ∨ ((execOp ρ o).run P w = .ok .skip w' ∧ v = undef)) ∧ Ext c s w c' s' w' ∧ Rel cmp c' s' w' ∧ R c' x v
theorem OpOk.pure {o : Oper} {t : List AV} {s : AState} {x : AV}
    (h : ∀ (c : Cx) (w : World) (ρ : Operand → Value), Rel cmp c s w → Ev c t ρ → ∃ v, (execOp ρ o).run P w = .ok (.value v) w ∧ R c x v) : OpOk cmp P o t s x s := by
  intro c w ρ hr ht
  obtain ⟨v, h1, h2⟩ := h c w ρ hr ht
  exact ⟨v, w, c, .inl h1, .refl c s w, hr, h2⟩
theorem int?_inv {c : Cx} {x : AV} {n : Int} {y : Value} (h : R c x y) (hi : x.int? = some n) : ∃ k, y = .int k n := by
  cases x <;> simp [AV.int?] at hi
  rename_i u
  cases u <;> simp at hi
  subst hi
  exact ⟨_, h.v_inv⟩
theorem RL_args {c : Cx} {t : List AV} {ρ : Operand → Value} (ht : Ev c t ρ) : ∀ {xs : List Operand} {ys : List Arg}, xs.mapM cArg = some ys → RL c (ys.map (Arg.ev t)) (xs.map ρ) := by
  intro xs
  induction xs with
  | nil => intro ys h; simp at h; subst h; exact RL.nil c
  | cons x xs ih =>
    intro ys h
    simp only [List.mapM_cons, bind, Option.bind_eq_some_iff] at h
    obtain ⟨y, hy, ys', hys, h⟩ := h
    cases h
    exact RL.cons (ht _ _ hy) (ih hys)
theorem cArgs_ev {c : Cx} {t : List AV} {ρ : Operand → Value} (ht : Ev c t ρ) {xs : Array Operand} {ys : List Arg} (h : cArgs xs = some ys) : RL c (ys.map (Arg.ev t)) ((xs.map ρ).toList) := by
  rw [Array.toList_map]; exact RL_args ht h
section
variable {o : Oper} {t : List AV} {s : AState}
theorem ok_mov {x : Operand} {y : Arg} (ho : o.op = .move x ∨ o.op = .assign x) (h : cArg x = some y) : OpOk cmp P o t s (y.ev t) s :=
  .pure fun c w ρ hr ht => ⟨ρ x, by rcases ho with ho | ho <;> simp [execOp, ho], ht _ _ h⟩
theorem ok_pick {x y z : Operand} {x' y' z' : Arg} (ho : o.op = .pick x y z) (h1 : cArg x = some x') (h2 : cArg y = some y') (h3 : cArg z = some z') {b : Bool} (hb : x'.ev t = .v (.bool b)) :
    OpOk cmp P o t s (if b then y'.ev t else z'.ev t) s :=
  .pure fun c w ρ hr ht => by
    have := ht _ _ h1
    rw [hb] at this
    refine ⟨if b then ρ y else ρ z, by cases b <;> simp [execOp, ho, this.v_inv, asBool], ?_⟩
    split
    · exact ht _ _ h2
    · exact ht _ _ h3
theorem ok_nilck {x : Operand} {y : Arg} (ho : o.op = .nilCheck x) (h : cArg x = some y)
    (hy : (∃ b off, y.ev t = .p b off) ∨ (∃ cs off, y.ev t = .q cs off) ∨ (∃ l, y.ev t = .y l) ∨ (∃ g fs caps, y.ev t = .f (.func g) fs caps)) : OpOk cmp P o t s (y.ev t) s :=
  .pure fun c w ρ hr ht => by
    have hx := ht _ _ h
    have : ∀ v, ρ x = v → (∃ a, v = .pointer (some a)) ∨ (∃ l a b, v = .func (.yield l) a b) ∨ (∃ g a b, v = .func (.func g) a b) → (execOp ρ o).run P w = .ok (.value v) w := by
      intro v hv hc
      simp only [execOp, ho]
      rw [hv]
      rcases hc with ⟨a, rfl⟩ | ⟨l, a, b, rfl⟩ | ⟨g, a, b, rfl⟩ <;> rfl
    refine ⟨ρ x, this _ rfl ?_, hx⟩
    generalize ρ x = v at hx
    rcases hy with ⟨b, off, e⟩ | ⟨cs, off, e⟩ | ⟨l, e⟩ | ⟨g, fs, caps, e⟩ <;> rw [e] at hx <;> cases hx
    · exact .inl ⟨_, rfl⟩
    · exact .inl ⟨_, rfl⟩
    · exact .inr (.inl ⟨_, _, _, rfl⟩)
    · exact .inr (.inr ⟨_, _, _, rfl⟩)
theorem eqGuard_scalar {op : BinOp} {ty : TypeId} {x y : Operand} {a b : Value} (h1 : a ≠ .nilIface ∨ b ≠ .nilIface) (h2 : (∀ cs, a ≠ .agg cs) ∨ ∀ cs, b ≠ .agg cs) (w : World) :
    (eqGuard op ty x y a b).run P w = .ok () w := by
  cases a with
  | nilIface => cases b with
    | nilIface => simp at h1
    | _ => unfold eqGuard; split <;> rfl
  | agg cs => cases b with
    | agg cs => simp at h2
    | _ => unfold eqGuard; split <;> rfl
  | _ => unfold eqGuard; split <;> rfl
theorem ok_bin {op : BinOp} {ty ty2 : TypeId} {x y : Operand} {x' y' : Arg} (ho : o.op = .binOp op ty x y ty2) (h1 : cArg x = some x') (h2 : cArg y = some y') {u v r : Value}
    (hu : x'.ev t = .v u) (hv : y'.ev t = .v v) (hr : binV op u v = some r) : OpOk cmp P o t s (.v r) s :=
  .pure fun c w ρ _ ht => by
    have e1 := ht _ _ h1
    have e2 := ht _ _ h2
    rw [hu] at e1
    rw [hv] at e2
    refine ⟨r, ?_, .v r⟩
    have e1 := e1.v_inv
    have e2 := e2.v_inv
    have hne : (u ≠ .nilIface ∨ v ≠ .nilIface) ∧ ((∀ cs, u ≠ .agg cs) ∨ ∀ cs, v ≠ .agg cs) := by
      cases u <;> cases v <;> simp [binV] at hr ⊢
    simp only [execOp, ho, e1, e2, Sem.run_bind, eqGuard_scalar hne.1 hne.2, Result.andThen_ok, run_binV hr, Sem.run_pure]
theorem ok_un {op : UnOp} {ty : TypeId} {x : Operand} {x' : Arg} (ho : o.op = .unOp op ty x) (h1 : cArg x = some x') {u r : Value}
    (hu : x'.ev t = .v u) (hr : unV op u = some r) : OpOk cmp P o t s (.v r) s :=
  .pure fun c w ρ _ ht => by
    have e1 := ht _ _ h1
    rw [hu] at e1
    exact ⟨r, by simp only [execOp, ho, e1.v_inv, Sem.run_bind, run_unV hr, Result.andThen_ok, Sem.run_pure], .v r⟩
theorem ok_conv {src dst : TypeId} {x : Operand} {x' : Arg} (ho : o.op = .convert src dst x) (h1 : cArg x = some x') {k k' k0 : IntKind} {n : Int} (hs : P.underlying src = some (.int k0)) (hd : P.underlying dst = some (.int k))
    (hu : x'.ev t = .v (.int k' n)) : OpOk cmp P o t s (.v (.int k (k.wrap n))) s :=
  .pure fun c w ρ _ ht => by
    have e1 := ht _ _ h1
    rw [hu] at e1
    refine ⟨.int k (k.wrap n), ?_, .v _⟩
    simp [execOp, ho, e1.v_inv, convert, run_underlying hs, run_underlying hd, Conv.intToInt]
theorem ok_mki {ty : TypeId} {x : Operand} {x' : Arg} (ho : o.op = .makeInterface ty x) (h1 : cArg x = some x') (hc : P.concrete ty = true) {u : Value} (hu : x'.ev t = .v u) : OpOk cmp P o t s (.v (.iface ty u)) s :=
  .pure fun c w ρ _ ht => by
    have e1 := ht _ _ h1
    rw [hu] at e1
    exact ⟨.iface ty u, by simp [execOp, ho, e1.v_inv, run_makeInterface _ _ _ hc], .v _⟩
theorem ok_mkf {fn : Fn} {fs caps : Array Operand} {fs' caps' : List Arg} (ho : o.op = .makeFunc fn fs caps) (h1 : cArgs fs = some fs') (h2 : cArgs caps = some caps') :
    OpOk cmp P o t s (.f fn (fs'.map (Arg.ev t)) (caps'.map (Arg.ev t))) s :=
  .pure fun c w ρ _ ht => by
    have e1 := cArgs_ev ht h1
    have e2 := cArgs_ev ht h2
    refine ⟨.func fn (fs.map ρ) (caps.map ρ), by simp [execOp, ho, Instr.makeFunc], ?_⟩
    have := R.f (c := c) fn _ _ _ _ e1.1 e1.2 e2.1 e2.2
    rwa [Array.toArray_toList, Array.toArray_toList] at this
theorem ok_extract {x : Operand} {x' : Arg} {i : Nat} (ho : o.op = .extract x i) (h1 : cArg x = some x') {vs : List AV} (hu : x'.ev t = .tup vs) (hi : i < vs.length) : OpOk cmp P o t s (vs.getD i .any) s :=
  .pure fun c w ρ _ ht => by
    have e1 := ht _ _ h1
    rw [hu] at e1
    obtain ⟨us, hus, h⟩ := e1.tup_inv
    refine ⟨us.getD i undef, ?_, h.get i⟩
    have hi' : i < us.length := by rw [h.1]; exact hi
    simp [execOp, ho, hus, Instr.extract, hi', List.getD_eq_getElem?_getD]
theorem mm_ints {c : Cx} (mx : Bool) (w : World) (k : IntKind) : ∀ (rest : List AV) (us : List Value) (n r : Int), RL c rest us → mmV mx n rest = some r →
    (us.foldlM (if mx then Builtin.max2 else Builtin.min2) (.int k n)).run P w = .ok (.int k r) w := by
  intro rest
  induction rest with
  | nil =>
    intro us n r hu h
    have := hu.nil_inv
    subst this
    simp [mmV] at h
    simp [h]
  | cons x rest ih =>
    intro us n r hu h
    obtain ⟨u, us, rfl, hx, ht⟩ := hu.cons_inv
    · cases x with
      | v y =>
        cases y with
        | int k' m =>
          simp only [mmV] at h
          have := hx.v_inv
          subst this
          cases mx
          · simp only [Bool.false_eq_true, if_false] at h ⊢
            rw [List.foldlM_cons]
            simp only [Sem.run_bind, Builtin.min2, Sem.run_pure, Result.andThen_ok]
            exact ih us _ r ht h
          · simp only [if_true] at h ⊢
            rw [List.foldlM_cons]
            simp only [Sem.run_bind, Builtin.max2, Sem.run_pure, Result.andThen_ok]
            exact ih us _ r ht h
        | _ => simp [mmV] at h
      | _ => simp [mmV] at h
theorem ok_mm {mx : Bool} {cl : Call} {xs : List Arg} (ho : o.op = .call cl) (hc : cl.callee = .builtin (if mx then .max else .min)) (h1 : cArgs cl.args = some xs) {k : IntKind} {n r : Int} {rest : List AV}
    (hx : xs.map (Arg.ev t) = .v (.int k n) :: rest) (hr : mmV mx n rest = some r) : OpOk cmp P o t s (.v (.int k r)) s :=
  .pure fun c w ρ _ ht => by
    have e1 := cArgs_ev ht h1
    rw [hx] at e1
    refine ⟨.int k r, ?_, .v _⟩
    obtain ⟨u, us, hus, hu, hrest⟩ := e1.cons_inv
    have hu := hu.v_inv
    subst hu
    have := mm_ints (P := P) mx w k rest us n r hrest hr
    cases mx
    · simp only [Bool.false_eq_true, if_false] at hc this
      simp only [execOp, ho, resolve, hc, invoke, builtin, Builtin.min_, hus, Sem.run_bind, Sem.run_pure, Result.andThen_ok, this]
    · simp only [if_true] at hc this
      simp only [execOp, ho, resolve, hc, invoke, builtin, Builtin.max_, hus, Sem.run_bind, Sem.run_pure, Result.andThen_ok, this]
end
end Go.Ab
end
section
namespace Go.Ab
open Go.RowKit
set_option linter.unusedVariables false
set_option linter.unusedSimpArgs false
variable {cmp : Code → Option ACode} {P : Program}
theorem run_typeInfo {t : TypeId} {i : TypeInfo} (h : P.info? t = some i) (w : World) : (typeInfo t).run P w = .ok i w := by simp [typeInfo, h]
theorem run_sizeOf {t : TypeId} {k : Nat} (h : kOf P t = some k) (w : World) : (sizeOf t).run P w = .ok k w := by
  unfold kOf at h
  cases hi : P.info? t with
  | none => rw [hi] at h; cases h
  | some i => rw [hi] at h; simp at h; simp [sizeOf, run_typeInfo hi, h]
theorem run_zeroValue {t : TypeId} {z : Value} (h : zeroOf P t = some z) (w : World) : (zeroValue t).run P w = .ok z w := by
  unfold zeroOf at h
  cases hi : P.info? t with
  | none => rw [hi] at h; cases h
  | some i => rw [hi] at h; simp at h; simp [zeroValue, run_typeInfo hi, h]
theorem run_isAgg {t : TypeId} {b : Bool} (h : aggOf P t = some b) (w : World) : (isAgg t).run P w = .ok b w := by
  unfold aggOf at h
  cases hi : P.underlying t with
  | none => rw [hi] at h; cases h
  | some d =>
    rw [hi] at h
    simp only [Option.map_some, Option.some.injEq] at h
    subst h
    simp only [isAgg, Sem.run_bind, run_underlying hi, Result.andThen_ok]
    cases d <;> rfl
theorem one_ok {x : AV} {c : Cx} {y : Value} (h : R c x y) (ha : x.one = true) : y.oneCell' = true ∧ y.cells = #[y] := by
  have key : ∀ y : Value, y.oneCell' = true → y.oneCell' = true ∧ y.cells = #[y] := by
    intro y hy
    cases y <;> simp_all [Value.oneCell', Value.cells]
  cases h <;> first | (simp [AV.one] at ha; done) | exact key _ (by simpa [AV.one] using ha) | exact key _ rfl
theorem cells_ok {x : AV} {c : Cx} {y : Value} (h : R c x y) (ha : x.shape = true) : RL c x.cells y.cells.toList := by
  by_cases hx : ∃ cs, x = .agg cs
  · obtain ⟨cs, rfl⟩ := hx
    obtain ⟨vs, rfl, h'⟩ := h.agg_inv
    simpa [Value.cells, AV.cells] using h'
  · have h1 : x.one = true := by cases x <;> first | exact ha | exact absurd ⟨_, rfl⟩ hx
    have h2 : x.cells = [x] := by cases x <;> first | rfl | exact absurd ⟨_, rfl⟩ hx
    rw [h2, (one_ok h h1).2]
    exact RL.cons h (RL.nil c)
theorem okRow_spec {k : Nat} {x : AV} (h : okRow k x = true) : x.cells.length = k ∧ x.shape = true ∧ ∀ y ∈ x.cells, y.one = true := by
  simp only [okRow, Bool.and_eq_true, beq_iff_eq, List.all_eq_true] at h
  refine ⟨h.1, ?_, h.2⟩
  cases x <;> first | rfl | exact h.2 _ (List.mem_singleton.2 rfl)
theorem okRow_one {k : Nat} {x : AV} (h : okRow k x = true) {c : Cx} {y : Value} (hr : R c x y) : RL c x.cells y.cells.toList ∧ y.cells.size = k ∧ ∀ u ∈ y.cells.toList, u.oneCell' = true := by
  obtain ⟨h1, h2, h3⟩ := okRow_spec h
  have hc := cells_ok hr h2
  refine ⟨hc, by rw [← Array.length_toList, hc.1, h1], fun u hu => ?_⟩
  obtain ⟨j, hj, rfl⟩ := List.mem_iff_getElem.1 hu
  have hj' : j < x.cells.length := by rw [← hc.1]; exact hj
  have := hc.2 j hj'
  rw [List.getD_eq_getElem?_getD, List.getElem?_eq_getElem hj] at this
  exact (one_ok this (h3 _ (List.getElem_mem hj'))).1
theorem cellsAt_ok {c : Cx} {s : AState} {w : World} (hr : Rel cmp c s w) {x : AV} {y : Value} (hx : R c x y) {cs : List AV} (h : cellsAt s x = some cs) :
    ∃ B o us, y = .pointer (some ⟨B, o, none⟩) ∧ RL c cs us ∧ ∀ j v, us[j]? = some v → w.cell? ⟨B, o + j, none⟩ = some v := by
  cases hx with
  | p b off hb =>
    simp only [cellsAt] at h
    have hob := hr.obj b (hr.n ▸ hb)
    split at h
    · rename_i cs0 hg
      rw [hg] at hob
      obtain ⟨vs, e, h1, h2, h3⟩ := hob
      injection h with h
      subst h
      refine ⟨c.mu b, off, vs.toList.drop off, rfl, h2.drop off, fun j v hj => ?_⟩
      rw [cell_of_row w _ _ vs e _ h1]
      rw [List.getElem?_drop] at hj
      simpa using hj
    · cases h
  | q cs0 off B o g h1 h2 =>
    simp only [cellsAt, Option.some.injEq] at h
    subst h
    refine ⟨B, o + off, (((List.range cs0.length).map g).drop off), rfl, ?_, fun j v hj => ?_⟩
    · refine RL.drop ⟨by simp, fun j hj => ?_⟩ off
      rw [List.getD_eq_getElem?_getD, List.getElem?_map, List.getElem?_range hj]
      exact h2 j hj
    · rw [List.getElem?_drop, List.getElem?_map] at hj
      have hlt : off + j < cs0.length := by
        by_cases h' : off + j < cs0.length
        · exact h'
        · rw [List.getElem?_eq_none (by simpa using h')] at hj; simp at hj
      rw [List.getElem?_range hlt] at hj
      simp only [Option.map_some, Option.some.injEq] at hj
      have ha := h1 _ hlt
      have hne : c.arr B ≠ [] := by intro e; rw [e] at ha; simp at ha
      obtain ⟨vs, e, fz, k1, k2⟩ := hr.arr B hne
      obtain ⟨t, ht⟩ := k2
      rw [cell_of_row w _ _ vs e _ k1, ← hj, ← ha]
      have := (List.getElem?_eq_some_iff.1 ha).1
      rw [show o + off + j = o + (off + j) by omega, ← Array.getElem?_toList, ← ht, List.getElem?_append_left this]
  | _ => simp [cellsAt] at h
theorem shadow_take {c : Cx} {cs : List AV} {us : List Value} (h : RL c cs us) {k : Nat} (hk : k ≤ cs.length) : (us.take k).length = k := by
  rw [List.length_take, h.1]; omega
section
variable {o : Oper} {t : List AV} {s : AState}
theorem run_load_agg {B off : Nat} {us : List Value} {w : World} {ty : TypeId} (h : ∀ j v, us[j]? = some v → w.cell? ⟨B, off + j, none⟩ = some v) {k : Nat} (hk : us.length = k) (ha : aggOf P ty = some true) (hs : kOf P ty = some k) :
    (loadVar ty ⟨B, off, none⟩).run P w = .ok (.agg us.toArray) w := by
  subst hk
  have := run_loadCells_list (P := P) (w := w) ⟨B, off, none⟩ us (fun j v hj => by rw [Addr.add_lit]; exact h j v hj)
  simp [loadVar, run_isAgg ha, run_sizeOf hs, this]
theorem run_load_one {B off : Nat} {u : Value} {w : World} {ty : TypeId} (h : w.cell? ⟨B, off, none⟩ = some u) (ha : aggOf P ty = some false) :
    (loadVar ty ⟨B, off, none⟩).run P w = .ok u w := by
  simp [loadVar, run_isAgg ha, h]
theorem ok_load {ty : TypeId} {x : Operand} {x' : Arg} {ag : Bool} {k : Nat} (ho : o.op = .load ty x) (h1 : cArg x = some x') (ha : aggOf P ty = some ag) (hk : kOf P ty = some k) (hak : ag = true ∨ k = 1)
    {cs : List AV} (hc : cellsAt s (x'.ev t) = some cs) (hl : k ≤ cs.length) : OpOk cmp P o t s (if ag then .agg (cs.take k) else cs.getD 0 .any) s :=
  .pure fun c w ρ hr ht => by
    obtain ⟨B, off, us, hy, hu, hcell⟩ := cellsAt_ok hr (ht _ _ h1) hc
    cases ag with
    | true =>
      refine ⟨.agg (us.take k).toArray, ?_, by simpa using R.agg' (hu.take k)⟩
      have := run_load_agg (P := P) (w := w) (B := B) (off := off) (us := us.take k) (ty := ty) (fun j v hj => hcell j v (by
        rw [List.getElem?_take] at hj; split at hj
        · exact hj
        · cases hj)) (shadow_take hu hl) ha hk
      simp [execOp, ho, hy, Instr.loadAt, Instr.sureAddr, this]
    | false =>
      have hk1 : k = 1 := by simpa using hak
      subst hk1
      have h0 : 0 < us.length := by rw [hu.1]; omega
      have hu0 : us[0]? = some (us.getD 0 undef) := by rw [List.getD_eq_getElem?_getD, List.getElem?_eq_getElem h0]; rfl
      refine ⟨us.getD 0 undef, ?_, by simpa using hu.get 0⟩
      have := run_load_one (P := P) (w := w) (hcell 0 _ hu0) ha
      simp only [Nat.add_zero] at this
      simp [execOp, ho, hy, Instr.loadAt, Instr.sureAddr, this]
theorem Rel.write {c : Cx} {w : World} (hr : Rel cmp c s w) {b off : Nat} {cs vs : List AV} {us : List Value} (hg : s.get b = .cells cs) (hv : RL c vs us) (h1 : ∀ u ∈ us, u.oneCell' = true) (hl : off + vs.length ≤ cs.length) :
    ∃ w', (storeCells ⟨c.mu b, off, none⟩ us).run P w = .ok () w' ∧ Ext c s w c (s.set b (.cells (cs.take off ++ vs ++ cs.drop (off + vs.length)))) w' ∧
      Rel cmp c (s.set b (.cells (cs.take off ++ vs ++ cs.drop (off + vs.length)))) w' := by
  have hb : b < s.n := AState.lt_of_get hg (by simp)
  have hob := hr.obj b hb
  rw [hg] at hob
  obtain ⟨cur, e, k1, k2, k3⟩ := hob
  have hsz : cur.size = cs.length := by rw [← Array.length_toList]; exact k2.1
  have hrun := run_storeCells_at P (c.mu b) off e us 0 cur w k1 (by rw [hv.1, hsz]; exact hl) h1
  simp only [Nat.add_zero] at hrun
  refine ⟨_, hrun, ?_⟩
  have := hr.upd (w' := w.setRow (c.mu b) (cur.toList.take off ++ us ++ cur.toList.drop (off + us.length)).toArray) hb (by rw [hg]; simp) ⟨rfl, rfl, rfl⟩ (by simp) (fun B hB => setRow_other w _ _ _ hB)
    (.cells (cs.take off ++ vs ++ cs.drop (off + vs.length))) ⟨_, e, setRow_heap w _ cur _ e _ k1, ?_, k3⟩ k3
  · exact ⟨this.2, this.1⟩
  · show RL c _ (cur.toList.take off ++ us ++ cur.toList.drop (off + us.length))
    rw [hv.1]
    exact ((k2.take off).append hv).append (k2.drop _)
theorem ok_store {ty : TypeId} {x y : Operand} {x' y' : Arg} {k : Nat} (ho : o.op = .store ty x y) (h1 : cArg x = some x') (h2 : cArg y = some y') (hk : kOf P ty = some k)
    {b off : Nat} (hx : x'.ev t = .p b off) {cs : List AV} (hg : s.get b = .cells cs) (hy : okRow k (y'.ev t) = true) (hl : off + k ≤ cs.length) :
    OpOk cmp P o t s .any (s.set b (.cells (cs.take off ++ (y'.ev t).cells ++ cs.drop (off + k)))) := by
  intro c w ρ hr ht
  have e1 := ht _ _ h1
  rw [hx] at e1
  have hp : ρ x = .pointer (some ⟨c.mu b, off, none⟩) := by generalize ρ x = v at e1; cases e1; rfl
  obtain ⟨hc, hsz, hone⟩ := okRow_one hy (ht _ _ h2)
  have hlen : (y'.ev t).cells.length = k := (okRow_spec hy).1
  obtain ⟨w', hrun, hext, hrel⟩ := hr.write (P := P) hg hc hone (by rw [hlen]; exact hl)
  rw [hlen] at hext hrel
  refine ⟨undef, w', c, .inr ⟨?_, rfl⟩, hext, hrel, .any _⟩
  simp [execOp, ho, hp, Instr.storeAt, Instr.sureAddr, storeVar, run_sizeOf hk, hsz, hrun]
theorem ok_alloc {ty : TypeId} {z : Value} (ho : o.op = .alloc ty) (hz : zeroOf P ty = some z) : OpOk cmp P o t s (.p s.n 0) (s.alloc (.cells (z.cells.toList.map ofCell))) := by
  intro c w ρ hr ht
  have := hr.alloc (.cells z.cells ty (0, 0)) (.cells (z.cells.toList.map ofCell)) 0 0 ⟨z.cells, ty, by rw [Cx.bind_mu]; exact heap_push_new w _, (RL_ofCell _ _), by rw [Cx.bind_mu, Cx.bind_arr]; exact hr.arr_new⟩ (by simp)
  refine ⟨.pointer (some ⟨w.heap.size, 0, none⟩), _, _, .inl ?_, this.2, this.1, ?_⟩
  · simp [execOp, ho, Instr.alloc, run_zeroValue hz, newVar, newRow]
  · have := R.p (c := c.bind w.heap.size 0 0) c.n 0 (by simp)
    rwa [Cx.bind_mu, ← hr.n] at this
theorem ok_box {ty : TypeId} {x : Operand} {x' : Arg} (ho : o.op = .box ty x) (h1 : cArg x = some x') (hx : (x'.ev t).shape = true) : OpOk cmp P o t s (.p s.n 0) (s.alloc (.cells (x'.ev t).cells)) := by
  intro c w ρ hr ht
  have e1 := cells_ok (ht _ _ h1) hx
  have := hr.alloc (.cells (ρ x).cells ty (0, 0)) (.cells (x'.ev t).cells) 0 0 ⟨(ρ x).cells, ty, by rw [Cx.bind_mu]; exact heap_push_new w _, e1.mono (c.le_bind _ _ _), by rw [Cx.bind_mu, Cx.bind_arr]; exact hr.arr_new⟩ (by simp)
  refine ⟨.pointer (some ⟨w.heap.size, 0, none⟩), _, _, .inl ?_, this.2, this.1, ?_⟩
  · simp [execOp, ho, Instr.box, newVar, newRow]
  · have := R.p (c := c.bind w.heap.size 0 0) c.n 0 (by simp)
    rwa [Cx.bind_mu, ← hr.n] at this
theorem run_fieldPlace {f : Field} {k : Nat} (hk : kOf P f.type = some k) (h0 : k ≠ 0) (a : Addr) (w : World) : (fieldPlace a f).run P w = .ok (a.add f.offset) w := by
  simp [fieldPlace, run_sizeOf hk, h0]
theorem ok_fld {ty : TypeId} {x : Operand} {x' : Arg} {i : Nat} {fs : Array Field} {f : Field} {k : Nat} (ho : o.op = .fieldAddr ty x i) (h1 : cArg x = some x') (hu : P.underlying ty = some (.struct fs)) (hf : fs[i]? = some f)
    (hk : kOf P f.type = some k) (h0 : k ≠ 0) {y : AV} (hy : (∃ b off, x'.ev t = .p b off ∧ y = .p b (off + f.offset)) ∨ (∃ cs off, x'.ev t = .q cs off ∧ y = .q cs (off + f.offset))) : OpOk cmp P o t s y s :=
  .pure fun c w ρ hr ht => by
    have e1 := ht _ _ h1
    rcases hy with ⟨b, off, hx, rfl⟩ | ⟨cs, off, hx, rfl⟩
    · rw [hx] at e1
      obtain ⟨hp, hb⟩ : ρ x = .pointer (some ⟨c.mu b, off, none⟩) ∧ b < c.n := by generalize ρ x = v at e1; cases e1; exact ⟨rfl, ‹_›⟩
      exact ⟨.pointer (some ⟨c.mu b, off + f.offset, none⟩), by simp [execOp, ho, hp, Instr.fieldAt, run_underlying hu, hf, Instr.sureAddr, run_fieldPlace hk h0, Addr.add_lit], .p _ _ hb⟩
    · rw [hx] at e1
      obtain ⟨B, q, g, hp, q1, q2⟩ : ∃ (B q : Nat) (g : Nat → Value), ρ x = .pointer (some ⟨B, q + off, none⟩) ∧ (∀ j, j < cs.length → (c.arr B)[q + j]? = some (g j)) ∧ ∀ j (h : j < cs.length), R c cs[j] (g j) := by
        generalize ρ x = v at e1; cases e1; exact ⟨_, _, _, rfl, ‹_›, ‹_›⟩
      exact ⟨.pointer (some ⟨B, q + (off + f.offset), none⟩), by simp [execOp, ho, hp, Instr.fieldAt, run_underlying hu, hf, Instr.sureAddr, run_fieldPlace hk h0, Addr.add_lit, Nat.add_assoc], .q cs _ B q g q1 q2⟩
end
end Go.Ab
end
section
namespace Go.Ab
open Go.RowKit
set_option linter.unusedVariables false
set_option linter.unusedSimpArgs false
variable {cmp : Code → Option ACode} {P : Program}
theorem elem_slice {t e : TypeId} (h : P.underlying t = some (.slice e)) : P.elem t = e := by simp [Program.elem, h]
theorem und_slice {t e : TypeId} (h : P.underlying t = some (.slice e)) : P.underlying t = some (.slice (P.elem t)) := by rw [elem_slice h, h]
theorem R.sl_inv {c : Cx} {xs : List AV} {t : Tok} {y : Value} (h : R c (.sl xs t) y) :
    (xs = [] ∧ ∃ p, y = .slice p 0 0 ∧ ∀ k, t ≠ .own k) ∨ ∃ (k B o cap : Nat) (g : Nat → Value), y = .slice (some ⟨B, o, none⟩) xs.length cap ∧ (∀ i (h : i < xs.length), (xs[i]).cells.length = k) ∧
      (∀ j, j < xs.length * k → (c.arr B)[o + j]? = some (g j)) ∧ (∀ i (h : i < xs.length) j (h' : j < (xs[i]).cells.length), R c (xs[i]).cells[j] (g (i * k + j))) ∧ xs.length ≤ cap ∧
      TokOk c t B (o + xs.length * k) (o + cap * k) xs.length cap := by
  cases h with
  | sl _ _ k B o cap g h1 h2 h3 h4 h5 => exact .inr ⟨k, B, o, cap, g, rfl, h1, h2, h3, h4, h5⟩
  | sl0 _ p ht => exact .inl ⟨rfl, p, rfl, ht⟩
theorem R.ms_inv {c : Cx} {b off ln : Nat} {y : Value} (h : R c (.ms b off ln) y) : ∃ cap, y = .slice (some ⟨c.mu b, off, none⟩) ln cap ∧ b < c.n ∧ ln ≤ cap := by
  cases h with | ms _ _ _ cap hb h1 => exact ⟨cap, rfl, hb, h1⟩
theorem R.p_inv {c : Cx} {b off : Nat} {y : Value} (h : R c (.p b off) y) : y = .pointer (some ⟨c.mu b, off, none⟩) ∧ b < c.n := by cases h; exact ⟨rfl, ‹_›⟩
theorem R.q_inv {c : Cx} {cs : List AV} {off : Nat} {y : Value} (h : R c (.q cs off) y) : ∃ (B q : Nat) (g : Nat → Value), y = .pointer (some ⟨B, q + off, none⟩) ∧ (∀ j, j < cs.length → (c.arr B)[q + j]? = some (g j)) ∧ ∀ j (h : j < cs.length), R c cs[j] (g j) := by
  cases h; exact ⟨_, _, _, rfl, ‹_›, ‹_›⟩
section
variable {o : Oper} {t : List AV} {s : AState}
theorem ok_idxp_sl {ty e : TypeId} {x i : Operand} {x' i' : Arg} {k : Nat} (ho : o.op = .indexAddr ty x i) (h1 : cArg x = some x') (h2 : cArg i = some i') (hu : P.underlying ty = some (.slice e)) (hk : kOf P e = some k)
    {xs : List AV} {tk : Tok} (hx : x'.ev t = .sl xs tk) {n : Int} (hi : (i'.ev t).int? = some n) (h : 0 ≤ n ∧ n.toNat < xs.length) (hl : (xs[n.toNat]'h.2).cells.length = k) :
    OpOk cmp P o t s (.q (xs[n.toNat]'h.2).cells 0) s :=
  .pure fun c w ρ hr ht => by
    have e1 := ht _ _ h1
    rw [hx] at e1
    obtain ⟨kk, e2⟩ := int?_inv (ht _ _ h2) hi
    rcases e1.sl_inv with ⟨rfl, _⟩ | ⟨k', B, q, cap, g, hy, q1, q2, q3, q4, q5⟩
    · simp at h
    · have hk' : k' = k := by rw [← q1 _ h.2]; exact hl
      subst hk'
      refine ⟨.pointer (some ⟨B, q + n.toNat * k', none⟩), ?_, ?_⟩
      · have hin : 0 ≤ n ∧ n < (xs.length : Int) := ⟨h.1, by omega⟩
        simp [execOp, ho, hy, e2, run_indexAt_slice w ty _ _ _ _ _ (und_slice hu), hin, elem_slice hu, run_sizeOf hk, Addr.add_lit]
      · have hlt : ∀ j, j < k' → n.toNat * k' + j < xs.length * k' := fun j hj => by
          calc n.toNat * k' + j < n.toNat * k' + k' := by omega
            _ = (n.toNat + 1) * k' := by rw [Nat.add_mul, Nat.one_mul]
            _ ≤ xs.length * k' := Nat.mul_le_mul_right _ h.2
        have := R.q (c := c) (xs[n.toNat]'h.2).cells 0 B (q + n.toNat * k') (fun j => g (n.toNat * k' + j))
          (fun j hj => by rw [Nat.add_assoc]; exact q2 _ (hlt j (by rw [hl] at hj; exact hj)))
          (fun j hj => q3 _ h.2 j hj)
        simpa using this
theorem ok_idxp_ms {ty e : TypeId} {x i : Operand} {x' i' : Arg} {k : Nat} (ho : o.op = .indexAddr ty x i) (h1 : cArg x = some x') (h2 : cArg i = some i') (hu : P.underlying ty = some (.slice e)) (hk : kOf P e = some k)
    {b off ln : Nat} (hx : x'.ev t = .ms b off ln) {n : Int} (hi : (i'.ev t).int? = some n) (h : 0 ≤ n ∧ n.toNat < ln) :
    OpOk cmp P o t s (.p b (off + n.toNat * k)) s :=
  .pure fun c w ρ hr ht => by
    have e1 := ht _ _ h1
    rw [hx] at e1
    obtain ⟨kk, e2⟩ := int?_inv (ht _ _ h2) hi
    obtain ⟨cap, hy, hb, _⟩ := e1.ms_inv
    refine ⟨.pointer (some ⟨c.mu b, off + n.toNat * k, none⟩), ?_, .p _ _ hb⟩
    have hin : 0 ≤ n ∧ n < (ln : Int) := ⟨h.1, by omega⟩
    simp [execOp, ho, hy, e2, run_indexAt_slice w ty _ _ _ _ _ (und_slice hu), hin, elem_slice hu, run_sizeOf hk, Addr.add_lit]
theorem ok_idxa {ty e : TypeId} {len k : Nat} {x i : Operand} {x' i' : Arg} (ho : o.op = .indexAddr ty x i) (h1 : cArg x = some x') (h2 : cArg i = some i') (hu : P.underlying ty = some (.array len e)) (hk : kOf P e = some k)
    {n : Int} (hi : (i'.ev t).int? = some n) (h : 0 ≤ n ∧ n < len) {y : AV} (hy : (∃ b off, x'.ev t = .p b off ∧ y = .p b (off + n.toNat * k)) ∨ (∃ cs off, x'.ev t = .q cs off ∧ y = .q cs (off + n.toNat * k))) :
    OpOk cmp P o t s y s :=
  .pure fun c w ρ hr ht => by
    have e1 := ht _ _ h1
    obtain ⟨kk, e2⟩ := int?_inv (ht _ _ h2) hi
    have run : ∀ a : Addr, ρ x = .pointer (some a) → (execOp ρ o).run P w = .ok (.value (.pointer (some (a.add (n.toNat * k))))) w := by
      intro a ha
      simp [execOp, ho, ha, e2, Instr.indexAt, asIntOf, run_underlying hu, Instr.sureAddr, h, run_sizeOf hk]
    rcases hy with ⟨b, off, hx, rfl⟩ | ⟨cs, off, hx, rfl⟩
    · rw [hx] at e1
      obtain ⟨hp, hb⟩ := e1.p_inv
      exact ⟨_, run _ hp, by rw [Addr.add_lit]; exact .p _ _ hb⟩
    · rw [hx] at e1
      obtain ⟨B, q, g, hp, q1, q2⟩ := e1.q_inv
      exact ⟨_, run _ hp, by rw [Addr.add_lit, Nat.add_assoc]; exact .q cs _ B q g q1 q2⟩
theorem ok_idxs {ty : TypeId} {x i : Operand} {x' i' : Arg} (ho : o.op = .index ty x i) (h1 : cArg x = some x') (h2 : cArg i = some i') (hu : P.underlying ty = some .string)
    {b : ByteArray} (hx : x'.ev t = .v (.string b)) {n : Int} (hi : (i'.ev t).int? = some n) (h : 0 ≤ n ∧ n < b.size) : OpOk cmp P o t s (.v (.int .u8 (b.data.toList.getD n.toNat 0).toNat)) s :=
  .pure fun c w ρ hr ht => by
    have e1 := ht _ _ h1
    rw [hx] at e1
    obtain ⟨kk, e2⟩ := int?_inv (ht _ _ h2) hi
    refine ⟨_, ?_, .v _⟩
    have hlt : n.toNat < b.size := by omega
    have hg : (b.data.toList.getD n.toNat 0) = b[n.toNat] := by
      rw [List.getD_eq_getElem?_getD, List.getElem?_eq_getElem (by simpa using hlt)]; rfl
    simp only [execOp, ho, e1.v_inv, e2, Sem.run_bind, run_index_string w ty _ _ _ hu, dif_pos h, Result.andThen_ok, hg, Sem.run_pure]
theorem run_part {ty : TypeId} {ag : Bool} {k off : Nat} {us : List Value} (ha : aggOf P ty = some ag) (hk : kOf P ty = some k) (hak : ag = true ∨ k = 1) (hl : off + k ≤ us.length) (w : World) :
    (part ty us.toArray off).run P w = .ok (if ag then .agg ((us.drop off).take k).toArray else us.getD off undef) w := by
  cases ag with
  | true =>
    have : us.toArray.extract off (off + k) = ((us.drop off).take k).toArray := by
      apply Array.ext'
      simp [List.take_drop, Nat.add_comm]
    simp [part, run_isAgg ha, run_sizeOf hk, this]
  | false =>
    have hk1 : k = 1 := by simpa using hak
    have hlt : off < us.length := by omega
    simp [part, run_isAgg ha, hlt, List.getD_eq_getElem?_getD]
theorem ok_field {ty : TypeId} {x : Operand} {x' : Arg} {i : Nat} {fs : Array Field} {f : Field} {ag : Bool} {k : Nat} (ho : o.op = .field ty x i) (h1 : cArg x = some x') (hu : P.underlying ty = some (.struct fs)) (hf : fs[i]? = some f)
    (ha : aggOf P f.type = some ag) (hk : kOf P f.type = some k) (hak : ag = true ∨ k = 1) {cs : List AV} (hx : x'.ev t = .agg cs) (hl : f.offset + k ≤ cs.length) :
    OpOk cmp P o t s (if ag then .agg ((cs.drop f.offset).take k) else cs.getD f.offset .any) s :=
  .pure fun c w ρ hr ht => by
    have e1 := ht _ _ h1
    rw [hx] at e1
    obtain ⟨us, hus, hR⟩ := e1.agg_inv
    refine ⟨if ag then .agg ((us.drop f.offset).take k).toArray else us.getD f.offset undef, by simp [execOp, ho, hus, Instr.field, run_underlying hu, hf, asAgg, run_part ha hk hak (by rw [hR.1]; exact hl)], ?_⟩
    cases ag with
    | true => simpa using R.agg' ((hR.drop _).take _)
    | false => simpa using hR.get _
theorem ok_idxv {ty e : TypeId} {len : Nat} {x i : Operand} {x' i' : Arg} {ag : Bool} {k : Nat} (ho : o.op = .index ty x i) (h1 : cArg x = some x') (h2 : cArg i = some i') (hu : P.underlying ty = some (.array len e))
    (ha : aggOf P e = some ag) (hk : kOf P e = some k) (hak : ag = true ∨ k = 1) {cs : List AV} (hx : x'.ev t = .agg cs) {n : Int} (hi : (i'.ev t).int? = some n) (h : 0 ≤ n ∧ n < len) (hl : (n.toNat + 1) * k ≤ cs.length) :
    OpOk cmp P o t s (if ag then .agg ((cs.drop (n.toNat * k)).take k) else cs.getD (n.toNat * k) .any) s :=
  .pure fun c w ρ hr ht => by
    have e1 := ht _ _ h1
    rw [hx] at e1
    obtain ⟨us, hus, hR⟩ := e1.agg_inv
    obtain ⟨kk, e2⟩ := int?_inv (ht _ _ h2) hi
    refine ⟨if ag then .agg ((us.drop (n.toNat * k)).take k).toArray else us.getD (n.toNat * k) undef, by simp [execOp, ho, hus, e2, Instr.index, asIntOf, run_underlying hu, h, run_sizeOf hk, run_part ha hk hak (by rw [hR.1]; rw [Nat.add_mul, Nat.one_mul] at hl; exact hl)], ?_⟩
    cases ag with
    | true => simpa using R.agg' ((hR.drop _).take _)
    | false => simpa using hR.get _
theorem ok_len {cl : Call} {x : Operand} {x' : Arg} {ty : TypeId} (ho : o.op = .call cl) (hc : cl.callee = .builtin .len) (hxs : cl.args = #[x]) (hts : cl.argTypes = #[ty]) (h1 : cArg x = some x')
    (hu : P.underlying ty = some .string ∨ (∃ e, P.underlying ty = some (.slice e)) ∨ ∃ k e, P.underlying ty = some (.map k e)) {n : Nat}
    (hx : (∃ b, x'.ev t = .v (.string b) ∧ P.underlying ty = some .string ∧ n = b.size) ∨ (∃ e xs tk, x'.ev t = .sl xs tk ∧ P.underlying ty = some (.slice e) ∧ n = xs.length) ∨ (∃ e b off, x'.ev t = .ms b off n ∧ P.underlying ty = some (.slice e)) ∨
      (∃ b es k e, x'.ev t = .m b ∧ s.get b = .map es ∧ P.underlying ty = some (.map k e) ∧ n = es.length)) : OpOk cmp P o t s (.v (.int .i64 n)) s :=
  .pure fun c w ρ hr ht => by
    have e1 := ht _ _ h1
    refine ⟨.int .i64 n, ?_, .v _⟩
    have key : (Builtin.len_ #[ty] o.type #[ρ x]).run P w = .ok (.int .i64 n) w → (execOp ρ o).run P w = .ok (.value (.int .i64 n)) w := by
      intro h
      simp [execOp, ho, resolve, hc, hxs, hts, invoke, builtin, h]
    apply key
    rcases hx with ⟨b, hx, hty, rfl⟩ | ⟨e, xs, tk, hx, hty, rfl⟩ | ⟨e, b, off, hx, hty⟩ | ⟨b, es, k, e, hx, hg, hty, rfl⟩
    · rw [hx] at e1
      rw [e1.v_inv]
      simp [Builtin.len_, run_underlying hty, goInt]
    · rw [hx] at e1
      rcases e1.sl_inv with ⟨rfl, p0, hy, _⟩ | ⟨k', B, q, cap, g, hy, _⟩ <;> rw [hy] <;> simp [Builtin.len_, run_underlying hty, goInt]
    · rw [hx] at e1
      obtain ⟨cap, hy, _⟩ := e1.ms_inv
      rw [hy]
      simp [Builtin.len_, run_underlying hty, goInt]
    · rw [hx] at e1
      have hb : ρ x = .map (some (c.mu b)) ∧ b < c.n := by generalize ρ x = v at e1; cases e1; exact ⟨rfl, ‹_›⟩
      have hob := hr.obj b (hr.n ▸ hb.2)
      rw [hg] at hob
      obtain ⟨ms, clk, h1, h2⟩ := hob
      rw [hb.1]
      have hsz : ms.size = es.length := by rw [← Array.length_toList]; exact h2.1
      simp [Builtin.len_, run_underlying hty, goInt, getObj, Sem.run, h1, hsz]
theorem optInt_ok {c : Cx} {ρ : Operand → Value} (ht : Ev c t ρ) {x : Option Operand} {x' : Option Arg} (h : cOpt x = some x') {l : Option Int} (hl : optInt t x' = some l) :
    (x.map ρ = none ∧ l = none) ∨ ∃ k n, x.map ρ = some (.int k n) ∧ l = some n := by
  cases x with
  | none => simp [cOpt] at h; subst h; simp [optInt] at hl; exact .inl ⟨rfl, hl.symm⟩
  | some x =>
    simp only [cOpt, Option.map_eq_some_iff] at h
    obtain ⟨y, hy, rfl⟩ := h
    have := ht _ _ hy
    simp only [optInt] at hl
    split at hl
    · rename_i k n hn
      rw [hn] at this
      injection hl with hl
      exact .inr ⟨k, n, by simp [this.v_inv], hl.symm⟩
    · cases hl
theorem ok_slice_str {ty : TypeId} {x : Operand} {x' : Arg} {lo hi mx : Option Operand} {lo' hi' mx' : Option Arg} (ho : o.op = .slice ty x lo hi mx) (h1 : cArg x = some x') (h2 : cOpt lo = some lo') (h3 : cOpt hi = some hi') (h4 : cOpt mx = some mx')
    (hu : P.underlying ty = some .string) {b : ByteArray} (hx : x'.ev t = .v (.string b)) {l h : Option Int} (hl : optInt t lo' = some l) (hh : optInt t hi' = some h) (hm : optInt t mx' = some none)
    (hb : 0 ≤ l.getD 0 ∧ l.getD 0 ≤ h.getD b.size ∧ h.getD b.size ≤ b.size) : OpOk cmp P o t s (.v (.string (b.extract (l.getD 0).toNat (h.getD b.size).toNat))) s :=
  .pure fun c w ρ hr ht => by
    have e1 := ht _ _ h1
    rw [hx] at e1
    refine ⟨_, ?_, .v _⟩
    have hm' : mx.map ρ = none := by
      rcases optInt_ok ht h4 hm with ⟨h, _⟩ | ⟨_, _, _, h⟩
      · exact h
      · cases h
    have hsl : (Instr.sliceBounds false b.size b.size (lo.map ρ) (hi.map ρ) none).run P w = .ok ((l.getD 0).toNat, (h.getD b.size).toNat, b.size) w := by
      rcases optInt_ok ht h2 hl with ⟨e2, rfl⟩ | ⟨kl, nl, e2, rfl⟩ <;> rcases optInt_ok ht h3 hh with ⟨e3, rfl⟩ | ⟨kh, nh, e3, rfl⟩ <;>
        simp only [Option.getD_some, Option.getD_none] at hb ⊢ <;> rw [e2, e3]
      · simp [Instr.sliceBounds]
      · have : (nh.toNat : Int) = nh := by omega
        simp [Instr.sliceBounds, Instr.sliceBound, asIntOf, hb]
      · simp [Instr.sliceBounds, Instr.sliceBound, asIntOf, hb]
      · have e : (nh.toNat : Int) = nh := by omega
        have h0 : 0 ≤ nh := by omega
        simp [Instr.sliceBounds, Instr.sliceBound, asIntOf, hb, e, h0]
    simp [execOp, ho, e1.v_inv, hm', Instr.sliceAt, run_underlying hu, Instr.slice, hsl]
end
end Go.Ab
end
