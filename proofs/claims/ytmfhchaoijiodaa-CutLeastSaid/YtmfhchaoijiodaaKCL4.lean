/- Going on. -/
import Derived.Laws.StructEq
import Derived.Laws.Slices
import Derived.Laws.BytesArg
import Derived.Lib.ConvBytes
import Derived.Laws.Cells
import Derived.Laws.Rows
import Derived.Test.YtmfhchaoijiodaaKCL3
section
namespace Go.Ab
open Go.RowKit
set_option linter.unusedVariables false
def strEq (a b : ByteArray) : Bool := a.data.toList == b.data.toList
def strLt (a b : ByteArray) : Bool := Op.bytesLess a.data.toList b.data.toList
theorem strEq_iff (a b : ByteArray) : strEq a b = true ↔ a = b := by
  unfold strEq
  constructor
  · intro h
    have h' := eq_of_beq h
    cases a; cases b
    simp only [ByteArray.mk.injEq]
    exact Array.toList_inj.1 h'
  · rintro rfl; simp
def binV (op : BinOp) : Value → Value → Option Value
  | .int k a, .int k' b =>
    match op with
    | .shl => if b < 0 then none else some (.int k (k.wrap (a * 2 ^ (min b.toNat k.bits))))
    | .shr => if b < 0 then none else some (.int k (a.fdiv (2 ^ (min b.toNat k.bits))))
    | .add => if k = k' then some (.int k (k.wrap (a + b))) else none
    | .sub => if k = k' then some (.int k (k.wrap (a - b))) else none
    | .mul => if k = k' then some (.int k (k.wrap (a * b))) else none
    | .quo => if k = k' ∧ b ≠ 0 then some (.int k (k.wrap (a.tdiv b))) else none
    | .rem => if k = k' ∧ b ≠ 0 then some (.int k (a.tmod b)) else none
    | .and => if k = k' then some (.int k (k.wrap (BitVec.ofInt k.bits a &&& BitVec.ofInt k.bits b).toNat)) else none
    | .or => if k = k' then some (.int k (k.wrap (BitVec.ofInt k.bits a ||| BitVec.ofInt k.bits b).toNat)) else none
    | .xor => if k = k' then some (.int k (k.wrap (BitVec.ofInt k.bits a ^^^ BitVec.ofInt k.bits b).toNat)) else none
    | .andNot => if k = k' then some (.int k (k.wrap (BitVec.ofInt k.bits a &&& ~~~BitVec.ofInt k.bits b).toNat)) else none
    | .eql => if k = k' then some (.bool (a == b)) else none
    | .neq => if k = k' then some (.bool (a != b)) else none
    | .lss => if k = k' then some (.bool (a < b)) else none
    | .leq => if k = k' then some (.bool (a ≤ b)) else none
    | .gtr => if k = k' then some (.bool (b < a)) else none
    | .geq => if k = k' then some (.bool (b ≤ a)) else none
  | .string a, .string b =>
    match op with
    | .add => if ((a.size + b.size : Nat) : Int) ≤ 9223372036854775807 then some (.string (a ++ b)) else none
    | .eql => some (.bool (strEq a b))
    | .neq => some (.bool (!strEq a b))
    | .lss => some (.bool (strLt a b))
    | .leq => some (.bool (strLt a b || strEq a b))
    | .gtr => some (.bool !(strLt a b || strEq a b))
    | .geq => some (.bool !strLt a b)
    | _ => none
  | _, _ => none
theorem run_binV {P : Program} {op : BinOp} {x y r : Value} (h : binV op x y = some r) (t : TypeId) (w : World) : (binOp op t x y).run P w = .ok r w := by
  cases x <;> cases y <;> try (simp [binV] at h; done)
  · rename_i k a k' b
    cases op <;> simp only [binV] at h <;> split at h <;> first | (cases h; done) | skip
    all_goals first
      | (rename_i hk; injection h with h; subst h; try subst hk
         first
           | (obtain ⟨rfl, hb⟩ := hk; simp [binOp, Op.intDiv, hb]; done)
           | (simp only [binOp, ne_eq, not_true_eq_false, if_false]; rfl)
           | (simp only [binOp, Op.shift]; rw [if_neg hk]; rfl))
  · rename_i a b
    cases op <;> simp only [binV] at h <;> first | (cases h; done) | (injection h with h; subst h; simp [binOp, Op.stringOp, strEq, strLt, ByteArray.toList_eq]; done) | skip
    split at h
    · rename_i hs
      injection h with h; subst h
      simp only [binOp, Op.stringOp]
      rw [if_neg (by simp only [IntKind.max]; simp [IntKind.bits, IntKind.signed]; omega)]; rfl
    · cases h
def unV (op : UnOp) : Value → Option Value
  | .int k n => match op with
    | .neg => some (.int k (k.wrap (0 - n)))
    | .xor => some (.int k (k.wrap (BitVec.ofInt k.bits (if k.signed then -1 else k.max) ^^^ BitVec.ofInt k.bits n).toNat))
    | _ => none
  | .bool b => match op with
    | .not => some (.bool !b)
    | _ => none
  | _ => none
theorem run_unV {P : Program} {op : UnOp} {x r : Value} (h : unV op x = some r) (w : World) : (Op.unary op x).run P w = .ok r w := by
  cases x <;> simp only [unV] at h <;> try (cases h; done)
  all_goals cases op <;> simp only at h <;> first | (cases h; done) | (injection h with h; subst h; rfl)
end Go.Ab
end
