/- The operations that only read, as one function from an operation to what must hold of what it tells; and that it is right. -/
import Derived.Test.YtniibpihbopehaaM2
namespace Go.Proofs.Ytniibpihbopehaa.M
open Go Go.RowKit
set_option linter.unusedVariables false
set_option linter.unusedSimpArgs false
def intOp (op : BinOp) (k : IntKind) (a b : Int) : Option Value :=
  match op with
  | .add => some (.int k (k.wrap (a + b)))
  | .sub => some (.int k (k.wrap (a - b)))
  | .mul => some (.int k (k.wrap (a * b)))
  | .quo => if b = 0 then none else some (.int k (k.wrap (a.tdiv b)))
  | .rem => if b = 0 then none else some (.int k (a.tmod b))
  | .and => some (.int k (k.wrap (BitVec.ofInt k.bits a &&& BitVec.ofInt k.bits b).toNat))
  | .or => some (.int k (k.wrap (BitVec.ofInt k.bits a ||| BitVec.ofInt k.bits b).toNat))
  | .xor => some (.int k (k.wrap (BitVec.ofInt k.bits a ^^^ BitVec.ofInt k.bits b).toNat))
  | .andNot => some (.int k (k.wrap (BitVec.ofInt k.bits a &&& ~~~BitVec.ofInt k.bits b).toNat))
  | .shl => if b < 0 then none else some (.int k (k.wrap (a * 2 ^ (min b.toNat k.bits))))
  | .shr => if b < 0 then none else some (.int k (a.fdiv (2 ^ (min b.toNat k.bits))))
  | .eql => some (.bool (decide (a = b)))
  | .neq => some (.bool (decide (¬ a = b)))
  | .lss => some (.bool (decide (a < b)))
  | .leq => some (.bool (decide (a ≤ b)))
  | .gtr => some (.bool (decide (b < a)))
  | .geq => some (.bool (decide (b ≤ a)))
def isShift : BinOp → Bool
  | .shl | .shr => true
  | _ => false
variable {P : Program} {w : World}
theorem run_intOp (op : BinOp) (t : TypeId) (k k' : IntKind) (a b : Int) (v : Value) (hk : isShift op = true ∨ k = k') (h : intOp op k a b = some v) : (binOp op t (.int k a) (.int k' b)).run P w = .ok v w := by
  cases op <;> simp only [isShift, Bool.false_eq_true, false_or, reduceCtorEq] at hk <;> simp only [intOp, Option.some.injEq] at h
  case shl =>
    by_cases hb : b < 0
    · simp [hb] at h
    · simp only [hb, if_false, Option.some.injEq] at h; subst h; simp [binOp, Op.shift, hb]
  case shr =>
    by_cases hb : b < 0
    · simp [hb] at h
    · simp only [hb, if_false, Option.some.injEq] at h; subst h; simp [binOp, Op.shift, hb]
  case quo =>
    by_cases hb : b = 0
    · simp [hb] at h
    · simp only [hb, if_false, Option.some.injEq] at h; subst h; subst hk; simp [binOp, Op.intDiv, hb]
  case rem =>
    by_cases hb : b = 0
    · simp [hb] at h
    · simp only [hb, if_false, Option.some.injEq] at h; subst h; subst hk; simp [binOp, Op.intDiv, hb]
  all_goals subst h; subst hk
  case add => simp [binOp, Op.intArith]
  case sub => simp [binOp, Op.intArith]
  case mul => simp [binOp, Op.intArith]
  case and => simp [binOp, Op.intBits]
  case or => simp [binOp, Op.intBits]
  case xor => simp [binOp, Op.intBits]
  case andNot => simp [binOp, Op.intBits]
  case eql => simp [binOp, Op.intCmp]; rfl
  case neq => simp [binOp, Op.intCmp, bne]; rfl
  all_goals simp [binOp, Op.intCmp]
def strOp (op : BinOp) (x y : ByteArray) : Option Value :=
  match op with
  | .eql => some (.bool (decide (x = y)))
  | .neq => some (.bool (decide (¬ x = y)))
  | .lss => some (.bool (Op.bytesLess x.toList y.toList))
  | .leq => some (.bool (Op.bytesLess x.toList y.toList || decide (x = y)))
  | .gtr => some (.bool (!(Op.bytesLess x.toList y.toList || decide (x = y))))
  | .geq => some (.bool (!Op.bytesLess x.toList y.toList))
  | _ => none
theorem str_eq (x y : ByteArray) : (x.toList == y.toList) = decide (x = y) := by
  rw [ByteArray.toList_eq, ByteArray.toList_eq]
  obtain ⟨⟨x⟩⟩ := x
  obtain ⟨⟨y⟩⟩ := y
  show (x == y) = _
  rw [Bool.eq_iff_iff]
  simp
theorem run_strOp (op : BinOp) (t : TypeId) (x y : ByteArray) (v : Value) (h : strOp op x y = some v) : (binOp op t (.string x) (.string y)).run P w = .ok v w := by
  cases op <;> simp only [strOp, Option.some.injEq, reduceCtorEq] at h <;> subst h <;> simp [binOp, Op.stringOp, str_eq]
theorem run_cat (t : TypeId) (x y : ByteArray) (h : x.size + y.size ≤ 9223372036854775807) : (binOp .add t (.string x) (.string y)).run P w = .ok (.string (x ++ y)) w := by
  have : ¬ ((x.size + y.size : Nat) : Int) > IntKind.i64.max := by
    have e : IntKind.i64.max = 9223372036854775807 := rfl
    rw [e]; omega
  simp only [binOp, Op.stringOp]
  rw [if_neg this]; rfl
end Go.Proofs.Ytniibpihbopehaa.M
