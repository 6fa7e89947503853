/- Operations that leave the world alone: their abstract values, proved of the model. No condition. -/
import Derived.Test.YtcjeeoimjkhijaaDoorAb2
namespace Go.Proofs.YtcjeeoimjkhijaaDoor.Ab
open Go Go.RowKit

/-! ### Scalars -/
def bitsV (op : BinOp) (k : IntKind) (x y : Int) : Value :=
  let a := BitVec.ofInt k.bits x
  let b := BitVec.ofInt k.bits y
  match op with
  | .and => .int k (k.wrap ((a &&& b).toNat : Int))
  | .or => .int k (k.wrap ((a ||| b).toNat : Int))
  | .xor => .int k (k.wrap ((a ^^^ b).toNat : Int))
  | _ => .int k (k.wrap ((a &&& ~~~b).toNat : Int))

def intV (op : BinOp) (k : IntKind) (a : Int) (k' : IntKind) (b : Int) : Option (Prop × Value) :=
  match op with
  | .add => some (k = k', .int k (k.wrap (a + b)))
  | .sub => some (k = k', .int k (k.wrap (a - b)))
  | .mul => some (k = k', .int k (k.wrap (a * b)))
  | .quo => some (k = k' ∧ b ≠ 0, .int k (k.wrap (a.tdiv b)))
  | .rem => some (k = k' ∧ b ≠ 0, .int k (a.tmod b))
  | .and => some (k = k', bitsV .and k a b)
  | .or => some (k = k', bitsV .or k a b)
  | .xor => some (k = k', bitsV .xor k a b)
  | .andNot => some (k = k', bitsV .andNot k a b)
  | .shl => some (0 ≤ b, .int k (k.wrap (a * 2 ^ (min b.toNat k.bits))))
  | .shr => some (0 ≤ b, .int k (a.fdiv (2 ^ (min b.toNat k.bits))))
  | .eql => some (k = k', .bool (decide (a = b)))
  | .neq => some (k = k', .bool (!decide (a = b)))
  | .lss => some (k = k', .bool (decide (a < b)))
  | .leq => some (k = k', .bool (decide (a ≤ b)))
  | .gtr => some (k = k', .bool (decide (b < a)))
  | .geq => some (k = k', .bool (decide (b ≤ a)))

def strLt (a b : ByteArray) : Bool := Op.bytesLess a.toList b.toList
def strEq (a b : ByteArray) : Bool := a.toList == b.toList
def strV (op : BinOp) (a b : ByteArray) : Option (Prop × Value) :=
  match op with
  | .add => some (a.size + b.size ≤ maxLen, .string (a ++ b))
  | .eql => some (True, .bool (strEq a b))
  | .neq => some (True, .bool (!strEq a b))
  | .lss => some (True, .bool (strLt a b))
  | .leq => some (True, .bool (strLt a b || strEq a b))
  | .gtr => some (True, .bool (!(strLt a b || strEq a b)))
  | .geq => some (True, .bool (!strLt a b))
  | _ => none

/-- floats: comparisons alone -/
def floatV (op : BinOp) (k : FloatKind) (a : Nat) (k' : FloatKind) (b : Nat) : Option (Prop × Value) :=
  match op with
  | .eql => some (k = k', .bool (k.format.order a b == some .eq))
  | .neq => some (k = k', .bool (k.format.order a b != some .eq))
  | .lss => some (k = k', .bool (k.format.order a b == some .lt))
  | .leq => some (k = k', .bool (k.format.order a b == some .lt || k.format.order a b == some .eq))
  | .gtr => some (k = k', .bool (k.format.order a b == some .gt))
  | .geq => some (k = k', .bool (k.format.order a b == some .gt || k.format.order a b == some .eq))
  | _ => none
theorem run_floatV {P : Program} (w : World) {op : BinOp} {t : TypeId} {k k' : FloatKind} {a b : Nat} {φ : Prop} {v : Value} (h : floatV op k a k' b = some (φ, v)) (hφ : φ) :
    (binOp op t (.float k a) (.float k' b)).run P w = .ok v w := by
  cases op <;> simp only [floatV, Option.some.injEq, Prod.mk.injEq, reduceCtorEq] at h <;> obtain ⟨rfl, rfl⟩ := h
  all_goals
    subst hφ
    simp only [binOp, ne_eq, not_true_eq_false, if_false, Op.floatCmp]
    rfl

theorem run_intV {P : Program} (w : World) {op : BinOp} {t : TypeId} {k k' : IntKind} {a b : Int} {φ : Prop} {v : Value} (h : intV op k a k' b = some (φ, v)) (hφ : φ) :
    (binOp op t (.int k a) (.int k' b)).run P w = .ok v w := by
  cases op <;> simp only [intV, Option.some.injEq, Prod.mk.injEq] at h <;> obtain ⟨rfl, rfl⟩ := h
  case shl =>
    simp only [binOp, Op.shift]
    rw [if_neg (by omega)]; rfl
  case shr =>
    simp only [binOp, Op.shift]
    rw [if_neg (by omega)]; rfl
  case quo =>
    obtain ⟨rfl, h0⟩ := hφ
    simp only [binOp, ne_eq, not_true_eq_false, if_false, Op.intDiv]
    rw [if_neg h0]; rfl
  case rem =>
    obtain ⟨rfl, h0⟩ := hφ
    simp only [binOp, ne_eq, not_true_eq_false, if_false, Op.intDiv]
    rw [if_neg h0]; rfl
  all_goals
    subst hφ
    simp only [binOp, ne_eq, not_true_eq_false, if_false, Op.intArith, Op.intBits, Op.intCmp, bitsV]
    first
      | rfl
      | (show Result.ok _ _ = _; congr 2; first | rfl | (rw [Bool.eq_iff_iff]; simp))

theorem run_strV {P : Program} (w : World) {op : BinOp} {t : TypeId} {a b : ByteArray} {φ : Prop} {v : Value} (h : strV op a b = some (φ, v)) (hφ : φ) :
    (binOp op t (.string a) (.string b)).run P w = .ok v w := by
  cases op <;> simp only [strV, Option.some.injEq, Prod.mk.injEq, reduceCtorEq] at h <;> obtain ⟨rfl, rfl⟩ := h
  case add =>
    simp only [binOp, Op.stringOp]
    rw [if_neg (by simp only [maxLen] at hφ; simp only [IntKind.max, IntKind.bits, IntKind.signed, if_true]; omega)]; rfl
  all_goals rfl
end Go.Proofs.YtcjeeoimjkhijaaDoor.Ab
