/- Words of 64 bits as the program has them. No condition. -/
import Derived.Test.YtcdifgacoleckaaDoorAbF
namespace Go.Proofs.YtcdifgacoleckaaDoor.Ab
open Go Go.RowKit
def eQ (x : BitVec 64) : E := .v (.int .u64 (x.toNat : Int))
theorem q_of (x : BitVec 64) : BitVec.ofInt 64 (x.toNat : Int) = x := by
  rw [BitVec.ofInt_natCast, BitVec.ofNat_toNat, BitVec.setWidth_eq]
theorem q_wrap (n : Int) : IntKind.u64.wrap n = ((BitVec.ofInt 64 n).toNat : Int) := by
  unfold IntKind.wrap
  rw [BitVec.toNat_ofInt]
  simp [IntKind.bits, IntKind.signed]
  omega
theorem q_id (x : BitVec 64) : IntKind.u64.wrap (x.toNat : Int) = (x.toNat : Int) := by rw [q_wrap, q_of]
theorem q_add (x y : BitVec 64) : IntKind.u64.wrap ((x.toNat : Int) + (y.toNat : Int)) = ((x + y).toNat : Int) := by
  rw [q_wrap, BitVec.ofInt_add, q_of, q_of]
theorem q_xor (x y : BitVec 64) : IntKind.u64.wrap (((BitVec.ofInt IntKind.u64.bits (x.toNat : Int)) ^^^ (BitVec.ofInt IntKind.u64.bits (y.toNat : Int))).toNat : Int) = ((x ^^^ y).toNat : Int) := by
  rw [show IntKind.u64.bits = 64 from rfl, q_of, q_of, q_id]
theorem q_or (x y : BitVec 64) : IntKind.u64.wrap (((BitVec.ofInt IntKind.u64.bits (x.toNat : Int)) ||| (BitVec.ofInt IntKind.u64.bits (y.toNat : Int))).toNat : Int) = ((x ||| y).toNat : Int) := by
  rw [show IntKind.u64.bits = 64 from rfl, q_of, q_of, q_id]
theorem q_and (x y : BitVec 64) : IntKind.u64.wrap (((BitVec.ofInt IntKind.u64.bits (x.toNat : Int)) &&& (BitVec.ofInt IntKind.u64.bits (y.toNat : Int))).toNat : Int) = ((x &&& y).toNat : Int) := by
  rw [show IntKind.u64.bits = 64 from rfl, q_of, q_of, q_id]
theorem xorq_ones (y : BitVec 64) : BitVec.ofInt 64 18446744073709551615 ^^^ y = ~~~y := by
  have h : ∀ i, i < 64 → (BitVec.ofInt 64 18446744073709551615).getLsbD i = true := by decide
  apply BitVec.eq_of_getLsbD_eq
  intro i hi
  rw [BitVec.getLsbD_xor, h i hi, BitVec.getLsbD_not]
  simp [hi]
theorem q_not (y : BitVec 64) : IntKind.u64.wrap (((BitVec.ofInt IntKind.u64.bits (18446744073709551615 : Int)) ^^^ (BitVec.ofInt IntKind.u64.bits (y.toNat : Int))).toNat : Int) = ((~~~y).toNat : Int) := by
  rw [show IntKind.u64.bits = 64 from rfl, q_of, xorq_ones, q_id]
theorem q_shl (x : BitVec 64) (k : Nat) : IntKind.u64.wrap ((x.toNat : Int) * 2 ^ k) = ((x <<< k).toNat : Int) := by
  rw [q_wrap, BitVec.toNat_shiftLeft, BitVec.toNat_ofInt, Nat.shiftLeft_eq]
  have : ((x.toNat : Int) * 2 ^ k) = ((x.toNat * 2 ^ k : Nat) : Int) := by push_cast; rfl
  rw [this]
  omega
theorem q_shr (x : BitVec 64) (k : Nat) : Int.fdiv (x.toNat : Int) (2 ^ k) = ((x >>> k).toNat : Int) := by
  rw [BitVec.toNat_ushiftRight, Nat.shiftRight_eq_div_pow]
  have : ((2 : Int) ^ k) = ((2 ^ k : Nat) : Int) := by push_cast; rfl
  rw [this, Int.fdiv_eq_ediv_of_nonneg _ (Int.natCast_nonneg _)]
  rfl
/-- a byte as a word -/
theorem q_byte (b : UInt8) : IntKind.u64.wrap (b.toNat : Int) = ((BitVec.ofNat 64 b.toNat).toNat : Int) := by
  rw [q_wrap, BitVec.ofInt_natCast]
end Go.Proofs.YtcdifgacoleckaaDoor.Ab
