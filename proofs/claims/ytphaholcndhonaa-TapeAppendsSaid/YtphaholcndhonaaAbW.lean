/- Words of 32 bits as the program has them. No condition. -/
import Derived.Test.YtphaholcndhonaaAbF
namespace Go.Proofs.Ytphaholcndhonaa.Ab
open Go Go.RowKit
def eW (x : BitVec 32) : E := .v (.int .u32 (x.toNat : Int))
theorem w_of (x : BitVec 32) : BitVec.ofInt 32 (x.toNat : Int) = x := by
  rw [BitVec.ofInt_natCast, BitVec.ofNat_toNat, BitVec.setWidth_eq]
theorem w_wrap (n : Int) : IntKind.u32.wrap n = ((BitVec.ofInt 32 n).toNat : Int) := by
  unfold IntKind.wrap
  rw [BitVec.toNat_ofInt]
  simp [IntKind.bits, IntKind.signed]
  omega
theorem w_id (x : BitVec 32) : IntKind.u32.wrap (x.toNat : Int) = (x.toNat : Int) := by rw [w_wrap, w_of]
theorem w_add (x y : BitVec 32) : IntKind.u32.wrap ((x.toNat : Int) + (y.toNat : Int)) = ((x + y).toNat : Int) := by
  rw [w_wrap, BitVec.ofInt_add, w_of, w_of]
theorem w_xor (x y : BitVec 32) : IntKind.u32.wrap (((BitVec.ofInt IntKind.u32.bits (x.toNat : Int)) ^^^ (BitVec.ofInt IntKind.u32.bits (y.toNat : Int))).toNat : Int) = ((x ^^^ y).toNat : Int) := by
  rw [show IntKind.u32.bits = 32 from rfl, w_of, w_of, w_id]
theorem w_or (x y : BitVec 32) : IntKind.u32.wrap (((BitVec.ofInt IntKind.u32.bits (x.toNat : Int)) ||| (BitVec.ofInt IntKind.u32.bits (y.toNat : Int))).toNat : Int) = ((x ||| y).toNat : Int) := by
  rw [show IntKind.u32.bits = 32 from rfl, w_of, w_of, w_id]
theorem w_and (x y : BitVec 32) : IntKind.u32.wrap (((BitVec.ofInt IntKind.u32.bits (x.toNat : Int)) &&& (BitVec.ofInt IntKind.u32.bits (y.toNat : Int))).toNat : Int) = ((x &&& y).toNat : Int) := by
  rw [show IntKind.u32.bits = 32 from rfl, w_of, w_of, w_id]
theorem xor_ones (y : BitVec 32) : BitVec.ofInt 32 4294967295 ^^^ y = ~~~y := by
  have h : ∀ i, i < 32 → (BitVec.ofInt 32 4294967295).getLsbD i = true := by decide
  apply BitVec.eq_of_getLsbD_eq
  intro i hi
  rw [BitVec.getLsbD_xor, h i hi, BitVec.getLsbD_not]
  simp [hi]
theorem w_not (y : BitVec 32) : IntKind.u32.wrap (((BitVec.ofInt IntKind.u32.bits (4294967295 : Int)) ^^^ (BitVec.ofInt IntKind.u32.bits (y.toNat : Int))).toNat : Int) = ((~~~y).toNat : Int) := by
  rw [show IntKind.u32.bits = 32 from rfl, w_of, xor_ones, w_id]
theorem w_shl (x : BitVec 32) (k : Nat) : IntKind.u32.wrap ((x.toNat : Int) * 2 ^ k) = ((x <<< k).toNat : Int) := by
  rw [w_wrap, BitVec.toNat_shiftLeft, BitVec.toNat_ofInt, Nat.shiftLeft_eq]
  have : ((x.toNat : Int) * 2 ^ k) = ((x.toNat * 2 ^ k : Nat) : Int) := by push_cast; rfl
  rw [this]
  omega
theorem w_shr (x : BitVec 32) (k : Nat) : Int.fdiv (x.toNat : Int) (2 ^ k) = ((x >>> k).toNat : Int) := by
  rw [BitVec.toNat_ushiftRight, Nat.shiftRight_eq_div_pow]
  have : ((2 : Int) ^ k) = ((2 ^ k : Nat) : Int) := by push_cast; rfl
  rw [this, Int.fdiv_eq_ediv_of_nonneg _ (Int.natCast_nonneg _)]
  rfl
/-- a byte as a word -/
theorem w_byte (b : UInt8) : IntKind.u32.wrap (b.toNat : Int) = ((BitVec.ofNat 32 b.toNat).toNat : Int) := by
  rw [w_wrap, BitVec.ofInt_natCast]
end Go.Proofs.Ytphaholcndhonaa.Ab
