/- Words of 32 bits in a walk: a value 'u32 x', x a bit vector, and what each operation makes of it, behind names that the walk does not open. No condition. -/
import Derived.Test.YtbpibblidokhfaaBase
namespace Go.Proofs.Ytbpibblidokhfaa
open Go.ChangeShapes Go.WideShapes Go.ChangeAt Go.RowKit Go.Deep

abbrev W32 := BitVec 32
def u32 (x : W32) : Value := .int .u32 (x.toNat : Int)
def wc (n : Int) : W32 := BitVec.ofInt 32 n
def wxor (a b : W32) : W32 := a ^^^ b
def wand (a b : W32) : W32 := a &&& b
def wor (a b : W32) : W32 := a ||| b
def wnot (a : W32) : W32 := ~~~a
def wadd (a b : W32) : W32 := a + b
def wmul (a b : W32) : W32 := a * b
def wshr (a : W32) (n : Nat) : W32 := a >>> n
def wshl (a : W32) (n : Nat) : W32 := a <<< n
def weq (a : W32) (n : Int) : Bool := (a.toNat : Int) == n
def weqw (a b : W32) : Bool := a == b

theorem weqw_self (a : W32) : weqw a a = true := by simp [weqw]
theorem u32_wf (a : W32) : (Lit.int .u32 (a.toNat : Int)).wf = true := by
  have := a.isLt
  simp [Lit.wf, IntKind.min, IntKind.max, IntKind.signed, IntKind.bits]
  omega

theorem wc_nat (a : W32) : BitVec.ofInt 32 (a.toNat : Int) = a := by
  rw [BitVec.ofInt_natCast]
  simp
theorem wrap_nat (a : W32) : IntKind.u32.wrap (a.toNat : Int) = (a.toNat : Int) := by
  have := a.isLt
  rw [IntKind.wrap_u32]
  omega

theorem eq_u32 (n : Int) : Value.int .u32 (IntKind.u32.wrap n) = u32 (wc n) := by
  unfold u32 wc
  rw [IntKind.wrap_u32, BitVec.toNat_ofInt]
  congr 1
  omega

section
variable {P : Program} (w : World) (t : TypeId) (a b : W32) (n : Int)
@[go_sem] theorem oneCell'_u32 : (u32 a).oneCell' = true := rfl
@[go_sem] theorem cells_u32 : (u32 a).cells = #[u32 a] := rfl
@[go_sem] theorem eqGuard_u32 (op : BinOp) (x y : Operand) (v : Value) : eqGuard op t x y (u32 a) v = pure () := by cases op <;> rfl
theorem bits_u32 (op : BinOp) (x y : Int) : Op.intBits op .u32 x y = match op with
    | .and => pure (u32 (wand (wc x) (wc y))) | .or => pure (u32 (wor (wc x) (wc y))) | .xor => pure (u32 (wxor (wc x) (wc y))) | .andNot => pure (u32 (wand (wc x) (wnot (wc y)))) | _ => stuck "intBits: & | ^ &^ expected" := by
  cases op <;> first | rfl | (simp only [Op.intBits, u32, wand, wor, wxor, wnot, wc, IntKind.bits, wrap_nat]; rfl)
@[go_sem] theorem xor_ww : binOp .xor t (u32 a) (u32 b) = pure (u32 (wxor a b)) := by
  simp only [u32, binOp_xor, bits_u32, wc, wc_nat]
@[go_sem] theorem xor_wc : binOp .xor t (u32 a) (.int .u32 n) = pure (u32 (wxor a (wc n))) := by
  simp only [u32, binOp_xor, bits_u32, wc, wc_nat]
@[go_sem] theorem and_ww : binOp .and t (u32 a) (u32 b) = pure (u32 (wand a b)) := by
  simp only [u32, binOp_and, bits_u32, wc, wc_nat]
@[go_sem] theorem and_wc : binOp .and t (u32 a) (.int .u32 n) = pure (u32 (wand a (wc n))) := by
  simp only [u32, binOp_and, bits_u32, wc, wc_nat]
@[go_sem] theorem or_ww : binOp .or t (u32 a) (u32 b) = pure (u32 (wor a b)) := by
  simp only [u32, binOp_or, bits_u32, wc, wc_nat]
@[go_sem] theorem add_ww : binOp .add t (u32 a) (u32 b) = pure (u32 (wadd a b)) := by
  simp only [u32, binOp_add, Op.intArith]
  rw [eq_u32]
  simp only [u32, wc, wadd, BitVec.ofInt_add, wc_nat]
@[go_sem] theorem mul_ww : binOp .mul t (u32 a) (u32 b) = pure (u32 (wmul a b)) := by
  simp only [u32, binOp_mul, Op.intArith]
  rw [eq_u32]
  simp only [u32, wc, wmul, BitVec.ofInt_mul, wc_nat]
@[go_sem] theorem mul_wc : binOp .mul t (u32 a) (.int .u32 n) = pure (u32 (wmul a (wc n))) := by
  simp only [u32, binOp_mul, Op.intArith]
  rw [eq_u32]
  simp only [u32, wc, wmul, BitVec.ofInt_mul, wc_nat]
@[go_sem] theorem shr_w (k : IntKind) (h : 0 ≤ n) : binOp .shr t (u32 a) (.int k n) = pure (u32 (wshr a n.toNat)) := by
  obtain ⟨m, rfl⟩ := Int.eq_ofNat_of_zero_le h
  simp only [u32, binOp_shr, shift_shr_any _ _ _ _ h, wshr, Int.toNat_natCast, IntKind.bits, BitVec.toNat_ushiftRight]
  congr 2
  have hlt := a.isLt
  by_cases hm : m ≤ 32
  · rw [Nat.min_eq_left hm, Nat.shiftRight_eq_div_pow]; simp
  · rw [Nat.min_eq_right (by omega), Nat.shiftRight_eq_div_pow, Nat.div_eq_of_lt (Nat.lt_of_lt_of_le hlt (Nat.pow_le_pow_right (by decide) (by omega)))]
    omega
@[go_sem] theorem shl_w (k : IntKind) (h : 0 ≤ n) : binOp .shl t (u32 a) (.int k n) = pure (u32 (wshl a n.toNat)) := by
  obtain ⟨m, rfl⟩ := Int.eq_ofNat_of_zero_le h
  simp only [u32, binOp_shl, shift_shl_any _ _ _ _ h, wshl, Int.toNat_natCast, IntKind.bits]
  rw [IntKind.wrap_u32, BitVec.toNat_shiftLeft]
  congr 2
  by_cases hm : m ≤ 32
  · rw [Nat.min_eq_left hm, Nat.shiftLeft_eq]; simp
  · rw [Nat.min_eq_right (by omega), Nat.shiftLeft_eq]
    have e1 : ((a.toNat : Int) * 2 ^ 32) % 4294967296 = 0 := by omega
    have e2 : a.toNat * 2 ^ m % 2 ^ 32 = 0 := by
      have : 2 ^ m = 2 ^ 32 * 2 ^ (m - 32) := by rw [← Nat.pow_add]; congr 1; omega
      rw [this, Nat.mul_left_comm]
      exact Nat.mul_mod_right _ _
    rw [e2]
    exact e1
@[go_sem] theorem eql_wc : binOp .eql t (u32 a) (.int .u32 n) = pure (.bool (weq a n)) := by
  simp only [u32, binOp_eql, weq]
@[go_sem] theorem eql_ww : binOp .eql t (u32 a) (u32 b) = pure (.bool (weqw a b)) := by
  simp only [u32, binOp_eql, weqw]
  congr 2
  rw [Bool.eq_iff_iff]
  simp [BitVec.toNat_eq]
  omega
@[go_sem] theorem not_w : Op.unary .xor (u32 a) = pure (u32 (wnot a)) := by
  have e : BitVec.ofInt 32 IntKind.u32.max = BitVec.allOnes 32 := by decide
  have h : Op.unary .xor (.int .u32 (a.toNat : Int)) = Op.intBits .xor .u32 IntKind.u32.max (a.toNat : Int) := rfl
  unfold u32
  rw [h, bits_u32]
  simp only [u32, wxor, wnot, wc, wc_nat, e, BitVec.allOnes_xor]
/-- a number turned into a word -/
@[go_sem high] theorem run_convert_to_u32 (src dst : TypeId) (k : IntKind) (hs : (P.underlying src).isSome = true) (hd : P.underlying dst = some (.int .u32)) :
    (convert src dst (.int k n)).run P w = .ok (u32 (wc n)) w := by
  obtain ⟨d, hd'⟩ := Option.isSome_iff_exists.mp hs
  rw [← eq_u32]
  simp [convert, run_underlying hd', run_underlying hd, Conv.intToInt]
/-- a word turned into a number -/
@[go_sem] theorem run_convert_from_u32 (src dst : TypeId) (hs : (P.underlying src).isSome = true) (hd : P.underlying dst = some (.int (P.intKind dst))) :
    (convert src dst (u32 a)).run P w = .ok (.int (P.intKind dst) ((P.intKind dst).wrap (a.toNat : Int))) w := by
  obtain ⟨d, hd'⟩ := Option.isSome_iff_exists.mp hs
  simp [u32, convert, run_underlying hd', run_underlying hd, Conv.intToInt]
end
end Go.Proofs.Ytbpibblidokhfaa
