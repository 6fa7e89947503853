/- sum.Crc and the document's Checked. No condition. -/
import Derived.Test.YtphaholcndhonaaTDk
import Derived.Test.YtphaholcndhonaaAbW
namespace Go.Proofs.Ytphaholcndhonaa
open Go Go.RowKit Go.Proofs.Ytphaholcndhonaa.Ab
set_option linter.unusedSimpArgs false
set_option linter.unusedVariables false

abbrev W32 := BitVec 32
def polyW : W32 := 2197175160#32
def stC (c : W32) : W32 := if c &&& 1#32 = 1#32 then (c >>> 1) ^^^ polyW else c >>> 1
def itC : Nat → W32 → W32
  | 0, c => c
  | n + 1, c => itC n (stC c)
def crB (c : W32) (b : UInt8) : W32 := itC 8 (c ^^^ BitVec.ofNat 32 b.toNat)
def crF (l : List UInt8) : W32 := ~~~ (l.foldl crB 4294967295#32)
theorem and1 (c : W32) : c &&& 1#32 = 1#32 ∨ c &&& 1#32 = 0#32 := by
  by_cases h : c.getLsbD 0 = true
  · left
    apply BitVec.eq_of_getLsbD_eq
    intro i hi
    rw [BitVec.getLsbD_and]
    cases i with
    | zero => rw [h]; rfl
    | succ i => rw [show (1#32).getLsbD (i + 1) = false by simp, Bool.and_false]
  · right
    apply BitVec.eq_of_getLsbD_eq
    intro i hi
    rw [BitVec.getLsbD_and]
    cases i with
    | zero => rw [Bool.not_eq_true _ |>.mp h]; rfl
    | succ i => rw [show (1#32).getLsbD (i + 1) = false by simp, Bool.and_false]; simp
theorem shr_xor (a b : W32) (n : Nat) : (a ^^^ b) >>> n = (a >>> n) ^^^ (b >>> n) := by
  apply BitVec.eq_of_getLsbD_eq
  intro i hi
  simp
/-- the document's step -/
theorem ck_step (left x : W32) (i : Nat) : ((left >>> 1) ^^^ (((left ^^^ (x >>> i)) &&& 1#32) * polyW)) ^^^ (x >>> (i + 1)) = stC (left ^^^ (x >>> i)) := by
  have hx : x >>> (i + 1) = (x >>> i) >>> 1 := by
    apply BitVec.eq_of_getLsbD_eq
    intro j hj
    simp only [BitVec.getLsbD_ushiftRight]
    congr 1
    omega
  rw [hx]
  generalize x >>> i = y
  unfold stC
  rw [shr_xor]
  rcases and1 (left ^^^ y) with h | h
  · rw [h, if_pos rfl, show (1#32 * polyW) = polyW from by decide, BitVec.xor_assoc, BitVec.xor_assoc, BitVec.xor_comm polyW]
  · rw [h, if_neg (by decide), show (0#32 * polyW) = 0#32 from by decide, BitVec.xor_zero]
theorem w_eq1 (x : W32) : ((x.toNat : Int) = 1) ↔ x = 1#32 := by
  constructor
  · intro h
    apply BitVec.eq_of_toNat_eq
    show x.toNat = 1
    omega
  · rintro rfl; rfl
theorem w_and1 (x : W32) : IntKind.u32.wrap (((BitVec.ofInt IntKind.u32.bits (x.toNat : Int)) &&& (BitVec.ofInt IntKind.u32.bits (1 : Int))).toNat : Int) = ((x &&& 1#32).toNat : Int) := w_and x 1#32
theorem w_xorP (x : W32) : IntKind.u32.wrap (((BitVec.ofInt IntKind.u32.bits (x.toNat : Int)) ^^^ (BitVec.ofInt IntKind.u32.bits (2197175160 : Int))).toNat : Int) = ((x ^^^ polyW).toNat : Int) := w_xor x polyW
theorem w_shr1 (x : W32) : Int.fdiv (x.toNat : Int) (2 ^ min (Int.toNat 1) IntKind.u32.bits) = ((x >>> 1).toNat : Int) := w_shr x 1
theorem w_shrN (x : W32) (n : Nat) (h : n ≤ 32) : Int.fdiv (x.toNat : Int) (2 ^ min (Int.toNat (n : Int)) IntKind.u32.bits) = ((x >>> n).toNat : Int) := by
  rw [show min (Int.toNat (n : Int)) IntKind.u32.bits = n from Nat.min_eq_left (by rw [Int.toNat_natCast]; exact h)]
  exact w_shr x n
theorem w_mulP (x : W32) : IntKind.u32.wrap ((x.toNat : Int) * 2197175160) = ((x * polyW).toNat : Int) := by
  rw [w_wrap, BitVec.ofInt_mul, w_of]
  rfl
theorem w_cpl2 (x : W32) : IntKind.u32.wrap (((BitVec.ofInt IntKind.u32.bits (x.toNat : Int)) ^^^ (BitVec.ofInt IntKind.u32.bits (4294967295 : Int))).toNat : Int) = ((~~~ x).toNat : Int) := by
  rw [show IntKind.u32.bits = 32 from rfl, w_of, BitVec.xor_comm, xor_ones, w_id]
set_option maxRecDepth 10000 in
set_option maxHeartbeats 2000000 in
theorem crc_fn (b : List UInt8) : FnD Try.prog 29 [.one (.e (eBytes b))] (.one (.e (eW (crF b)))) := by
  refine FnD.len ⟨_, _, Try.func29, rfl, by kernel_rfl⟩ 0 rfl fun hl0 => ?_
  refine fn_intro (T := tab) tOk Try.func29 rfl (by kernel_rfl) (by simp [Try.ntmps29]) ?_
  intro X hX
  have hnt : X.nt = 30 := hX
  clear hX
  have hb : b.length ≤ maxLen := by have h := hl0; rwa [eCells_length] at h
  have hl : (eCells b).length = b.length := eCells_length b
  unfold maxLen at hb
  repeat' (first | refine tr_seq ?_ | refine reg (T := tab) tOk hnt rfl ?_ ?_ | refine regD (T := tab) tOk mixedR hnt rfl (by decide +kernel) ?_ ?_ | refine tr_block ?_ | refine tr_skip ?_)
  · (dsimp only [AllP]; (repeat' first | exact trivial | assumption | exact Nat.le_of_ble_eq_true rfl | apply And.intro | decide | intro _ | exact rfl))
  · (dsimp only [AllP]; (repeat' first | exact trivial | assumption | exact Nat.le_of_ble_eq_true rfl | apply And.intro | decide | intro _ | exact rfl))
  · (dsimp only [AllP]; (repeat' first | exact trivial | assumption | exact Nat.le_of_ble_eq_true rfl | apply And.intro | decide | intro _ | exact rfl))
  repeat' (first | refine tr_seq ?_ | refine tr_block ?_ | refine tr_skip ?_)
  refine tr_loop (σ := Nat × W32) (fun y => St.of [(3, .one (.e (eW y.2))), (6, .one (.e (eBytes b))), (7, .one (.e (eI ((eCells b).length : Int)))), (8, .one (.e (eI (y.1 : Int))))] []) (fun y => (b.drop y.1).foldl crB y.2 = b.foldl crB 4294967295#32 ∧ y.1 ≤ b.length) (fun y => b.length - y.1) ((0, 4294967295#32)) (le_of (ad := []) (by refine ⟨?_, ?_, ?_, ?_, trivial⟩ <;> first | exact trivial | rfl | exact ⟨rfl, rfl⟩ | exact ⟨rfl, rfl, rfl⟩ | exact ⟨rfl, rfl, rfl, rfl⟩ | exact ⟨rfl, rfl, rfl, rfl, rfl⟩ | exact congrArg (fun z : Int => E.v (.int .i64 z)) (wrap64_id (by omega) (by omega)) | exact congrArg (fun z : Int => E.v (.int .u8 z)) (by assumption) | exact congrArg (fun z : ByteArray => E.v (.string z)) (by assumption) | (refine ⟨rfl, ?_⟩; repeat' first | exact trivial | rfl | apply And.intro)) trivial) ⟨rfl, Nat.zero_le _⟩ ?_
  rintro ⟨i, c⟩ ⟨hf, il⟩
  dsimp only at hf il ⊢
  repeat' (first | refine tr_seq ?_ | refine reg (T := tab) tOk hnt rfl ?_ ?_ | refine regD (T := tab) tOk mixedR hnt rfl (by decide +kernel) ?_ ?_ | refine tr_block ?_ | refine tr_skip ?_)
  · (dsimp only [AllP]; (repeat' first | exact trivial | assumption | exact Nat.le_of_ble_eq_true rfl | apply And.intro | decide | intro _ | exact rfl))
  repeat' (first | refine tr_seq ?_ | refine tr_block ?_ | refine tr_skip ?_)
  refine tr_cond rfl (fun hc => ?_) (fun hc => ?_)
  · simp only [condT_tt, condT_ff, condF_tt, condF_ff, notE_t, notE_f, decide_eq_true_eq, decide_eq_false_iff_not] at hc
    (try simp only [hl] at hc)
    (try simp only [condT_tt, condT_ff, condF_tt, condF_ff, notE_t, notE_f, decide_eq_true_eq, decide_eq_false_iff_not] at hc)
    have hlt : i < b.length := by omega
    have hg := eCells_getD b hlt
    rw [drop_getD (d := 0) hlt, List.foldl_cons] at hf
    repeat' (first | refine tr_seq ?_ | refine tr_block ?_ | refine tr_skip ?_)
    first | refine reg (T := tab) tOk hnt rfl ?_ ?_ | refine regD (T := tab) tOk mixedR hnt rfl (by decide +kernel) ?_ ?_
    · rw [Int.toNat_natCast, hg]
      (dsimp only [AllP]; (repeat' first | exact trivial | assumption | exact Nat.le_of_ble_eq_true rfl | apply And.intro | exact eCells_len1 _ _ ‹_› | exact eCells_isByte _ _ ‹_› | (intro hh_; have hg_ := hh_; (try simp only [condT_ff, condF_tt, notE_t, notE_f, Bool.and_eq_true, ne_eq, decide_eq_true_eq, decide_eq_false_iff_not] at hg_)) | intro _ | exact rfl | omega))
    rw [Int.toNat_natCast, hg]
    generalize b.getD i 0 = x at *
    refine tr_le (s' := St.of [(3, .one (.e (eW c))), (5, .one (.e (eB x))), (6, .one (.e (eBytes b))), (7, .one (.e (eI ((eCells b).length : Int)))), (8, .one (.e (eI (i : Int))))] []) (le_of (ad := []) (by refine ⟨?_, ?_, ?_, ?_, ?_, trivial⟩ <;> first | exact trivial | rfl | exact ⟨rfl, rfl⟩ | exact ⟨rfl, rfl, rfl⟩ | exact ⟨rfl, rfl, rfl, rfl⟩ | exact ⟨rfl, rfl, rfl, rfl, rfl⟩ | exact congrArg (fun z : Int => E.v (.int .i64 z)) (wrap64_id (by omega) (by omega)) | exact congrArg (fun z : Int => E.v (.int .u8 z)) (by assumption) | exact congrArg (fun z : ByteArray => E.v (.string z)) (by assumption) | (refine ⟨rfl, ?_⟩; repeat' first | exact trivial | rfl | apply And.intro)) trivial) ?_
    repeat' (first | refine tr_seq ?_ | refine reg (T := tab) tOk hnt rfl ?_ ?_ | refine regD (T := tab) tOk mixedR hnt rfl (by decide +kernel) ?_ ?_ | refine tr_block ?_ | refine tr_skip ?_)
    · (dsimp only [AllP]; (repeat' first | exact trivial | assumption | exact Nat.le_of_ble_eq_true rfl | apply And.intro | decide | intro _ | exact rfl))
    · (dsimp only [AllP]; (repeat' first | exact trivial | assumption | exact Nat.le_of_ble_eq_true rfl | apply And.intro | decide | intro _ | exact rfl))
    rw [w_byte, w_xor]
    repeat' (first | refine tr_seq ?_ | refine tr_block ?_ | refine tr_skip ?_)
    refine tr_loop (σ := Nat × W32) (fun y => St.of [(3, .one (.e (eW y.2))), (6, .one (.e (eBytes b))), (7, .one (.e (eI ((eCells b).length : Int)))), (8, .one (.e (eI (i : Int)))), (16, .one (.e (eI (y.1 : Int))))] []) (fun y => itC (8 - y.1) y.2 = crB c x ∧ y.1 ≤ 8) (fun y => 8 - y.1) ((0, c ^^^ BitVec.ofNat 32 x.toNat)) (le_of (ad := []) (by refine ⟨?_, ?_, ?_, ?_, ?_, trivial⟩ <;> first | exact trivial | rfl | exact ⟨rfl, rfl⟩ | exact ⟨rfl, rfl, rfl⟩ | exact ⟨rfl, rfl, rfl, rfl⟩ | exact ⟨rfl, rfl, rfl, rfl, rfl⟩ | exact congrArg (fun z : Int => E.v (.int .i64 z)) (wrap64_id (by omega) (by omega)) | exact congrArg (fun z : Int => E.v (.int .u8 z)) (by assumption) | exact congrArg (fun z : ByteArray => E.v (.string z)) (by assumption) | (refine ⟨rfl, ?_⟩; repeat' first | exact trivial | rfl | apply And.intro)) trivial) ⟨rfl, Nat.zero_le _⟩ ?_
    rintro ⟨k, z⟩ ⟨hz, kl⟩
    dsimp only at hz kl ⊢
    repeat' (first | refine tr_seq ?_ | refine reg (T := tab) tOk hnt rfl ?_ ?_ | refine regD (T := tab) tOk mixedR hnt rfl (by decide +kernel) ?_ ?_ | refine tr_block ?_ | refine tr_skip ?_)
    · (dsimp only [AllP]; (repeat' first | exact trivial | assumption | exact Nat.le_of_ble_eq_true rfl | apply And.intro | decide | intro _ | exact rfl))
    repeat' (first | refine tr_seq ?_ | refine tr_block ?_ | refine tr_skip ?_)
    refine tr_cond rfl (fun hc => ?_) (fun hc => ?_)
    · simp only [condT_tt, condT_ff, condF_tt, condF_ff, notE_t, notE_f, decide_eq_true_eq, decide_eq_false_iff_not] at hc
      have h65 : IntKind.i64.wrap ((k : Int) + 1) = ((k + 1 : Nat) : Int) := wrap64_id (by omega) (by omega)
      rw [show 8 - k = (8 - (k + 1)) + 1 by omega, itC] at hz
      repeat' (first | refine tr_seq ?_ | refine reg (T := tab) tOk hnt rfl ?_ ?_ | refine regD (T := tab) tOk mixedR hnt rfl (by decide +kernel) ?_ ?_ | refine tr_block ?_ | refine tr_skip ?_)
      · (dsimp only [AllP]; (repeat' first | exact trivial | assumption | exact Nat.le_of_ble_eq_true rfl | apply And.intro | decide | intro _ | exact rfl))
      repeat' (first | refine tr_seq ?_ | refine tr_block ?_ | refine tr_skip ?_)
      refine tr_cond rfl (fun hc => ?_) (fun hc => ?_)
      · have hc : decide (IntKind.u32.wrap (((BitVec.ofInt IntKind.u32.bits (z.toNat : Int)) &&& (BitVec.ofInt IntKind.u32.bits (1 : Int))).toNat : Int) = 1) = true := hc
        rw [w_and1] at hc
        have hc := (w_eq1 _).1 (of_decide_eq_true hc)
        rw [show stC z = (z >>> 1) ^^^ polyW from if_pos hc] at hz
        repeat' (first | refine tr_seq ?_ | refine reg (T := tab) tOk hnt rfl ?_ ?_ | refine regD (T := tab) tOk mixedR hnt rfl (by decide +kernel) ?_ ?_ | refine tr_block ?_ | refine tr_skip ?_)
        · (dsimp only [AllP]; (repeat' first | exact trivial | assumption | exact Nat.le_of_ble_eq_true rfl | apply And.intro | decide | intro _ | exact rfl))
        · (dsimp only [AllP]; (repeat' first | exact trivial | assumption | exact Nat.le_of_ble_eq_true rfl | apply And.intro | decide | intro _ | exact rfl))
        rw [h65, w_shr1, w_xorP]
        refine ⟨(k + 1, (z >>> 1) ^^^ polyW), ⟨hz, by dsimp only; omega⟩, by dsimp only; omega, le_of (ad := []) (by refine ⟨?_, ?_, ?_, ?_, ?_, trivial⟩ <;> first | exact trivial | rfl | exact ⟨rfl, rfl⟩ | exact ⟨rfl, rfl, rfl⟩ | exact ⟨rfl, rfl, rfl, rfl⟩ | exact ⟨rfl, rfl, rfl, rfl, rfl⟩ | exact congrArg (fun z : Int => E.v (.int .i64 z)) (wrap64_id (by omega) (by omega)) | exact congrArg (fun z : Int => E.v (.int .u8 z)) (by assumption) | exact congrArg (fun z : ByteArray => E.v (.string z)) (by assumption) | (refine ⟨rfl, ?_⟩; repeat' first | exact trivial | rfl | apply And.intro)) trivial⟩
      have hc : decide (IntKind.u32.wrap (((BitVec.ofInt IntKind.u32.bits (z.toNat : Int)) &&& (BitVec.ofInt IntKind.u32.bits (1 : Int))).toNat : Int) = 1) = false := hc
      rw [w_and1] at hc
      have hc : ¬ z &&& 1#32 = 1#32 := fun h => of_decide_eq_false hc ((w_eq1 _).2 h)
      rw [show stC z = z >>> 1 from if_neg hc] at hz
      repeat' (first | refine tr_seq ?_ | refine reg (T := tab) tOk hnt rfl ?_ ?_ | refine regD (T := tab) tOk mixedR hnt rfl (by decide +kernel) ?_ ?_ | refine tr_block ?_ | refine tr_skip ?_)
      · (dsimp only [AllP]; (repeat' first | exact trivial | assumption | exact Nat.le_of_ble_eq_true rfl | apply And.intro | decide | intro _ | exact rfl))
      · (dsimp only [AllP]; (repeat' first | exact trivial | assumption | exact Nat.le_of_ble_eq_true rfl | apply And.intro | decide | intro _ | exact rfl))
      rw [h65, w_shr1]
      refine ⟨(k + 1, z >>> 1), ⟨hz, by dsimp only; omega⟩, by dsimp only; omega, le_of (ad := []) (by refine ⟨?_, ?_, ?_, ?_, ?_, trivial⟩ <;> first | exact trivial | rfl | exact ⟨rfl, rfl⟩ | exact ⟨rfl, rfl, rfl⟩ | exact ⟨rfl, rfl, rfl, rfl⟩ | exact ⟨rfl, rfl, rfl, rfl, rfl⟩ | exact congrArg (fun z : Int => E.v (.int .i64 z)) (wrap64_id (by omega) (by omega)) | exact congrArg (fun z : Int => E.v (.int .u8 z)) (by assumption) | exact congrArg (fun z : ByteArray => E.v (.string z)) (by assumption) | (refine ⟨rfl, ?_⟩; repeat' first | exact trivial | rfl | apply And.intro)) trivial⟩
    simp only [condT_tt, condT_ff, condF_tt, condF_ff, notE_t, notE_f, decide_eq_true_eq, decide_eq_false_iff_not] at hc
    refine tr_exit ?_
    rw [show 8 - k = 0 by omega, itC] at hz
    have h64 : IntKind.i64.wrap ((i : Int) + 1) = ((i + 1 : Nat) : Int) := wrap64_id (by omega) (by omega)
    repeat' (first | refine tr_seq ?_ | refine reg (T := tab) tOk hnt rfl ?_ ?_ | refine regD (T := tab) tOk mixedR hnt rfl (by decide +kernel) ?_ ?_ | refine tr_block ?_ | refine tr_skip ?_)
    · (dsimp only [AllP]; (repeat' first | exact trivial | assumption | exact Nat.le_of_ble_eq_true rfl | apply And.intro | decide | intro _ | exact rfl))
    rw [h64]
    refine ⟨(i + 1, z), ⟨by dsimp only; rw [hz]; exact hf, by dsimp only; omega⟩, by dsimp only; omega, le_of (ad := []) (by refine ⟨?_, ?_, ?_, ?_, trivial⟩ <;> first | exact trivial | rfl | exact ⟨rfl, rfl⟩ | exact ⟨rfl, rfl, rfl⟩ | exact ⟨rfl, rfl, rfl, rfl⟩ | exact ⟨rfl, rfl, rfl, rfl, rfl⟩ | exact congrArg (fun z : Int => E.v (.int .i64 z)) (wrap64_id (by omega) (by omega)) | exact congrArg (fun z : Int => E.v (.int .u8 z)) (by assumption) | exact congrArg (fun z : ByteArray => E.v (.string z)) (by assumption) | (refine ⟨rfl, ?_⟩; repeat' first | exact trivial | rfl | apply And.intro)) trivial⟩
  simp only [condT_tt, condT_ff, condF_tt, condF_ff, notE_t, notE_f, decide_eq_true_eq, decide_eq_false_iff_not] at hc
  (try simp only [hl] at hc)
  (try simp only [condT_tt, condT_ff, condF_tt, condF_ff, notE_t, notE_f, decide_eq_true_eq, decide_eq_false_iff_not] at hc)
  refine tr_exit ?_
  rw [List.drop_eq_nil_of_le (by omega), List.foldl_nil] at hf
  repeat' (first | refine tr_seq ?_ | refine reg (T := tab) tOk hnt rfl ?_ ?_ | refine regD (T := tab) tOk mixedR hnt rfl (by decide +kernel) ?_ ?_ | refine tr_block ?_ | refine tr_skip ?_)
  · (dsimp only [AllP]; (repeat' first | exact trivial | assumption | exact Nat.le_of_ble_eq_true rfl | apply And.intro | decide | intro _ | exact rfl))
  refine tr_ret ⟨.inr rfl, _, _, rfl, trivial, ?_⟩
  refine congrArg (fun z : Int => D.one (.e (.v (.int .u32 z)))) ?_
  unfold crF
  rw [← hf]
  exact w_not c
set_option maxRecDepth 10000 in
set_option maxHeartbeats 2000000 in
theorem checked_fn (b : List UInt8) : FnD Try.prog 47 [.one (.e (eBytes b))] (.one (.e (eW (crF b)))) := by
  refine FnD.len ⟨_, _, Try.func47, rfl, by kernel_rfl⟩ 0 rfl fun hl0 => ?_
  refine fn_intro (T := tab) tOk Try.func47 rfl (by kernel_rfl) (by simp [Try.ntmps47]) ?_
  intro X hX
  have hnt : X.nt = 33 := hX
  clear hX
  have hb : b.length ≤ maxLen := by have h := hl0; rwa [eCells_length] at h
  have hl : (eCells b).length = b.length := eCells_length b
  unfold maxLen at hb
  repeat' (first | refine tr_seq ?_ | refine reg (T := tab) tOk hnt rfl ?_ ?_ | refine regD (T := tab) tOk mixedR hnt rfl (by decide +kernel) ?_ ?_ | refine tr_block ?_ | refine tr_skip ?_)
  · (dsimp only [AllP]; (repeat' first | exact trivial | assumption | exact Nat.le_of_ble_eq_true rfl | apply And.intro | decide | intro _ | exact rfl))
  · (dsimp only [AllP]; (repeat' first | exact trivial | assumption | exact Nat.le_of_ble_eq_true rfl | apply And.intro | decide | intro _ | exact rfl))
  · (dsimp only [AllP]; (repeat' first | exact trivial | assumption | exact Nat.le_of_ble_eq_true rfl | apply And.intro | decide | intro _ | exact rfl))
  repeat' (first | refine tr_seq ?_ | refine tr_block ?_ | refine tr_skip ?_)
  refine tr_loop (σ := Nat × W32) (fun y => St.of [(3, .one (.e (eW y.2))), (8, .one (.e (eBytes b))), (9, .one (.e (eI ((eCells b).length : Int)))), (10, .one (.e (eI (y.1 : Int))))] []) (fun y => (b.drop y.1).foldl crB y.2 = b.foldl crB 4294967295#32 ∧ y.1 ≤ b.length) (fun y => b.length - y.1) ((0, 4294967295#32)) (le_of (ad := []) (by refine ⟨?_, ?_, ?_, ?_, trivial⟩ <;> first | exact trivial | rfl | exact ⟨rfl, rfl⟩ | exact ⟨rfl, rfl, rfl⟩ | exact ⟨rfl, rfl, rfl, rfl⟩ | exact ⟨rfl, rfl, rfl, rfl, rfl⟩ | exact congrArg (fun z : Int => E.v (.int .i64 z)) (wrap64_id (by omega) (by omega)) | exact congrArg (fun z : Int => E.v (.int .u8 z)) (by assumption) | exact congrArg (fun z : ByteArray => E.v (.string z)) (by assumption) | (refine ⟨rfl, ?_⟩; repeat' first | exact trivial | rfl | apply And.intro)) trivial) ⟨rfl, Nat.zero_le _⟩ ?_
  rintro ⟨i, c⟩ ⟨hf, il⟩
  dsimp only at hf il ⊢
  repeat' (first | refine tr_seq ?_ | refine reg (T := tab) tOk hnt rfl ?_ ?_ | refine regD (T := tab) tOk mixedR hnt rfl (by decide +kernel) ?_ ?_ | refine tr_block ?_ | refine tr_skip ?_)
  · (dsimp only [AllP]; (repeat' first | exact trivial | assumption | exact Nat.le_of_ble_eq_true rfl | apply And.intro | decide | intro _ | exact rfl))
  repeat' (first | refine tr_seq ?_ | refine tr_block ?_ | refine tr_skip ?_)
  refine tr_cond rfl (fun hc => ?_) (fun hc => ?_)
  · simp only [condT_tt, condT_ff, condF_tt, condF_ff, notE_t, notE_f, decide_eq_true_eq, decide_eq_false_iff_not] at hc
    (try simp only [hl] at hc)
    (try simp only [condT_tt, condT_ff, condF_tt, condF_ff, notE_t, notE_f, decide_eq_true_eq, decide_eq_false_iff_not] at hc)
    have hlt : i < b.length := by omega
    have hg := eCells_getD b hlt
    rw [drop_getD (d := 0) hlt, List.foldl_cons] at hf
    repeat' (first | refine tr_seq ?_ | refine tr_block ?_ | refine tr_skip ?_)
    first | refine reg (T := tab) tOk hnt rfl ?_ ?_ | refine regD (T := tab) tOk mixedR hnt rfl (by decide +kernel) ?_ ?_
    · rw [Int.toNat_natCast, hg]
      (dsimp only [AllP]; (repeat' first | exact trivial | assumption | exact Nat.le_of_ble_eq_true rfl | apply And.intro | exact eCells_len1 _ _ ‹_› | exact eCells_isByte _ _ ‹_› | (intro hh_; have hg_ := hh_; (try simp only [condT_ff, condF_tt, notE_t, notE_f, Bool.and_eq_true, ne_eq, decide_eq_true_eq, decide_eq_false_iff_not] at hg_)) | intro _ | exact rfl | omega))
    rw [Int.toNat_natCast, hg]
    generalize b.getD i 0 = x at *
    repeat' (first | refine tr_seq ?_ | refine reg (T := tab) tOk hnt rfl ?_ ?_ | refine regD (T := tab) tOk mixedR hnt rfl (by decide +kernel) ?_ ?_ | refine tr_block ?_ | refine tr_skip ?_)
    · (dsimp only [AllP]; (repeat' first | exact trivial | assumption | exact Nat.le_of_ble_eq_true rfl | apply And.intro | decide | intro _ | exact rfl))
    repeat' (first | refine tr_seq ?_ | refine tr_block ?_ | refine tr_skip ?_)
    refine tr_loop (σ := Nat × W32) (fun y => St.of [(3, .one (.e (eW y.2))), (5, .one (.e (eB x))), (6, .one (.e (eI (y.1 : Int)))), (8, .one (.e (eBytes b))), (9, .one (.e (eI ((eCells b).length : Int)))), (10, .one (.e (eI (i : Int))))] []) (fun y => itC (8 - y.1) (y.2 ^^^ (BitVec.ofNat 32 x.toNat >>> y.1)) = crB c x ∧ y.1 ≤ 8) (fun y => 8 - y.1) ((0, c)) (le_of (ad := []) (by refine ⟨?_, ?_, ?_, ?_, ?_, ?_, trivial⟩ <;> first | exact trivial | rfl | exact ⟨rfl, rfl⟩ | exact ⟨rfl, rfl, rfl⟩ | exact ⟨rfl, rfl, rfl, rfl⟩ | exact ⟨rfl, rfl, rfl, rfl, rfl⟩ | exact congrArg (fun z : Int => E.v (.int .i64 z)) (wrap64_id (by omega) (by omega)) | exact congrArg (fun z : Int => E.v (.int .u8 z)) (by assumption) | exact congrArg (fun z : ByteArray => E.v (.string z)) (by assumption) | (refine ⟨rfl, ?_⟩; repeat' first | exact trivial | rfl | apply And.intro)) trivial) ⟨by rw [show BitVec.ofNat 32 x.toNat >>> (0, c).1 = BitVec.ofNat 32 x.toNat from rfl]; rfl, Nat.zero_le _⟩ ?_
    rintro ⟨k, z⟩ ⟨hz, kl⟩
    dsimp only at hz kl ⊢
    repeat' (first | refine tr_seq ?_ | refine reg (T := tab) tOk hnt rfl ?_ ?_ | refine regD (T := tab) tOk mixedR hnt rfl (by decide +kernel) ?_ ?_ | refine tr_block ?_ | refine tr_skip ?_)
    · (dsimp only [AllP]; (repeat' first | exact trivial | assumption | exact Nat.le_of_ble_eq_true rfl | apply And.intro | decide | intro _ | exact rfl))
    repeat' (first | refine tr_seq ?_ | refine tr_block ?_ | refine tr_skip ?_)
    refine tr_cond rfl (fun hc => ?_) (fun hc => ?_)
    · simp only [condT_tt, condT_ff, condF_tt, condF_ff, notE_t, notE_f, decide_eq_true_eq, decide_eq_false_iff_not] at hc
      have h65 : IntKind.i64.wrap ((k : Int) + 1) = ((k + 1 : Nat) : Int) := wrap64_id (by omega) (by omega)
      rw [show 8 - k = (8 - (k + 1)) + 1 by omega, itC, ← ck_step] at hz
      repeat' (first | refine tr_seq ?_ | refine tr_block ?_ | refine tr_skip ?_)
      first | refine reg (T := tab) tOk hnt rfl ?_ ?_ | refine regD (T := tab) tOk mixedR hnt rfl (by decide +kernel) ?_ ?_
      · (dsimp only [AllP]; (repeat' first | exact trivial | assumption | exact Nat.le_of_ble_eq_true rfl | apply And.intro | exact eCells_len1 _ _ ‹_› | exact eCells_isByte _ _ ‹_› | (intro hh_; have hg_ := hh_; (try simp only [condT_ff, condF_tt, notE_t, notE_f, Bool.and_eq_true, ne_eq, decide_eq_true_eq, decide_eq_false_iff_not] at hg_)) | intro _ | exact rfl | omega))
        all_goals trace_state
      rw [w_byte, w_shrN _ k (by omega), w_xor, w_and1]
      repeat' (first | refine tr_seq ?_ | refine reg (T := tab) tOk hnt rfl ?_ ?_ | refine regD (T := tab) tOk mixedR hnt rfl (by decide +kernel) ?_ ?_ | refine tr_block ?_ | refine tr_skip ?_)
      · (dsimp only [AllP]; (repeat' first | exact trivial | assumption | exact Nat.le_of_ble_eq_true rfl | apply And.intro | decide | intro _ | exact rfl))
      · (dsimp only [AllP]; (repeat' first | exact trivial | assumption | exact Nat.le_of_ble_eq_true rfl | apply And.intro | decide | intro _ | exact rfl))
      rw [h65, w_shr1, w_mulP, w_xor]
      refine ⟨(k + 1, (z >>> 1) ^^^ (((z ^^^ (BitVec.ofNat 32 x.toNat >>> k)) &&& 1#32) * polyW)), ⟨hz, by dsimp only; omega⟩, by dsimp only; omega, le_of (ad := []) (by refine ⟨?_, ?_, ?_, ?_, ?_, ?_, trivial⟩ <;> first | exact trivial | rfl | exact ⟨rfl, rfl⟩ | exact ⟨rfl, rfl, rfl⟩ | exact ⟨rfl, rfl, rfl, rfl⟩ | exact ⟨rfl, rfl, rfl, rfl, rfl⟩ | exact congrArg (fun z : Int => E.v (.int .i64 z)) (wrap64_id (by omega) (by omega)) | exact congrArg (fun z : Int => E.v (.int .u8 z)) (by assumption) | exact congrArg (fun z : ByteArray => E.v (.string z)) (by assumption) | (refine ⟨rfl, ?_⟩; repeat' first | exact trivial | rfl | apply And.intro)) trivial⟩
    simp only [condT_tt, condT_ff, condF_tt, condF_ff, notE_t, notE_f, decide_eq_true_eq, decide_eq_false_iff_not] at hc
    refine tr_exit ?_
    have hk8 : k = 8 := by omega
    subst hk8
    have hx8 : BitVec.ofNat 32 x.toNat >>> 8 = 0#32 := by
      apply BitVec.eq_of_toNat_eq
      rw [BitVec.toNat_ushiftRight, BitVec.toNat_ofNat, Nat.shiftRight_eq_div_pow]
      have := x.toNat_lt
      rw [Nat.mod_eq_of_lt (by omega)]
      show x.toNat / 256 = 0
      omega
    rw [hx8, BitVec.xor_zero] at hz
    have hz : z = crB c x := hz
    have h64 : IntKind.i64.wrap ((i : Int) + 1) = ((i + 1 : Nat) : Int) := wrap64_id (by omega) (by omega)
    repeat' (first | refine tr_seq ?_ | refine reg (T := tab) tOk hnt rfl ?_ ?_ | refine regD (T := tab) tOk mixedR hnt rfl (by decide +kernel) ?_ ?_ | refine tr_block ?_ | refine tr_skip ?_)
    · (dsimp only [AllP]; (repeat' first | exact trivial | assumption | exact Nat.le_of_ble_eq_true rfl | apply And.intro | decide | intro _ | exact rfl))
    rw [h64]
    refine ⟨(i + 1, z), ⟨by dsimp only; rw [hz]; exact hf, by dsimp only; omega⟩, by dsimp only; omega, le_of (ad := []) (by refine ⟨?_, ?_, ?_, ?_, trivial⟩ <;> first | exact trivial | rfl | exact ⟨rfl, rfl⟩ | exact ⟨rfl, rfl, rfl⟩ | exact ⟨rfl, rfl, rfl, rfl⟩ | exact ⟨rfl, rfl, rfl, rfl, rfl⟩ | exact congrArg (fun z : Int => E.v (.int .i64 z)) (wrap64_id (by omega) (by omega)) | exact congrArg (fun z : Int => E.v (.int .u8 z)) (by assumption) | exact congrArg (fun z : ByteArray => E.v (.string z)) (by assumption) | (refine ⟨rfl, ?_⟩; repeat' first | exact trivial | rfl | apply And.intro)) trivial⟩
  simp only [condT_tt, condT_ff, condF_tt, condF_ff, notE_t, notE_f, decide_eq_true_eq, decide_eq_false_iff_not] at hc
  (try simp only [hl] at hc)
  (try simp only [condT_tt, condT_ff, condF_tt, condF_ff, notE_t, notE_f, decide_eq_true_eq, decide_eq_false_iff_not] at hc)
  refine tr_exit ?_
  rw [List.drop_eq_nil_of_le (by omega), List.foldl_nil] at hf
  repeat' (first | refine tr_seq ?_ | refine reg (T := tab) tOk hnt rfl ?_ ?_ | refine regD (T := tab) tOk mixedR hnt rfl (by decide +kernel) ?_ ?_ | refine tr_block ?_ | refine tr_skip ?_)
  · (dsimp only [AllP]; (repeat' first | exact trivial | assumption | exact Nat.le_of_ble_eq_true rfl | apply And.intro | decide | intro _ | exact rfl))
  refine tr_ret ⟨.inr rfl, _, _, rfl, trivial, ?_⟩
  refine congrArg (fun z : Int => D.one (.e (.v (.int .u32 z)))) ?_
  unfold crF
  rw [← hf]
  exact w_cpl2 c
end Go.Proofs.Ytphaholcndhonaa
namespace Go.Proofs.Ytphaholcndhonaa
open Go Go.RowKit Go.Proofs.Ytphaholcndhonaa.Ab
set_option linter.unusedSimpArgs false
set_option linter.unusedVariables false

def z32 : List UInt8 := List.replicate 32 0
/-- a sector as it is read: the last that was written on it, else what lies there -/
def rdW (i : Int) (x : List UInt8) : List Dput → List UInt8
  | [] => x
  | p :: r => rdW i (if p.k = i then p.b else x) r
def secF (d : Dsk) (i : Int) : List UInt8 := rdW i (d.l.getD i.toNat []) d.w
def rdF (d : Dsk) (i : Int) : List UInt8 × Int := if scF d i ≠ 0 then (z32, scF d i) else (secF d i, 0)
def rSE (q : List UInt8 × Int) : D := .tup [(true, .es (eSec q.1)), (false, .es [eI q.2])]
theorem rdW_app (i : Int) : ∀ (l : List Dput) (x : List UInt8) (p : Dput), rdW i x (l ++ [p]) = if p.k = i then p.b else rdW i x l
  | [], x, p => rfl
  | q :: r, x, p => by rw [List.cons_append, rdW, rdW_app i r]; rfl
theorem rdW_len (i : Int) : ∀ (l : List Dput) (x : List UInt8), x.length = 32 → (∀ p ∈ l, p.b.length = 32) → (rdW i x l).length = 32
  | [], x, h, _ => h
  | p :: r, x, h, k => by
    rw [rdW]
    refine rdW_len i r _ ?_ fun q hq => k q (List.mem_cons_of_mem _ hq)
    split
    · exact k p (List.mem_cons_self ..)
    · exact h
theorem scF_bad2 {d : Dsk} (i : Int) (h : dkF d ≠ 0) : scF d i = dkF d := by unfold scF; rw [if_pos h]
theorem scF_rng2 {d : Dsk} {i : Int} (h : dkF d = 0) (hr : i < 0 ∨ (d.l.length : Int) ≤ i) : scF d i = 6 := by unfold scF; rw [if_neg (not_not_intro h), if_pos hr]
theorem scF_fit2 {d : Dsk} {i : Int} (h : dkF d = 0) (hr : ¬ (i < 0 ∨ (d.l.length : Int) ≤ i)) : scF d i = 0 := by unfold scF; rw [if_neg (not_not_intro h), if_neg hr]
theorem scF_ok {d : Dsk} {i : Int} (h : scF d i = 0) : dkF d = 0 ∧ ¬ (i < 0 ∨ (d.l.length : Int) ≤ i) := by
  unfold scF at h
  split at h
  · rename_i h1; exact absurd h h1
  · rename_i h1
    split at h
    · exact absurd h (by decide)
    · rename_i h2; exact ⟨Classical.not_not.1 h1, h2⟩
theorem secF_len {d : Dsk} {i : Int} (h : d.ok) (hs : scF d i = 0) : (secF d i).length = 32 := by
  obtain ⟨h1, h2⟩ := scF_ok hs
  exact rdW_len i d.w _ (h.l _ (memD (d := []) (by omega))) h.w
theorem dk_le2 {d : Dsk} (h : dkF d = 0) : 1 ≤ d.l.length ∧ d.l.length ≤ 400 ∧ d.w.length ≤ 60 := by
  unfold dkF at h
  split at h
  · exact absurd h (by decide)
  · omega
theorem pk2 (p : Dput) : ((ePut p).getD (0 + 0) E.dflt).int = p.k := rfl
theorem ptB (p : Dput) (h : p.b.length = 32) : List.take 32 (List.drop (0 + 1) (ePut p)) = eSec p.b := by
  show List.take 32 (eSec p.b) = eSec p.b
  exact List.take_of_length_le (by rw [eSec_len h]; exact Nat.le_refl _)
theorem bxA {zs xs : List E} {n : Nat} (hx : xs.length = n) (hz : zs.length = n) : List.take 0 zs ++ xs ++ List.drop (0 + n) zs = xs := by
  simp [← hx, ← hz]
  omega
theorem bxC {zs xs : List E} {n : Nat} (hx : xs.length = n) (hz : zs.length = n) : List.take 0 zs ++ List.take n (List.drop 0 xs) ++ List.drop (0 + n) zs = xs := box_store hx hz
theorem takeS {α : Type} {l : List α} {i : Nat} {d : α} (h : i < l.length) : l.take (i + 1) = l.take i ++ [l.getD i d] := by
  rw [List.take_add_one, List.getElem?_eq_getElem h, List.getD_eq_getElem?_getD, List.getElem?_eq_getElem h]
  rfl
set_option maxRecDepth 10000 in
set_option maxHeartbeats 2000000 in
theorem Read_fn (d : Dsk) (i : Int) (h : d.ok) : FnD Try.prog 44 [.agg (.es (eDsk d)), .one (.e (eI i))] (rSE (rdF d i)) := by
  refine fn_intro (T := tab) tOk Try.func44 rfl (by kernel_rfl) (by simp [Try.ntmps44]) ?_
  intro X hX
  have hnt : X.nt = 46 := hX
  clear hX
  have hll : (d.l.map eSec).length = d.l.length := List.length_map ..
  have hwl : (d.w.map ePut).length = d.w.length := List.length_map ..
  have h1 := dCheck_fn d h
  unfold rdF
  repeat' (first | refine tr_seq ?_ | refine reg (T := tab) tOk hnt rfl ?_ ?_ | refine regD (T := tab) tOk mixedR hnt rfl (by decide +kernel) ?_ ?_ | refine tr_block ?_ | refine tr_skip ?_)
  · (dsimp only [AllP]; (repeat' first | exact trivial | assumption | exact Nat.le_of_ble_eq_true rfl | apply And.intro | decide | intro _ | exact rfl))
  repeat' (first | refine tr_seq ?_ | refine tr_block ?_ | refine tr_skip ?_)
  refine tr_region (lex (T := tab) tOk hnt rfl ?_ (call rfl rfl rfl rfl rfl rfl rfl hnt (h1) (lex (T := tab) tOk hnt rfl ?_ (Lex.nil _)))) ?_
  · (dsimp only [AllP]; (repeat' first | exact trivial | assumption | exact Nat.le_of_ble_eq_true rfl | apply And.intro | exact eCells_len1 _ _ ‹_› | exact eCells_isByte _ _ ‹_› | (intro hh_; have hg_ := hh_; (try simp only [condT_ff, condF_tt, notE_t, notE_f, Bool.and_eq_true, ne_eq, decide_eq_true_eq, decide_eq_false_iff_not] at hg_)) | intro _ | exact rfl | omega))
  · (dsimp only [AllP]; (repeat' first | exact trivial | assumption | exact Nat.le_of_ble_eq_true rfl | apply And.intro | exact eCells_len1 _ _ ‹_› | exact eCells_isByte _ _ ‹_› | (intro hh_; have hg_ := hh_; (try simp only [condT_ff, condF_tt, notE_t, notE_f, Bool.and_eq_true, ne_eq, decide_eq_true_eq, decide_eq_false_iff_not] at hg_)) | intro _ | exact rfl | omega))
  repeat' (first | refine tr_seq ?_ | refine reg (T := tab) tOk hnt rfl ?_ ?_ | refine regD (T := tab) tOk mixedR hnt rfl (by decide +kernel) ?_ ?_ | refine tr_block ?_ | refine tr_skip ?_)
  · (dsimp only [AllP]; (repeat' first | exact trivial | assumption | exact Nat.le_of_ble_eq_true rfl | apply And.intro | decide | intro _ | exact rfl))
  repeat' (first | refine tr_seq ?_ | refine tr_block ?_ | refine tr_skip ?_)
  refine tr_cond rfl (fun hc => ?_) (fun hc => ?_)
  · simp only [condT_tt, condT_ff, condF_tt, condF_ff, notE_t, notE_f, decide_eq_true_eq, decide_eq_false_iff_not] at hc
    rw [scF_bad2 i hc, if_pos hc]
    repeat' (first | refine tr_seq ?_ | refine reg (T := tab) tOk hnt rfl ?_ ?_ | refine regD (T := tab) tOk mixedR hnt rfl (by decide +kernel) ?_ ?_ | refine tr_block ?_ | refine tr_skip ?_)
    · (dsimp only [AllP]; (repeat' first | exact trivial | assumption | exact Nat.le_of_ble_eq_true rfl | apply And.intro | decide | intro _ | exact rfl))
    refine tr_ret ⟨.inr rfl, _, _, rfl, by (repeat' first | exact trivial | exact Nat.le_of_ble_eq_true rfl | apply And.intro), ?_⟩
    exact rfl
  simp only [condT_tt, condT_ff, condF_tt, condF_ff, notE_t, notE_f, decide_eq_true_eq, decide_eq_false_iff_not] at hc
  have hle := dk_le2 hc
  have hdk := hc
  repeat' (first | refine tr_seq ?_ | refine reg (T := tab) tOk hnt rfl ?_ ?_ | refine regD (T := tab) tOk mixedR hnt rfl (by decide +kernel) ?_ ?_ | refine tr_block ?_ | refine tr_skip ?_)
  · (dsimp only [AllP]; (repeat' first | exact trivial | assumption | exact Nat.le_of_ble_eq_true rfl | apply And.intro | decide | intro _ | exact rfl))
  repeat' (first | refine tr_seq ?_ | refine tr_block ?_ | refine tr_skip ?_)
  refine tr_cond rfl (fun hc => ?_) (fun hc => ?_)
  · simp only [condT_tt, condT_ff, condF_tt, condF_ff, notE_t, notE_f, decide_eq_true_eq, decide_eq_false_iff_not] at hc
    (try simp only [dl0 d, hll] at hc)
    (try simp only [condT_tt, condT_ff, condF_tt, condF_ff, notE_t, notE_f, decide_eq_true_eq, decide_eq_false_iff_not] at hc)
    rw [scF_rng2 hdk (by omega), if_pos (by decide)]
    repeat' (first | refine tr_seq ?_ | refine reg (T := tab) tOk hnt rfl ?_ ?_ | refine regD (T := tab) tOk mixedR hnt rfl (by decide +kernel) ?_ ?_ | refine tr_block ?_ | refine tr_skip ?_)
    · (dsimp only [AllP]; (repeat' first | exact trivial | assumption | exact Nat.le_of_ble_eq_true rfl | apply And.intro | decide | intro _ | exact rfl))
    refine tr_ret ⟨.inr rfl, _, _, rfl, by (repeat' first | exact trivial | exact Nat.le_of_ble_eq_true rfl | apply And.intro), ?_⟩
    exact rfl
  simp only [condT_tt, condT_ff, condF_tt, condF_ff, notE_t, notE_f, decide_eq_true_eq, decide_eq_false_iff_not] at hc
  (try simp only [dl0 d, hll] at hc)
  (try simp only [condT_tt, condT_ff, condF_tt, condF_ff, notE_t, notE_f, decide_eq_true_eq, decide_eq_false_iff_not] at hc)
  rw [scF_fit2 hdk (by omega), if_neg (by decide)]
  have hlt : i.toNat < d.l.length := by omega
  have hg := secGet d.l i.toNat hlt
  have hs := h.l _ (memD (d := []) hlt)
  have hsl := eSec_len hs
  have hr : rdW i (d.l.getD i.toNat []) d.w = secF d i := rfl
  generalize d.l.getD i.toNat [] = x at *
  have hf32 : 0 + 32 ≤ (Cs.es (eSec x)).len := by show _ ≤ (eSec _).length; omega
  have ht32 := take_all hsl
  repeat' (first | refine tr_seq ?_ | refine tr_block ?_ | refine tr_skip ?_)
  first | refine reg (T := tab) tOk hnt rfl ?_ ?_ | refine regD (T := tab) tOk mixedR hnt rfl (by decide +kernel) ?_ ?_
  · rw [dl0, hg, hll]
    (dsimp only [AllP]; (repeat' first | exact trivial | assumption | exact Nat.le_of_ble_eq_true rfl | apply And.intro | exact eCells_len1 _ _ ‹_› | exact eCells_isByte _ _ ‹_› | (intro hh_; have hg_ := hh_; (try simp only [condT_ff, condF_tt, notE_t, notE_f, Bool.and_eq_true, ne_eq, decide_eq_true_eq, decide_eq_false_iff_not] at hg_)) | intro _ | exact rfl | omega))
  rw [dl0, hg]
  repeat' (first | refine tr_seq ?_ | refine tr_block ?_ | refine tr_skip ?_)
  first | refine reg (T := tab) tOk hnt rfl ?_ ?_ | refine regD (T := tab) tOk mixedR hnt rfl (by decide +kernel) ?_ ?_
  · (dsimp only [AllP]; (repeat' first | exact trivial | assumption | exact Nat.le_of_ble_eq_true rfl | apply And.intro | exact eCells_len1 _ _ ‹_› | exact eCells_isByte _ _ ‹_› | (intro hh_; have hg_ := hh_; (try simp only [condT_ff, condF_tt, notE_t, notE_f, Bool.and_eq_true, ne_eq, decide_eq_true_eq, decide_eq_false_iff_not] at hg_)) | intro _ | exact rfl | omega))
  repeat' (first | refine tr_seq ?_ | refine tr_block ?_ | refine tr_skip ?_)
  refine tr_loop (σ := Nat × List UInt8) (fun y => St.of [(1, .one (.e (eI i))), (4, .one (.ptr 4 0 0)), (7, .one (.ptr 7 0 0)), (32, .one (.e (.sl (d.w.map ePut)))), (33, .one (.e (eI ((d.w.map ePut).length : Int)))), (34, .one (.e (eI (y.1 : Int))))] [(4, ⟨0, .box (.es (eSec z32)), 0⟩), (7, ⟨0, .box (.es (eSec y.2)), 0⟩)]) (fun y => rdW i y.2 (d.w.drop y.1) = secF d i ∧ y.2.length = 32 ∧ y.1 ≤ d.w.length) (fun y => d.w.length - y.1) ((0, x)) (le_of (ad := []) (by refine ⟨?_, ?_, ?_, ?_, ?_, ?_, trivial⟩ <;> first | exact trivial | rfl | exact ⟨rfl, rfl⟩ | exact ⟨rfl, rfl, rfl⟩ | exact ⟨rfl, rfl, rfl, rfl⟩ | exact ⟨rfl, rfl, rfl, rfl, rfl⟩ | exact congrArg (fun z : Int => E.v (.int .i64 z)) (wrap64_id (by omega) (by omega)) | exact congrArg (fun z : Int => E.v (.int .u8 z)) (by assumption) | exact congrArg (fun z : ByteArray => E.v (.string z)) (by assumption) | (refine ⟨rfl, ?_⟩; repeat' first | exact trivial | rfl | apply And.intro)) (memOk_box rfl rfl rfl (memOk_box rfl rfl (box_store hsl rfl) trivial))) ⟨hr, hs, Nat.zero_le _⟩ ?_
  rintro ⟨j, b⟩ ⟨hw, hb, il⟩
  dsimp only at hw hb il ⊢
  have hbl := eSec_len hb
  repeat' (first | refine tr_seq ?_ | refine reg (T := tab) tOk hnt rfl ?_ ?_ | refine regD (T := tab) tOk mixedR hnt rfl (by decide +kernel) ?_ ?_ | refine tr_block ?_ | refine tr_skip ?_)
  · (dsimp only [AllP]; (repeat' first | exact trivial | assumption | exact Nat.le_of_ble_eq_true rfl | apply And.intro | decide | intro _ | exact rfl))
  repeat' (first | refine tr_seq ?_ | refine tr_block ?_ | refine tr_skip ?_)
  refine tr_cond rfl (fun hc => ?_) (fun hc => ?_)
  · simp only [condT_tt, condT_ff, condF_tt, condF_ff, notE_t, notE_f, decide_eq_true_eq, decide_eq_false_iff_not] at hc
    (try simp only [hwl] at hc)
    (try simp only [condT_tt, condT_ff, condF_tt, condF_ff, notE_t, notE_f, decide_eq_true_eq, decide_eq_false_iff_not] at hc)
    have hlt2 : j < d.w.length := by omega
    have hg2 := putGet d.w j hlt2
    have hpo := h.w _ (memD (d := dp0) hlt2)
    have hpl := ePut_len hpo
    rw [drop_getD (d := dp0) hlt2, rdW] at hw
    have hf33 : 0 + 33 ≤ (Cs.es (ePut (d.w.getD j dp0))).len := by show _ ≤ (ePut _).length; omega
    have ht33 := take_all hpl
    repeat' (first | refine tr_seq ?_ | refine tr_block ?_ | refine tr_skip ?_)
    first | refine reg (T := tab) tOk hnt rfl ?_ ?_ | refine regD (T := tab) tOk mixedR hnt rfl (by decide +kernel) ?_ ?_
    · rw [Int.toNat_natCast, hg2, hwl]
      (dsimp only [AllP]; (repeat' first | exact trivial | assumption | exact Nat.le_of_ble_eq_true rfl | apply And.intro | exact eCells_len1 _ _ ‹_› | exact eCells_isByte _ _ ‹_› | (intro hh_; have hg_ := hh_; (try simp only [condT_ff, condF_tt, notE_t, notE_f, Bool.and_eq_true, ne_eq, decide_eq_true_eq, decide_eq_false_iff_not] at hg_)) | intro _ | exact rfl | omega))
    rw [Int.toNat_natCast, hg2]
    generalize d.w.getD j dp0 = p at *
    refine tr_le (s' := St.of [(1, .one (.e (eI i))), (4, .one (.ptr 4 0 0)), (7, .one (.ptr 7 0 0)), (9, .one (.ptr 9 0 0)), (32, .one (.e (.sl (d.w.map ePut)))), (33, .one (.e (eI ((d.w.map ePut).length : Int)))), (34, .one (.e (eI (j : Int))))] [(4, ⟨0, .box (.es (eSec z32)), 0⟩), (7, ⟨0, .box (.es (eSec b)), 0⟩), (9, ⟨0, .box (.es (ePut p)), 0⟩)]) (le_of (ad := []) (by refine ⟨?_, ?_, ?_, ?_, ?_, ?_, ?_, trivial⟩ <;> first | exact trivial | rfl | exact ⟨rfl, rfl⟩ | exact ⟨rfl, rfl, rfl⟩ | exact ⟨rfl, rfl, rfl, rfl⟩ | exact ⟨rfl, rfl, rfl, rfl, rfl⟩ | exact congrArg (fun z : Int => E.v (.int .i64 z)) (wrap64_id (by omega) (by omega)) | exact congrArg (fun z : Int => E.v (.int .u8 z)) (by assumption) | exact congrArg (fun z : ByteArray => E.v (.string z)) (by assumption) | (refine ⟨rfl, ?_⟩; repeat' first | exact trivial | rfl | apply And.intro)) (memOk_box rfl rfl rfl (memOk_box rfl rfl rfl (memOk_box rfl rfl (box_store hpl rfl) trivial)))) ?_
    have hf1 : 0 < (ePut p).length := by omega
    have hf1' : 0 + 1 + 32 ≤ (Cs.es (ePut p)).len := by show _ ≤ (ePut p).length; omega
    have hpt := ptB p hpo
    have hpsl := eSec_len hpo
    have hpt2 : (Cs.es (List.take 32 (List.drop (0 + 1) (ePut p)))).len = 32 := by rw [hpt]; exact hpsl
    have hfb : 0 + 32 ≤ (Cs.es (eSec b)).len := by show _ ≤ (eSec _).length; omega
    have h64 : IntKind.i64.wrap ((j : Int) + 1) = ((j + 1 : Nat) : Int) := wrap64_id (by omega) (by omega)
    repeat' (first | refine tr_seq ?_ | refine tr_block ?_ | refine tr_skip ?_)
    first | refine reg (T := tab) tOk hnt rfl ?_ ?_ | refine regD (T := tab) tOk mixedR hnt rfl (by decide +kernel) ?_ ?_
    · (dsimp only [AllP]; (repeat' first | exact trivial | assumption | exact Nat.le_of_ble_eq_true rfl | apply And.intro | exact eCells_len1 _ _ ‹_› | exact eCells_isByte _ _ ‹_› | (intro hh_; have hg_ := hh_; (try simp only [condT_ff, condF_tt, notE_t, notE_f, Bool.and_eq_true, ne_eq, decide_eq_true_eq, decide_eq_false_iff_not] at hg_)) | intro _ | exact rfl | omega))
    repeat' (first | refine tr_seq ?_ | refine tr_block ?_ | refine tr_skip ?_)
    refine tr_cond rfl (fun hc => ?_) (fun hc => ?_)
    · simp only [condT_tt, condT_ff, condF_tt, condF_ff, notE_t, notE_f, decide_eq_true_eq, decide_eq_false_iff_not] at hc
      (try simp only [pk2 p] at hc)
      (try simp only [condT_tt, condT_ff, condF_tt, condF_ff, notE_t, notE_f, decide_eq_true_eq, decide_eq_false_iff_not] at hc)
      rw [if_pos hc] at hw
      repeat' (first | refine tr_seq ?_ | refine tr_block ?_ | refine tr_skip ?_)
      first | refine reg (T := tab) tOk hnt rfl ?_ ?_ | refine regD (T := tab) tOk mixedR hnt rfl (by decide +kernel) ?_ ?_
      · (dsimp only [AllP]; (repeat' first | exact trivial | assumption | exact Nat.le_of_ble_eq_true rfl | apply And.intro | exact eCells_len1 _ _ ‹_› | exact eCells_isByte _ _ ‹_› | (intro hh_; have hg_ := hh_; (try simp only [condT_ff, condF_tt, notE_t, notE_f, Bool.and_eq_true, ne_eq, decide_eq_true_eq, decide_eq_false_iff_not] at hg_)) | intro _ | exact rfl | omega))
        all_goals trace_state
      rw [hpt]
      repeat' (first | refine tr_seq ?_ | refine reg (T := tab) tOk hnt rfl ?_ ?_ | refine regD (T := tab) tOk mixedR hnt rfl (by decide +kernel) ?_ ?_ | refine tr_block ?_ | refine tr_skip ?_)
      · (dsimp only [AllP]; (repeat' first | exact trivial | assumption | exact Nat.le_of_ble_eq_true rfl | apply And.intro | decide | intro _ | exact rfl))
      rw [h64]
      refine ⟨(j + 1, p.b), ⟨hw, hpo, by dsimp only; omega⟩, by dsimp only; omega, le_of (ad := []) (by refine ⟨?_, ?_, ?_, ?_, ?_, ?_, trivial⟩ <;> first | exact trivial | rfl | exact ⟨rfl, rfl⟩ | exact ⟨rfl, rfl, rfl⟩ | exact ⟨rfl, rfl, rfl, rfl⟩ | exact ⟨rfl, rfl, rfl, rfl, rfl⟩ | exact congrArg (fun z : Int => E.v (.int .i64 z)) (wrap64_id (by omega) (by omega)) | exact congrArg (fun z : Int => E.v (.int .u8 z)) (by assumption) | exact congrArg (fun z : ByteArray => E.v (.string z)) (by assumption) | (refine ⟨rfl, ?_⟩; repeat' first | exact trivial | rfl | apply And.intro)) (memOk_box rfl rfl rfl (memOk_box rfl rfl (bxA hpsl hbl) trivial))⟩
    simp only [condT_tt, condT_ff, condF_tt, condF_ff, notE_t, notE_f, decide_eq_true_eq, decide_eq_false_iff_not] at hc
    (try simp only [pk2 p] at hc)
    (try simp only [condT_tt, condT_ff, condF_tt, condF_ff, notE_t, notE_f, decide_eq_true_eq, decide_eq_false_iff_not] at hc)
    rw [if_neg hc] at hw
    repeat' (first | refine tr_seq ?_ | refine reg (T := tab) tOk hnt rfl ?_ ?_ | refine regD (T := tab) tOk mixedR hnt rfl (by decide +kernel) ?_ ?_ | refine tr_block ?_ | refine tr_skip ?_)
    · (dsimp only [AllP]; (repeat' first | exact trivial | assumption | exact Nat.le_of_ble_eq_true rfl | apply And.intro | decide | intro _ | exact rfl))
    rw [h64]
    refine ⟨(j + 1, b), ⟨hw, hb, by dsimp only; omega⟩, by dsimp only; omega, le_of (ad := []) (by refine ⟨?_, ?_, ?_, ?_, ?_, ?_, trivial⟩ <;> first | exact trivial | rfl | exact ⟨rfl, rfl⟩ | exact ⟨rfl, rfl, rfl⟩ | exact ⟨rfl, rfl, rfl, rfl⟩ | exact ⟨rfl, rfl, rfl, rfl, rfl⟩ | exact congrArg (fun z : Int => E.v (.int .i64 z)) (wrap64_id (by omega) (by omega)) | exact congrArg (fun z : Int => E.v (.int .u8 z)) (by assumption) | exact congrArg (fun z : ByteArray => E.v (.string z)) (by assumption) | (refine ⟨rfl, ?_⟩; repeat' first | exact trivial | rfl | apply And.intro)) (memOk_box rfl rfl rfl (memOk_box rfl rfl rfl trivial))⟩
  simp only [condT_tt, condT_ff, condF_tt, condF_ff, notE_t, notE_f, decide_eq_true_eq, decide_eq_false_iff_not] at hc
  (try simp only [hwl] at hc)
  (try simp only [condT_tt, condT_ff, condF_tt, condF_ff, notE_t, notE_f, decide_eq_true_eq, decide_eq_false_iff_not] at hc)
  refine tr_exit ?_
  rw [List.drop_eq_nil_of_le (by omega), rdW] at hw
  rw [← hw]
  have hf32 : 0 + 32 ≤ (Cs.es (eSec b)).len := by show _ ≤ (eSec _).length; omega
  have ht32 := take_all hbl
  repeat' (first | refine tr_seq ?_ | refine tr_block ?_ | refine tr_skip ?_)
  first | refine reg (T := tab) tOk hnt rfl ?_ ?_ | refine regD (T := tab) tOk mixedR hnt rfl (by decide +kernel) ?_ ?_
  · (dsimp only [AllP]; (repeat' first | exact trivial | assumption | exact Nat.le_of_ble_eq_true rfl | apply And.intro | exact eCells_len1 _ _ ‹_› | exact eCells_isByte _ _ ‹_› | (intro hh_; have hg_ := hh_; (try simp only [condT_ff, condF_tt, notE_t, notE_f, Bool.and_eq_true, ne_eq, decide_eq_true_eq, decide_eq_false_iff_not] at hg_)) | intro _ | exact rfl | omega))
  refine tr_le (s' := St.of [(4, .one (.ptr 4 0 0)), (5, .one (.e (eI 0)))] [(4, ⟨0, .box (.es (eSec b)), 0⟩)]) (le_of (ad := []) (by refine ⟨?_, ?_, trivial⟩ <;> first | exact trivial | rfl | exact ⟨rfl, rfl⟩ | exact ⟨rfl, rfl, rfl⟩ | exact ⟨rfl, rfl, rfl, rfl⟩ | exact ⟨rfl, rfl, rfl, rfl, rfl⟩ | exact congrArg (fun z : Int => E.v (.int .i64 z)) (wrap64_id (by omega) (by omega)) | exact congrArg (fun z : Int => E.v (.int .u8 z)) (by assumption) | exact congrArg (fun z : ByteArray => E.v (.string z)) (by assumption) | (refine ⟨rfl, ?_⟩; repeat' first | exact trivial | rfl | apply And.intro)) (memOk_box rfl rfl (bxC hbl rfl) trivial)) ?_
  refine tr_ret ⟨.inr rfl, _, _, rfl, by (repeat' first | exact trivial | exact Nat.le_of_eq hbl.symm | exact Nat.le_of_ble_eq_true rfl | apply And.intro), ?_⟩
  unfold rSE
  refine congrArg (fun z => D.tup [(true, .es z), (false, .es [eI 0])]) ?_
  rw [List.drop_zero]
  exact List.take_of_length_le (Nat.le_of_eq hbl)
set_option maxRecDepth 10000 in
set_option maxHeartbeats 2000000 in
theorem SectorOf_fn (d : Dsk) (i : Int) (h : d.ok) : FnD Try.prog 46 [.agg (.es (eDsk d)), .one (.e (eI i))] (rSE (rdF d i)) := by
  refine fn_intro (T := tab) tOk Try.func46 rfl (by kernel_rfl) (by simp [Try.ntmps46]) ?_
  intro X hX
  have hnt : X.nt = 42 := hX
  clear hX
  have hll : (d.l.map eSec).length = d.l.length := List.length_map ..
  have hwl : (d.w.map ePut).length = d.w.length := List.length_map ..
  have h1 := sFault_fn d i h
  unfold rdF
  repeat' (first | refine tr_seq ?_ | refine reg (T := tab) tOk hnt rfl ?_ ?_ | refine regD (T := tab) tOk mixedR hnt rfl (by decide +kernel) ?_ ?_ | refine tr_block ?_ | refine tr_skip ?_)
  · (dsimp only [AllP]; (repeat' first | exact trivial | assumption | exact Nat.le_of_ble_eq_true rfl | apply And.intro | decide | intro _ | exact rfl))
  repeat' (first | refine tr_seq ?_ | refine tr_block ?_ | refine tr_skip ?_)
  refine tr_region (lex (T := tab) tOk hnt rfl ?_ (call rfl rfl rfl rfl rfl rfl rfl hnt (h1) (lex (T := tab) tOk hnt rfl ?_ (Lex.nil _)))) ?_
  · (dsimp only [AllP]; (repeat' first | exact trivial | assumption | exact Nat.le_of_ble_eq_true rfl | apply And.intro | exact eCells_len1 _ _ ‹_› | exact eCells_isByte _ _ ‹_› | (intro hh_; have hg_ := hh_; (try simp only [condT_ff, condF_tt, notE_t, notE_f, Bool.and_eq_true, ne_eq, decide_eq_true_eq, decide_eq_false_iff_not] at hg_)) | intro _ | exact rfl | omega))
  · (dsimp only [AllP]; (repeat' first | exact trivial | assumption | exact Nat.le_of_ble_eq_true rfl | apply And.intro | exact eCells_len1 _ _ ‹_› | exact eCells_isByte _ _ ‹_› | (intro hh_; have hg_ := hh_; (try simp only [condT_ff, condF_tt, notE_t, notE_f, Bool.and_eq_true, ne_eq, decide_eq_true_eq, decide_eq_false_iff_not] at hg_)) | intro _ | exact rfl | omega))
  repeat' (first | refine tr_seq ?_ | refine reg (T := tab) tOk hnt rfl ?_ ?_ | refine regD (T := tab) tOk mixedR hnt rfl (by decide +kernel) ?_ ?_ | refine tr_block ?_ | refine tr_skip ?_)
  · (dsimp only [AllP]; (repeat' first | exact trivial | assumption | exact Nat.le_of_ble_eq_true rfl | apply And.intro | decide | intro _ | exact rfl))
  repeat' (first | refine tr_seq ?_ | refine tr_block ?_ | refine tr_skip ?_)
  refine tr_cond rfl (fun hc => ?_) (fun hc => ?_)
  · simp only [condT_tt, condT_ff, condF_tt, condF_ff, notE_t, notE_f, decide_eq_true_eq, decide_eq_false_iff_not] at hc
    rw [if_pos hc]
    repeat' (first | refine tr_seq ?_ | refine reg (T := tab) tOk hnt rfl ?_ ?_ | refine regD (T := tab) tOk mixedR hnt rfl (by decide +kernel) ?_ ?_ | refine tr_block ?_ | refine tr_skip ?_)
    · (dsimp only [AllP]; (repeat' first | exact trivial | assumption | exact Nat.le_of_ble_eq_true rfl | apply And.intro | decide | intro _ | exact rfl))
    refine tr_ret ⟨.inr rfl, _, _, rfl, by (repeat' first | exact trivial | exact Nat.le_of_ble_eq_true rfl | apply And.intro), ?_⟩
    exact rfl
  simp only [condT_tt, condT_ff, condF_tt, condF_ff, notE_t, notE_f, decide_eq_true_eq, decide_eq_false_iff_not] at hc
  rw [if_neg (not_not_intro hc)]
  obtain ⟨hdk, hir⟩ := scF_ok hc
  have hle := dk_le2 hdk
  have hlt : i.toNat < d.l.length := by omega
  have hg := secGet d.l i.toNat hlt
  have hs := h.l _ (memD (d := []) hlt)
  have hr : rdW i (d.l.getD i.toNat []) (d.w.take d.w.length) = secF d i := by rw [List.take_length]; rfl
  have hsl := eSec_len hs
  generalize d.l.getD i.toNat [] = x at *
  have hf32 : 0 + 32 ≤ (Cs.es (eSec x)).len := by show _ ≤ (eSec _).length; omega
  have ht32 := take_all hsl
  have hz32 : 0 + 32 ≤ (Cs.es (eSec z32)).len := Nat.le_of_eq rfl
  have h63 : IntKind.i64.wrap (((d.w.map ePut).length : Int) - 1) = (d.w.length : Int) - 1 := by rw [hwl]; exact wrap64_id (by omega) (by omega)
  repeat' (first | refine tr_seq ?_ | refine tr_block ?_ | refine tr_skip ?_)
  first | refine reg (T := tab) tOk hnt rfl ?_ ?_ | refine regD (T := tab) tOk mixedR hnt rfl (by decide +kernel) ?_ ?_
  · (dsimp only [AllP]; (repeat' first | exact trivial | assumption | exact Nat.le_of_ble_eq_true rfl | apply And.intro | exact eCells_len1 _ _ ‹_› | exact eCells_isByte _ _ ‹_› | (intro hh_; have hg_ := hh_; (try simp only [condT_ff, condF_tt, notE_t, notE_f, Bool.and_eq_true, ne_eq, decide_eq_true_eq, decide_eq_false_iff_not] at hg_)) | intro _ | exact rfl | omega))
  rw [dl1, h63]
  repeat' (first | refine tr_seq ?_ | refine tr_block ?_ | refine tr_skip ?_)
  refine tr_loop (σ := Nat) (fun n => St.of [(1, .one (.e (eI i))), (2, .one (.ptr 2 0 0)), (4, .one (.ptr 4 0 0)), (7, .one (.e (eI ((n : Int) - 1))))] [(2, ⟨0, .box (.es (eDsk d)), 0⟩), (4, ⟨0, .box (.es (eSec z32)), 0⟩)]) (fun n => rdW i x (d.w.take n) = secF d i ∧ n ≤ d.w.length) (fun n => n) (d.w.length) (le_of (ad := []) (by refine ⟨?_, ?_, ?_, ?_, trivial⟩ <;> first | exact trivial | rfl | exact ⟨rfl, rfl⟩ | exact ⟨rfl, rfl, rfl⟩ | exact ⟨rfl, rfl, rfl, rfl⟩ | exact ⟨rfl, rfl, rfl, rfl, rfl⟩ | exact congrArg (fun z : Int => E.v (.int .i64 z)) (wrap64_id (by omega) (by omega)) | exact congrArg (fun z : Int => E.v (.int .u8 z)) (by assumption) | exact congrArg (fun z : ByteArray => E.v (.string z)) (by assumption) | (refine ⟨rfl, ?_⟩; repeat' first | exact trivial | rfl | apply And.intro)) (memOk_box rfl rfl rfl (memOk_box rfl rfl rfl trivial))) ⟨hr, Nat.le_refl _⟩ ?_
  rintro n ⟨hw, il⟩
  repeat' (first | refine tr_seq ?_ | refine reg (T := tab) tOk hnt rfl ?_ ?_ | refine regD (T := tab) tOk mixedR hnt rfl (by decide +kernel) ?_ ?_ | refine tr_block ?_ | refine tr_skip ?_)
  · (dsimp only [AllP]; (repeat' first | exact trivial | assumption | exact Nat.le_of_ble_eq_true rfl | apply And.intro | decide | intro _ | exact rfl))
  repeat' (first | refine tr_seq ?_ | refine tr_block ?_ | refine tr_skip ?_)
  refine tr_cond rfl (fun hc => ?_) (fun hc => ?_)
  · simp only [condT_tt, condT_ff, condF_tt, condF_ff, notE_t, notE_f, decide_eq_true_eq, decide_eq_false_iff_not] at hc
    obtain ⟨j, rfl⟩ : ∃ j, n = j + 1 := ⟨n - 1, by omega⟩
    have hj : ((j + 1 : Nat) : Int) - 1 = (j : Int) := by omega
    have hlt2 : j < d.w.length := by omega
    have hg2 := putGet d.w j hlt2
    have hpo := h.w _ (memD (d := dp0) hlt2)
    have hpl := ePut_len hpo
    rw [takeS (d := dp0) hlt2, rdW_app] at hw
    rw [hj]
    repeat' (first | refine tr_seq ?_ | refine tr_block ?_ | refine tr_skip ?_)
    first | refine reg (T := tab) tOk hnt rfl ?_ ?_ | refine regD (T := tab) tOk mixedR hnt rfl (by decide +kernel) ?_ ?_
    · rw [dl1, Int.toNat_natCast, hg2, hwl]
      (dsimp only [AllP]; (repeat' first | exact trivial | assumption | exact Nat.le_of_ble_eq_true rfl | apply And.intro | exact eCells_len1 _ _ ‹_› | exact eCells_isByte _ _ ‹_› | (intro hh_; have hg_ := hh_; (try simp only [condT_ff, condF_tt, notE_t, notE_f, Bool.and_eq_true, ne_eq, decide_eq_true_eq, decide_eq_false_iff_not] at hg_)) | intro _ | exact rfl | omega))
      all_goals trace_state
    rw [dl1, Int.toNat_natCast, hg2]
    generalize d.w.getD j dp0 = p at *
    have hpt := ptB p hpo
    have hpsl := eSec_len hpo
    have hpt : List.take 32 (List.drop 0 (List.drop 1 (ePut p))) = eSec p.b := hpt
    have hpt2 : (Cs.es (List.take 32 (List.drop 0 (List.drop 1 (ePut p))))).len = 32 := by rw [hpt]; exact hpsl
    have hf1' : 0 + 32 ≤ (Cs.es (List.drop 1 (ePut p))).len := by show _ ≤ (eSec p.b).length; omega
    repeat' (first | refine tr_seq ?_ | refine tr_block ?_ | refine tr_skip ?_)
    refine tr_cond rfl (fun hc => ?_) (fun hc => ?_)
    · have hc : decide (p.k = i) = true := hc
      simp only [condT_tt, condT_ff, condF_tt, condF_ff, notE_t, notE_f, decide_eq_true_eq, decide_eq_false_iff_not] at hc
      rw [if_pos hc] at hw
      rw [← hw]
      repeat' (first | refine tr_seq ?_ | refine tr_block ?_ | refine tr_skip ?_)
      first | refine reg (T := tab) tOk hnt rfl ?_ ?_ | refine regD (T := tab) tOk mixedR hnt rfl (by decide +kernel) ?_ ?_
      · rw [dl1, Int.toNat_natCast, hg2, hwl]
        (dsimp only [AllP]; (repeat' first | exact trivial | assumption | exact Nat.le_of_ble_eq_true rfl | apply And.intro | exact eCells_len1 _ _ ‹_› | exact eCells_isByte _ _ ‹_› | (intro hh_; have hg_ := hh_; (try simp only [condT_ff, condF_tt, notE_t, notE_f, Bool.and_eq_true, ne_eq, decide_eq_true_eq, decide_eq_false_iff_not] at hg_)) | intro _ | exact rfl | omega))
        all_goals trace_state
      refine tr_le (s' := St.of [(4, .one (.ptr 4 0 0)), (5, .one (.e (eI 0)))] [(4, ⟨0, .box (.es (eSec p.b)), 0⟩)]) (le_of (ad := []) (by refine ⟨?_, ?_, trivial⟩ <;> first | exact trivial | rfl | exact ⟨rfl, rfl⟩ | exact ⟨rfl, rfl, rfl⟩ | exact ⟨rfl, rfl, rfl, rfl⟩ | exact ⟨rfl, rfl, rfl, rfl, rfl⟩ | exact congrArg (fun z : Int => E.v (.int .i64 z)) (wrap64_id (by omega) (by omega)) | exact congrArg (fun z : Int => E.v (.int .u8 z)) (by assumption) | exact congrArg (fun z : ByteArray => E.v (.string z)) (by assumption) | (refine ⟨rfl, ?_⟩; repeat' first | exact trivial | rfl | apply And.intro)) (memOk_box rfl rfl (by rw [dl1, Int.toNat_natCast, hg2]; rw [hpt]; exact bxA hpsl rfl) trivial)) ?_
      refine tr_ret ⟨.inr rfl, _, _, rfl, by (repeat' first | exact trivial | exact Nat.le_of_eq hpsl.symm | exact Nat.le_of_ble_eq_true rfl | apply And.intro), ?_⟩
      unfold rSE
      refine congrArg (fun z => D.tup [(true, .es z), (false, .es [eI 0])]) ?_
      rw [List.drop_zero]
      exact List.take_of_length_le (Nat.le_of_eq hpsl)
    have hc : decide (p.k = i) = false := hc
    simp only [condT_tt, condT_ff, condF_tt, condF_ff, notE_t, notE_f, decide_eq_true_eq, decide_eq_false_iff_not] at hc
    rw [if_neg hc] at hw
    have h64 : IntKind.i64.wrap ((j : Int) - 1) = (j : Int) - 1 := wrap64_id (by omega) (by omega)
    repeat' (first | refine tr_seq ?_ | refine reg (T := tab) tOk hnt rfl ?_ ?_ | refine regD (T := tab) tOk mixedR hnt rfl (by decide +kernel) ?_ ?_ | refine tr_block ?_ | refine tr_skip ?_)
    · (dsimp only [AllP]; (repeat' first | exact trivial | assumption | exact Nat.le_of_ble_eq_true rfl | apply And.intro | decide | intro _ | exact rfl))
    rw [h64]
    refine ⟨j, ⟨hw, by omega⟩, by omega, le_of (ad := []) (by refine ⟨?_, ?_, ?_, ?_, trivial⟩ <;> first | exact trivial | rfl | exact ⟨rfl, rfl⟩ | exact ⟨rfl, rfl, rfl⟩ | exact ⟨rfl, rfl, rfl, rfl⟩ | exact ⟨rfl, rfl, rfl, rfl, rfl⟩ | exact congrArg (fun z : Int => E.v (.int .i64 z)) (wrap64_id (by omega) (by omega)) | exact congrArg (fun z : Int => E.v (.int .u8 z)) (by assumption) | exact congrArg (fun z : ByteArray => E.v (.string z)) (by assumption) | (refine ⟨rfl, ?_⟩; repeat' first | exact trivial | rfl | apply And.intro)) (memOk_box rfl rfl rfl (memOk_box rfl rfl rfl trivial))⟩
  simp only [condT_tt, condT_ff, condF_tt, condF_ff, notE_t, notE_f, decide_eq_true_eq, decide_eq_false_iff_not] at hc
  refine tr_exit ?_
  have hn0 : n = 0 := by omega
  subst hn0
  have hw : x = secF d i := hw
  rw [← hw]
  repeat' (first | refine tr_seq ?_ | refine tr_block ?_ | refine tr_skip ?_)
  first | refine reg (T := tab) tOk hnt rfl ?_ ?_ | refine regD (T := tab) tOk mixedR hnt rfl (by decide +kernel) ?_ ?_
  · rw [dl0, hg, hll]
    (dsimp only [AllP]; (repeat' first | exact trivial | assumption | exact Nat.le_of_ble_eq_true rfl | apply And.intro | exact eCells_len1 _ _ ‹_› | exact eCells_isByte _ _ ‹_› | (intro hh_; have hg_ := hh_; (try simp only [condT_ff, condF_tt, notE_t, notE_f, Bool.and_eq_true, ne_eq, decide_eq_true_eq, decide_eq_false_iff_not] at hg_)) | intro _ | exact rfl | omega))
    all_goals trace_state
  refine tr_le (s' := St.of [(4, .one (.ptr 4 0 0)), (5, .one (.e (eI 0)))] [(4, ⟨0, .box (.es (eSec x)), 0⟩)]) (le_of (ad := []) (by refine ⟨?_, ?_, trivial⟩ <;> first | exact trivial | rfl | exact ⟨rfl, rfl⟩ | exact ⟨rfl, rfl, rfl⟩ | exact ⟨rfl, rfl, rfl, rfl⟩ | exact ⟨rfl, rfl, rfl, rfl, rfl⟩ | exact congrArg (fun z : Int => E.v (.int .i64 z)) (wrap64_id (by omega) (by omega)) | exact congrArg (fun z : Int => E.v (.int .u8 z)) (by assumption) | exact congrArg (fun z : ByteArray => E.v (.string z)) (by assumption) | (refine ⟨rfl, ?_⟩; repeat' first | exact trivial | rfl | apply And.intro)) (memOk_box rfl rfl (by rw [dl0, hg]; exact bxC hsl rfl) trivial)) ?_
  refine tr_ret ⟨.inr rfl, _, _, rfl, by (repeat' first | exact trivial | exact Nat.le_of_eq hsl.symm | exact Nat.le_of_ble_eq_true rfl | apply And.intro), ?_⟩
  unfold rSE
  refine congrArg (fun z => D.tup [(true, .es z), (false, .es [eI 0])]) ?_
  rw [List.drop_zero]
  exact List.take_of_length_le (Nat.le_of_eq hsl)
end Go.Proofs.Ytphaholcndhonaa
namespace Go.Proofs.Ytphaholcndhonaa
open Go Go.RowKit Go.Proofs.Ytphaholcndhonaa.Ab
set_option linter.unusedSimpArgs false
set_option linter.unusedVariables false

def nmN (l : List UInt8) : Nat := l.foldl (fun n b => n * 256 + b.toNat) 0
theorem nmN_snoc (l : List UInt8) (b : UInt8) : nmN (l ++ [b]) = nmN l * 256 + b.toNat := by simp [nmN]
theorem nmN_lt : ∀ (k : Nat) (l : List UInt8), l.length = k → nmN l < 256 ^ k
  | 0, l, h => by rw [List.eq_nil_of_length_eq_zero h]; decide
  | k + 1, l, h => by
    rcases List.eq_nil_or_concat l with rfl | ⟨r, b, rfl⟩
    · cases h
    · rw [List.concat_eq_append] at h ⊢
      rw [List.length_append] at h
      have h1 := nmN_lt k r (by simpa using h)
      have hb := b.toNat_lt
      rw [nmN_snoc, Nat.pow_succ]
      omega
theorem nmN_le {l : List UInt8} {n : Nat} (h : l.length ≤ n) : nmN l < 256 ^ n := Nat.lt_of_lt_of_le (nmN_lt _ l rfl) (Nat.pow_le_pow_right (by decide) h)
theorem nstep (m : Nat) (x : UInt8) (hm : m < 16777216) : IntKind.i64.wrap (((BitVec.ofInt IntKind.i64.bits (IntKind.i64.wrap ((m : Int) * 2 ^ min (Int.toNat 8) IntKind.i64.bits))) ||| (BitVec.ofInt IntKind.i64.bits (IntKind.i64.wrap (x.toNat : Int)))).toNat : Int) = ((m * 256 + x.toNat : Nat) : Int) := by
  have hx := x.toNat_lt
  have h1 : (m : Int) * 2 ^ min (Int.toNat 8) IntKind.i64.bits = (m : Int) * 2 ^ 8 := rfl
  rw [h1, show IntKind.i64.bits = 64 from rfl, wrap64_id (n := (m : Int) * 2 ^ 8) (by omega) (by omega), wrap64_id (n := (x.toNat : Int)) (by omega) (by omega)]
  exact or_shift m x.toNat 8 (by omega) (by omega) (by omega)
set_option maxRecDepth 10000 in
set_option maxHeartbeats 2000000 in
theorem tnumber_fn (b : List UInt8) (h : b.length ≤ 4) : FnD Try.prog 28 [.one (.e (eBytes b))] (.one (.e (eI (nmN b : Int)))) := by
  refine fn_intro (T := tab) tOk Try.func28 rfl (by kernel_rfl) (by simp [Try.ntmps28]) ?_
  intro X hX
  have hnt : X.nt = 19 := hX
  clear hX
  have hl : (eCells b).length = b.length := eCells_length b
  repeat' (first | refine tr_seq ?_ | refine reg (T := tab) tOk hnt rfl ?_ ?_ | refine regD (T := tab) tOk mixedR hnt rfl (by decide +kernel) ?_ ?_ | refine tr_block ?_ | refine tr_skip ?_)
  · (dsimp only [AllP]; (repeat' first | exact trivial | assumption | exact Nat.le_of_ble_eq_true rfl | apply And.intro | decide | intro _ | exact rfl))
  · (dsimp only [AllP]; (repeat' first | exact trivial | assumption | exact Nat.le_of_ble_eq_true rfl | apply And.intro | decide | intro _ | exact rfl))
  · (dsimp only [AllP]; (repeat' first | exact trivial | assumption | exact Nat.le_of_ble_eq_true rfl | apply And.intro | decide | intro _ | exact rfl))
  repeat' (first | refine tr_seq ?_ | refine tr_block ?_ | refine tr_skip ?_)
  refine tr_loop (σ := Nat) (fun i => St.of [(3, .one (.e (eI (nmN (b.take i) : Int)))), (6, .one (.e (eBytes b))), (7, .one (.e (eI ((eCells b).length : Int)))), (8, .one (.e (eI (i : Int))))] []) (fun i => i ≤ b.length) (fun i => b.length - i) (0) (le_of (ad := []) (by refine ⟨?_, ?_, ?_, ?_, trivial⟩ <;> first | exact trivial | rfl | exact ⟨rfl, rfl⟩ | exact ⟨rfl, rfl, rfl⟩ | exact ⟨rfl, rfl, rfl, rfl⟩ | exact ⟨rfl, rfl, rfl, rfl, rfl⟩ | exact congrArg (fun z : Int => E.v (.int .i64 z)) (wrap64_id (by omega) (by omega)) | exact congrArg (fun z : Int => E.v (.int .u8 z)) (by assumption) | exact congrArg (fun z : ByteArray => E.v (.string z)) (by assumption) | (refine ⟨rfl, ?_⟩; repeat' first | exact trivial | rfl | apply And.intro)) trivial) (Nat.zero_le _) ?_
  rintro i il
  repeat' (first | refine tr_seq ?_ | refine reg (T := tab) tOk hnt rfl ?_ ?_ | refine regD (T := tab) tOk mixedR hnt rfl (by decide +kernel) ?_ ?_ | refine tr_block ?_ | refine tr_skip ?_)
  · (dsimp only [AllP]; (repeat' first | exact trivial | assumption | exact Nat.le_of_ble_eq_true rfl | apply And.intro | decide | intro _ | exact rfl))
  repeat' (first | refine tr_seq ?_ | refine tr_block ?_ | refine tr_skip ?_)
  refine tr_cond rfl (fun hc => ?_) (fun hc => ?_)
  · simp only [condT_tt, condT_ff, condF_tt, condF_ff, notE_t, notE_f, decide_eq_true_eq, decide_eq_false_iff_not] at hc
    (try simp only [hl] at hc)
    (try simp only [condT_tt, condT_ff, condF_tt, condF_ff, notE_t, notE_f, decide_eq_true_eq, decide_eq_false_iff_not] at hc)
    have hlt : i < b.length := by omega
    have hg := eCells_getD b hlt
    have hs := nmN_snoc (b.take i) (b.getD i 0)
    rw [← takeS hlt] at hs
    have hn : nmN (b.take i) < 256 ^ 3 := nmN_le (by rw [List.length_take]; omega)
    have hn : nmN (b.take i) < 16777216 := hn
    repeat' (first | refine tr_seq ?_ | refine tr_block ?_ | refine tr_skip ?_)
    first | refine reg (T := tab) tOk hnt rfl ?_ ?_ | refine regD (T := tab) tOk mixedR hnt rfl (by decide +kernel) ?_ ?_
    · rw [Int.toNat_natCast, hg]
      (dsimp only [AllP]; (repeat' first | exact trivial | assumption | exact Nat.le_of_ble_eq_true rfl | apply And.intro | exact eCells_len1 _ _ ‹_› | exact eCells_isByte _ _ ‹_› | (intro hh_; have hg_ := hh_; (try simp only [condT_ff, condF_tt, notE_t, notE_f, Bool.and_eq_true, ne_eq, decide_eq_true_eq, decide_eq_false_iff_not] at hg_)) | intro _ | exact rfl | omega))
    rw [Int.toNat_natCast, hg]
    generalize b.getD i 0 = x at *
    generalize nmN (b.take i) = m at *
    refine tr_le (s' := St.of [(3, .one (.e (eI (m : Int)))), (5, .one (.e (eB x))), (6, .one (.e (eBytes b))), (7, .one (.e (eI ((eCells b).length : Int)))), (8, .one (.e (eI (i : Int))))] []) (le_of (ad := []) (by refine ⟨?_, ?_, ?_, ?_, ?_, trivial⟩ <;> first | exact trivial | rfl | exact ⟨rfl, rfl⟩ | exact ⟨rfl, rfl, rfl⟩ | exact ⟨rfl, rfl, rfl, rfl⟩ | exact ⟨rfl, rfl, rfl, rfl, rfl⟩ | exact congrArg (fun z : Int => E.v (.int .i64 z)) (wrap64_id (by omega) (by omega)) | exact congrArg (fun z : Int => E.v (.int .u8 z)) (by assumption) | exact congrArg (fun z : ByteArray => E.v (.string z)) (by assumption) | (refine ⟨rfl, ?_⟩; repeat' first | exact trivial | rfl | apply And.intro)) trivial) ?_
    have h64 : IntKind.i64.wrap ((i : Int) + 1) = ((i + 1 : Nat) : Int) := wrap64_id (by omega) (by omega)
    repeat' (first | refine tr_seq ?_ | refine tr_block ?_ | refine tr_skip ?_)
    first | refine reg (T := tab) tOk hnt rfl ?_ ?_ | refine regD (T := tab) tOk mixedR hnt rfl (by decide +kernel) ?_ ?_
    · (dsimp only [AllP]; (repeat' first | exact trivial | assumption | exact Nat.le_of_ble_eq_true rfl | apply And.intro | exact eCells_len1 _ _ ‹_› | exact eCells_isByte _ _ ‹_› | (intro hh_; have hg_ := hh_; (try simp only [condT_ff, condF_tt, notE_t, notE_f, Bool.and_eq_true, ne_eq, decide_eq_true_eq, decide_eq_false_iff_not] at hg_)) | intro _ | exact rfl | omega))
      all_goals trace_state
    repeat' (first | refine tr_seq ?_ | refine reg (T := tab) tOk hnt rfl ?_ ?_ | refine regD (T := tab) tOk mixedR hnt rfl (by decide +kernel) ?_ ?_ | refine tr_block ?_ | refine tr_skip ?_)
    · (dsimp only [AllP]; (repeat' first | exact trivial | assumption | exact Nat.le_of_ble_eq_true rfl | apply And.intro | decide | intro _ | exact rfl))
    rw [h64, nstep m x hn, ← hs]
    refine ⟨(i + 1), (by omega), by omega, le_of (ad := []) (by refine ⟨?_, ?_, ?_, ?_, trivial⟩ <;> first | exact trivial | rfl | exact ⟨rfl, rfl⟩ | exact ⟨rfl, rfl, rfl⟩ | exact ⟨rfl, rfl, rfl, rfl⟩ | exact ⟨rfl, rfl, rfl, rfl, rfl⟩ | exact congrArg (fun z : Int => E.v (.int .i64 z)) (wrap64_id (by omega) (by omega)) | exact congrArg (fun z : Int => E.v (.int .u8 z)) (by assumption) | exact congrArg (fun z : ByteArray => E.v (.string z)) (by assumption) | (refine ⟨rfl, ?_⟩; repeat' first | exact trivial | rfl | apply And.intro)) trivial⟩
  simp only [condT_tt, condT_ff, condF_tt, condF_ff, notE_t, notE_f, decide_eq_true_eq, decide_eq_false_iff_not] at hc
  (try simp only [hl] at hc)
  (try simp only [condT_tt, condT_ff, condF_tt, condF_ff, notE_t, notE_f, decide_eq_true_eq, decide_eq_false_iff_not] at hc)
  refine tr_exit ?_
  rw [List.take_of_length_le (by omega)]
  repeat' (first | refine tr_seq ?_ | refine reg (T := tab) tOk hnt rfl ?_ ?_ | refine regD (T := tab) tOk mixedR hnt rfl (by decide +kernel) ?_ ?_ | refine tr_block ?_ | refine tr_skip ?_)
  · (dsimp only [AllP]; (repeat' first | exact trivial | assumption | exact Nat.le_of_ble_eq_true rfl | apply And.intro | decide | intro _ | exact rfl))
  exact tr_ret ⟨.inr rfl, _, _, rfl, trivial, rfl⟩
def eTx (b : List UInt8) : E := .v (.string (strB b))
theorem wrapU2 (n : Nat) (h : n < 18446744073709551616) : IntKind.u64.wrap (n : Int) = (n : Int) := by
  unfold IntKind.wrap
  simp [IntKind.bits, IntKind.signed]
  omega
set_option maxRecDepth 10000 in
set_option maxHeartbeats 2000000 in
theorem rnumber_fn (b : List UInt8) (h : b.length ≤ 8) : FnD Try.prog 31 [.one (.e (eTx b))] (.one (.e (.v (.int .u64 (nmN b : Int))))) := by
  refine fn_intro (T := tab) tOk Try.func31 rfl (by kernel_rfl) (by simp [Try.ntmps31]) ?_
  intro X hX
  have hnt : X.nt = 19 := hX
  clear hX
  have hl : (strB b).size = b.length := strB_size b
  repeat' (first | refine tr_seq ?_ | refine reg (T := tab) tOk hnt rfl ?_ ?_ | refine regD (T := tab) tOk mixedR hnt rfl (by decide +kernel) ?_ ?_ | refine tr_block ?_ | refine tr_skip ?_)
  · (dsimp only [AllP]; (repeat' first | exact trivial | assumption | exact Nat.le_of_ble_eq_true rfl | apply And.intro | decide | intro _ | exact rfl))
  · (dsimp only [AllP]; (repeat' first | exact trivial | assumption | exact Nat.le_of_ble_eq_true rfl | apply And.intro | decide | intro _ | exact rfl))
  · (dsimp only [AllP]; (repeat' first | exact trivial | assumption | exact Nat.le_of_ble_eq_true rfl | apply And.intro | decide | intro _ | exact rfl))
  repeat' (first | refine tr_seq ?_ | refine tr_block ?_ | refine tr_skip ?_)
  refine tr_loop (σ := Nat) (fun i => St.of [(0, .one (.e (eTx b))), (3, .one (.e (.v (.int .u64 (nmN (b.take i) : Int))))), (4, .one (.e (eI (i : Int))))] []) (fun i => i ≤ b.length) (fun i => b.length - i) (0) (le_of (ad := []) (by refine ⟨?_, ?_, ?_, trivial⟩ <;> first | exact trivial | rfl | exact ⟨rfl, rfl⟩ | exact ⟨rfl, rfl, rfl⟩ | exact ⟨rfl, rfl, rfl, rfl⟩ | exact ⟨rfl, rfl, rfl, rfl, rfl⟩ | exact congrArg (fun z : Int => E.v (.int .i64 z)) (wrap64_id (by omega) (by omega)) | exact congrArg (fun z : Int => E.v (.int .u8 z)) (by assumption) | exact congrArg (fun z : ByteArray => E.v (.string z)) (by assumption) | (refine ⟨rfl, ?_⟩; repeat' first | exact trivial | rfl | apply And.intro)) trivial) (Nat.zero_le _) ?_
  rintro i il
  repeat' (first | refine tr_seq ?_ | refine reg (T := tab) tOk hnt rfl ?_ ?_ | refine regD (T := tab) tOk mixedR hnt rfl (by decide +kernel) ?_ ?_ | refine tr_block ?_ | refine tr_skip ?_)
  · (dsimp only [AllP]; (repeat' first | exact trivial | assumption | exact Nat.le_of_ble_eq_true rfl | apply And.intro | decide | intro _ | exact rfl))
  repeat' (first | refine tr_seq ?_ | refine tr_block ?_ | refine tr_skip ?_)
  refine tr_cond rfl (fun hc => ?_) (fun hc => ?_)
  · simp only [condT_tt, condT_ff, condF_tt, condF_ff, notE_t, notE_f, decide_eq_true_eq, decide_eq_false_iff_not] at hc
    (try simp only [hl] at hc)
    (try simp only [condT_tt, condT_ff, condF_tt, condF_ff, notE_t, notE_f, decide_eq_true_eq, decide_eq_false_iff_not] at hc)
    have hlt : i < b.length := by omega
    have hg : (strB b).data.toList.getD i 0 = b.getD i 0 := rfl
    have hs := nmN_snoc (b.take i) (b.getD i 0)
    rw [← takeS hlt] at hs
    have hn : nmN (b.take i) < 256 ^ 7 := nmN_le (by rw [List.length_take]; omega)
    have hn : nmN (b.take i) < 72057594037927936 := hn
    have h64 : IntKind.i64.wrap ((i : Int) + 1) = ((i + 1 : Nat) : Int) := wrap64_id (by omega) (by omega)
    repeat' (first | refine tr_seq ?_ | refine tr_block ?_ | refine tr_skip ?_)
    first | refine reg (T := tab) tOk hnt rfl ?_ ?_ | refine regD (T := tab) tOk mixedR hnt rfl (by decide +kernel) ?_ ?_
    · (dsimp only [AllP]; (repeat' first | exact trivial | assumption | exact Nat.le_of_ble_eq_true rfl | apply And.intro | exact eCells_len1 _ _ ‹_› | exact eCells_isByte _ _ ‹_› | (intro hh_; have hg_ := hh_; (try simp only [condT_ff, condF_tt, notE_t, notE_f, Bool.and_eq_true, ne_eq, decide_eq_true_eq, decide_eq_false_iff_not] at hg_)) | intro _ | exact rfl | omega))
      all_goals trace_state
    rw [Int.toNat_natCast, hg]
    generalize b.getD i 0 = x at *
    generalize nmN (b.take i) = m at *
    have hx := x.toNat_lt
    have h65 : IntKind.u64.wrap (IntKind.u64.wrap ((m : Int) * 256) + IntKind.u64.wrap (x.toNat : Int)) = ((m * 256 + x.toNat : Nat) : Int) := by
      rw [show (m : Int) * 256 = ((m * 256 : Nat) : Int) by omega, wrapU2 _ (by omega), wrapU2 _ (by omega), ← Int.natCast_add, wrapU2 _ (by omega)]
    repeat' (first | refine tr_seq ?_ | refine reg (T := tab) tOk hnt rfl ?_ ?_ | refine regD (T := tab) tOk mixedR hnt rfl (by decide +kernel) ?_ ?_ | refine tr_block ?_ | refine tr_skip ?_)
    · (dsimp only [AllP]; (repeat' first | exact trivial | assumption | exact Nat.le_of_ble_eq_true rfl | apply And.intro | decide | intro _ | exact rfl))
    rw [h64, h65, ← hs]
    refine ⟨(i + 1), (by omega), by omega, le_of (ad := []) (by refine ⟨?_, ?_, ?_, trivial⟩ <;> first | exact trivial | rfl | exact ⟨rfl, rfl⟩ | exact ⟨rfl, rfl, rfl⟩ | exact ⟨rfl, rfl, rfl, rfl⟩ | exact ⟨rfl, rfl, rfl, rfl, rfl⟩ | exact congrArg (fun z : Int => E.v (.int .i64 z)) (wrap64_id (by omega) (by omega)) | exact congrArg (fun z : Int => E.v (.int .u8 z)) (by assumption) | exact congrArg (fun z : ByteArray => E.v (.string z)) (by assumption) | (refine ⟨rfl, ?_⟩; repeat' first | exact trivial | rfl | apply And.intro)) trivial⟩
  simp only [condT_tt, condT_ff, condF_tt, condF_ff, notE_t, notE_f, decide_eq_true_eq, decide_eq_false_iff_not] at hc
  (try simp only [hl] at hc)
  (try simp only [condT_tt, condT_ff, condF_tt, condF_ff, notE_t, notE_f, decide_eq_true_eq, decide_eq_false_iff_not] at hc)
  refine tr_exit ?_
  rw [List.take_of_length_le (by omega)]
  repeat' (first | refine tr_seq ?_ | refine reg (T := tab) tOk hnt rfl ?_ ?_ | refine regD (T := tab) tOk mixedR hnt rfl (by decide +kernel) ?_ ?_ | refine tr_block ?_ | refine tr_skip ?_)
  · (dsimp only [AllP]; (repeat' first | exact trivial | assumption | exact Nat.le_of_ble_eq_true rfl | apply And.intro | decide | intro _ | exact rfl))
  exact tr_ret ⟨.inr rfl, _, _, rfl, trivial, rfl⟩
end Go.Proofs.Ytphaholcndhonaa
namespace Go.Proofs.Ytphaholcndhonaa
open Go Go.RowKit Go.Proofs.Ytphaholcndhonaa.Ab
set_option linter.unusedSimpArgs false
set_option linter.unusedVariables false

theorem rdF_len {d : Dsk} (h : d.ok) (i : Int) : (rdF d i).1.length = 32 := by
  unfold rdF
  split
  · rfl
  · rename_i h1; exact secF_len h (Classical.not_not.1 h1)
/-- noughts but for three bytes -/
def hzP (b : List UInt8) (k : Nat) : Prop := ∀ i, i < k → i ≠ 5 → i ≠ 6 → i ≠ 7 → b.getD i 0 = 0
instance (b : List UInt8) (k : Nat) : Decidable (hzP b k) := inferInstanceAs (Decidable (∀ i, i < k → i ≠ 5 → i ≠ 6 → i ≠ 7 → b.getD i 0 = 0))
def hdF (d : Dsk) : Nat × Int :=
  if (rdF d 0).2 ≠ 0 then (0, (rdF d 0).2) else if ¬ hzP (rdF d 0).1 32 then (0, 11) else
  if (d.l.length - 1) * 32 < nmN (((rdF d 0).1.drop 5).take 3) then (0, 11) else (nmN (((rdF d 0).1.drop 5).take 3), 0)
def rIE (q : Nat × Int) : D := .tup [(false, .es [eI (q.1 : Int)]), (false, .es [eI q.2])]
theorem secAt (b : List UInt8) (i : Nat) (h : i < b.length) : ((eSec b).getD i E.dflt).int = ((b.getD i 0).toNat : Int) := by
  unfold eSec
  rw [List.getD_eq_getElem?_getD, List.getElem?_map, List.getElem?_eq_getElem h, List.getD_eq_getElem?_getD, List.getElem?_eq_getElem h]
  rfl
theorem secEl (b : List UInt8) (i : Nat) (h : i < b.length) : (Cs.es (eSec b)).at (Int.toNat (i : Int) * 1) = .e (eB (b.getD i 0)) := by
  rw [Int.toNat_natCast, Nat.mul_one]
  show D0.e ((eSec b).getD i E.dflt) = _
  unfold eSec
  rw [List.getD_eq_getElem?_getD, List.getElem?_map, List.getElem?_eq_getElem h, List.getD_eq_getElem?_getD, List.getElem?_eq_getElem h]
  rfl
theorem ch1 (l : List UInt8) (n : Nat) (h : n ≤ l.length) : chunksE 1 n (l.map eB) = eCells (l.take n) := by
  unfold chunksE eCells
  apply List.ext_getElem?
  intro i
  rw [List.getElem?_map, List.getElem?_map]
  by_cases hi : i < n
  · rw [List.getElem?_range hi, List.getElem?_take_of_lt hi, List.getElem?_eq_getElem (by omega)]
    show some (List.take 1 (List.drop (i * 1) (l.map eB))) = some [eB l[i]]
    rw [Nat.mul_one, ← List.map_drop, List.drop_eq_getElem_cons (by omega)]
    rfl
  · rw [List.getElem?_eq_none (by rw [List.length_range]; omega), List.getElem?_eq_none (by rw [List.length_take]; omega)]
    rfl
theorem hz_succ {b : List UInt8} {k : Nat} (h : hzP b k) (hk : k ≠ 5 → k ≠ 6 → k ≠ 7 → b.getD k 0 = 0) : hzP b (k + 1) := fun i hi h5 h6 h7 => by
  by_cases e : i = k
  · subst e; exact hk h5 h6 h7
  · exact h i (by omega) h5 h6 h7
set_option maxRecDepth 10000 in
set_option maxHeartbeats 2000000 in
theorem head_fn (d : Dsk) (h : d.ok) : FnD Try.prog 43 [.agg (.es (eDsk d))] (rIE (hdF d)) := by
  refine fn_intro (T := tab) tOk Try.func43 rfl (by kernel_rfl) (by simp [Try.ntmps43]) ?_
  intro X hX
  have hnt : X.nt = 47 := hX
  clear hX
  have hll : (d.l.map eSec).length = d.l.length := List.length_map ..
  have h1 := Read_fn d 0 h
  have hbl := rdF_len h 0
  have hle : (rdF d 0).2 = 0 → 1 ≤ d.l.length ∧ d.l.length ≤ 400 := fun h0 => by
    unfold rdF at h0
    split at h0
    · rename_i h2; exact absurd h0 h2
    · rename_i h2
      have := dk_le2 (scF_ok (Classical.not_not.1 h2)).1
      omega
  unfold hdF
  generalize rdF d 0 = q at *
  obtain ⟨b, e⟩ := q
  dsimp only at hbl hle ⊢
  have hsl := eSec_len hbl
  have hf32 : 0 + 32 ≤ (Cs.es (eSec b)).len := by show _ ≤ (eSec _).length; omega
  have ht32 := take_all hsl
  repeat' (first | refine tr_seq ?_ | refine reg (T := tab) tOk hnt rfl ?_ ?_ | refine regD (T := tab) tOk mixedR hnt rfl (by decide +kernel) ?_ ?_ | refine tr_block ?_ | refine tr_skip ?_)
  · (dsimp only [AllP]; (repeat' first | exact trivial | assumption | exact Nat.le_of_ble_eq_true rfl | apply And.intro | decide | intro _ | exact rfl))
  repeat' (first | refine tr_seq ?_ | refine tr_block ?_ | refine tr_skip ?_)
  refine tr_region (lex (T := tab) tOk hnt rfl ?_ (call rfl rfl rfl rfl rfl rfl rfl hnt (h1) (lex (T := tab) tOk hnt rfl ?_ (Lex.nil _)))) ?_
  · (dsimp only [AllP]; (repeat' first | exact trivial | assumption | exact Nat.le_of_ble_eq_true rfl | apply And.intro | exact eCells_len1 _ _ ‹_› | exact eCells_isByte _ _ ‹_› | (intro hh_; have hg_ := hh_; (try simp only [condT_ff, condF_tt, notE_t, notE_f, Bool.and_eq_true, ne_eq, decide_eq_true_eq, decide_eq_false_iff_not] at hg_)) | intro _ | exact rfl | omega))
  · (dsimp only [AllP]; (repeat' first | exact trivial | assumption | exact Nat.le_of_ble_eq_true rfl | apply And.intro | exact eCells_len1 _ _ ‹_› | exact eCells_isByte _ _ ‹_› | (intro hh_; have hg_ := hh_; (try simp only [condT_ff, condF_tt, notE_t, notE_f, Bool.and_eq_true, ne_eq, decide_eq_true_eq, decide_eq_false_iff_not] at hg_)) | intro _ | exact rfl | omega))
    all_goals trace_state
  refine tr_le (s' := St.of [(1, .one (.ptr 1 0 0)), (4, .one (.ptr 4 0 0)), (5, .one (.e (eI e)))] [(1, ⟨0, .box (.es (eDsk d)), 0⟩), (4, ⟨0, .box (.es (eSec b)), 0⟩)]) (le_of (ad := []) (by refine ⟨?_, ?_, ?_, trivial⟩ <;> first | exact trivial | rfl | exact ⟨rfl, rfl⟩ | exact ⟨rfl, rfl, rfl⟩ | exact ⟨rfl, rfl, rfl, rfl⟩ | exact ⟨rfl, rfl, rfl, rfl, rfl⟩ | exact congrArg (fun z : Int => E.v (.int .i64 z)) (wrap64_id (by omega) (by omega)) | exact congrArg (fun z : Int => E.v (.int .u8 z)) (by assumption) | exact congrArg (fun z : ByteArray => E.v (.string z)) (by assumption) | (refine ⟨rfl, ?_⟩; repeat' first | exact trivial | rfl | apply And.intro)) (memOk_box rfl rfl rfl (memOk_box rfl rfl (bxA hsl rfl) trivial))) ?_
  repeat' (first | refine tr_seq ?_ | refine reg (T := tab) tOk hnt rfl ?_ ?_ | refine regD (T := tab) tOk mixedR hnt rfl (by decide +kernel) ?_ ?_ | refine tr_block ?_ | refine tr_skip ?_)
  · (dsimp only [AllP]; (repeat' first | exact trivial | assumption | exact Nat.le_of_ble_eq_true rfl | apply And.intro | decide | intro _ | exact rfl))
  repeat' (first | refine tr_seq ?_ | refine tr_block ?_ | refine tr_skip ?_)
  refine tr_cond rfl (fun hc => ?_) (fun hc => ?_)
  · simp only [condT_tt, condT_ff, condF_tt, condF_ff, notE_t, notE_f, decide_eq_true_eq, decide_eq_false_iff_not] at hc
    rw [if_pos hc]
    repeat' (first | refine tr_seq ?_ | refine reg (T := tab) tOk hnt rfl ?_ ?_ | refine regD (T := tab) tOk mixedR hnt rfl (by decide +kernel) ?_ ?_ | refine tr_block ?_ | refine tr_skip ?_)
    · (dsimp only [AllP]; (repeat' first | exact trivial | assumption | exact Nat.le_of_ble_eq_true rfl | apply And.intro | decide | intro _ | exact rfl))
    refine tr_ret ⟨.inr rfl, _, _, rfl, by (repeat' first | exact trivial | exact Nat.le_of_ble_eq_true rfl | apply And.intro), ?_⟩
    exact rfl
  simp only [condT_tt, condT_ff, condF_tt, condF_ff, notE_t, notE_f, decide_eq_true_eq, decide_eq_false_iff_not] at hc
  rw [if_neg (not_not_intro hc)]
  obtain ⟨hl1, hl4⟩ := hle hc
  have htk : List.take 32 (List.drop 0 (eSec b)) = eSec b := List.take_of_length_le (by rw [List.drop_zero]; omega)
  repeat' (first | refine tr_seq ?_ | refine tr_block ?_ | refine tr_skip ?_)
  first | refine reg (T := tab) tOk hnt rfl ?_ ?_ | refine regD (T := tab) tOk mixedR hnt rfl (by decide +kernel) ?_ ?_
  · (dsimp only [AllP]; (repeat' first | exact trivial | assumption | exact Nat.le_of_ble_eq_true rfl | apply And.intro | exact eCells_len1 _ _ ‹_› | exact eCells_isByte _ _ ‹_› | (intro hh_; have hg_ := hh_; (try simp only [condT_ff, condF_tt, notE_t, notE_f, Bool.and_eq_true, ne_eq, decide_eq_true_eq, decide_eq_false_iff_not] at hg_)) | intro _ | exact rfl | omega))
  rw [htk]
  repeat' (first | refine tr_seq ?_ | refine tr_block ?_ | refine tr_skip ?_)
  refine tr_loop (σ := Nat) (fun i => St.of [(1, .one (.ptr 1 0 0)), (4, .one (.ptr 4 0 0)), (17, .agg (.es (eSec b))), (18, .one (.e (eI (i : Int))))] [(1, ⟨0, .box (.es (eDsk d)), 0⟩), (4, ⟨0, .box (.es (eSec b)), 0⟩)]) (fun i => hzP b i ∧ i ≤ 32) (fun i => 32 - i) (0) (le_of (ad := []) (by refine ⟨?_, ?_, ?_, ?_, trivial⟩ <;> first | exact trivial | rfl | exact ⟨rfl, rfl⟩ | exact ⟨rfl, rfl, rfl⟩ | exact ⟨rfl, rfl, rfl, rfl⟩ | exact ⟨rfl, rfl, rfl, rfl, rfl⟩ | exact congrArg (fun z : Int => E.v (.int .i64 z)) (wrap64_id (by omega) (by omega)) | exact congrArg (fun z : Int => E.v (.int .u8 z)) (by assumption) | exact congrArg (fun z : ByteArray => E.v (.string z)) (by assumption) | (refine ⟨rfl, ?_⟩; repeat' first | exact trivial | rfl | apply And.intro)) (memOk_box rfl rfl rfl (memOk_box rfl rfl rfl trivial))) ⟨fun i hi => absurd hi (Nat.not_lt_zero _), Nat.zero_le _⟩ ?_
  rintro i ⟨hz, il⟩
  repeat' (first | refine tr_seq ?_ | refine reg (T := tab) tOk hnt rfl ?_ ?_ | refine regD (T := tab) tOk mixedR hnt rfl (by decide +kernel) ?_ ?_ | refine tr_block ?_ | refine tr_skip ?_)
  · (dsimp only [AllP]; (repeat' first | exact trivial | assumption | exact Nat.le_of_ble_eq_true rfl | apply And.intro | decide | intro _ | exact rfl))
  repeat' (first | refine tr_seq ?_ | refine tr_block ?_ | refine tr_skip ?_)
  refine tr_cond rfl (fun hc => ?_) (fun hc => ?_)
  · simp only [condT_tt, condT_ff, condF_tt, condF_ff, notE_t, notE_f, decide_eq_true_eq, decide_eq_false_iff_not] at hc
    have hlt : i < 32 := by omega
    have hsa := secAt b i (by omega)
    have h64 : IntKind.i64.wrap ((i : Int) + 1) = ((i + 1 : Nat) : Int) := wrap64_id (by omega) (by omega)
    have hat := secEl b i (by omega)
    have hi32 : Int.toNat (i : Int) * 1 < (Cs.es (eSec b)).len := by show _ < (eSec b).length; omega
    have hsb : ((eSec b).getD (Int.toNat (i : Int) * 1) E.dflt).int = ((b.getD i 0).toNat : Int) := by rw [Int.toNat_natCast, Nat.mul_one]; exact hsa
    repeat' (first | refine tr_seq ?_ | refine tr_block ?_ | refine tr_skip ?_)
    first | refine reg (T := tab) tOk hnt rfl ?_ ?_ | refine regD (T := tab) tOk mixedR hnt rfl (by decide +kernel) ?_ ?_
    · (dsimp only [AllP]; (repeat' first | exact trivial | assumption | exact Nat.le_of_ble_eq_true rfl | apply And.intro | exact eCells_len1 _ _ ‹_› | exact eCells_isByte _ _ ‹_› | (intro hh_; have hg_ := hh_; (try simp only [condT_ff, condF_tt, notE_t, notE_f, Bool.and_eq_true, ne_eq, decide_eq_true_eq, decide_eq_false_iff_not] at hg_)) | intro _ | exact rfl | omega))
      all_goals (rw [hat]; exact rfl)
    refine tr_le (s' := St.of [(1, .one (.ptr 1 0 0)), (4, .one (.ptr 4 0 0)), (6, .one (.e (eI (i : Int)))), (7, .one (.e (eB (b.getD i 0)))), (17, .agg (.es (eSec b))), (18, .one (.e (eI (i : Int))))] [(1, ⟨0, .box (.es (eDsk d)), 0⟩), (4, ⟨0, .box (.es (eSec b)), 0⟩)]) (le_of (ad := []) (by refine ⟨?_, ?_, ?_, ?_, ?_, ?_, trivial⟩ <;> first | exact trivial | rfl | exact ⟨rfl, rfl⟩ | exact ⟨rfl, rfl, rfl⟩ | exact ⟨rfl, rfl, rfl, rfl⟩ | exact ⟨rfl, rfl, rfl, rfl, rfl⟩ | exact congrArg (fun z : Int => E.v (.int .i64 z)) (wrap64_id (by omega) (by omega)) | exact congrArg (fun z : Int => E.v (.int .u8 z)) (by assumption) | exact congrArg (fun z : ByteArray => E.v (.string z)) (by assumption) | (refine ⟨rfl, ?_⟩; repeat' first | exact trivial | rfl | apply And.intro)) (memOk_box rfl rfl rfl (memOk_box rfl rfl rfl trivial))) ?_
    repeat' (first | refine tr_seq ?_ | refine tr_block ?_ | refine tr_skip ?_)
    first | refine reg (T := tab) tOk hnt rfl ?_ ?_ | refine regD (T := tab) tOk mixedR hnt rfl (by decide +kernel) ?_ ?_
    · (dsimp only [AllP]; (repeat' first | exact trivial | assumption | exact Nat.le_of_ble_eq_true rfl | apply And.intro | exact eCells_len1 _ _ ‹_› | exact eCells_isByte _ _ ‹_› | (intro hh_; have hg_ := hh_; (try simp only [condT_ff, condF_tt, notE_t, notE_f, Bool.and_eq_true, ne_eq, decide_eq_true_eq, decide_eq_false_iff_not] at hg_)) | intro _ | exact rfl | omega))
      all_goals trace_state
    have hF : (bif bif bif !decide ((i : Int) = 6) then !decide ((i : Int) = 7) else false then !decide ((i : Int) = 5) else false then !decide (((b.getD i 0).toNat : Int) = 0) else false) = decide (i ≠ 5 ∧ i ≠ 6 ∧ i ≠ 7 ∧ b.getD i 0 ≠ 0) := by
      have e0 : (((b.getD i 0).toNat : Int) = 0) ↔ b.getD i 0 = 0 := ⟨fun h => UInt8.toNat_inj.1 (by show (b.getD i 0).toNat = 0; omega), fun h => by rw [h]; rfl⟩
      have e5 : ((i : Int) = 5) ↔ i = 5 := by omega
      have e6 : ((i : Int) = 6) ↔ i = 6 := by omega
      have e7 : ((i : Int) = 7) ↔ i = 7 := by omega
      simp only [e0, e5, e6, e7]
      by_cases a5 : i = 5 <;> by_cases a6 : i = 6 <;> by_cases a7 : i = 7 <;> by_cases a0 : b.getD i 0 = 0 <;> simp [a5, a6, a7, a0]
    repeat' (first | refine tr_seq ?_ | refine tr_block ?_ | refine tr_skip ?_)
    refine tr_cond rfl (fun hc => ?_) (fun hc => ?_)
    · have hc : (bif bif bif !decide ((i : Int) = 6) then !decide ((i : Int) = 7) else false then !decide ((i : Int) = 5) else false then !decide (((b.getD i 0).toNat : Int) = 0) else false) = true := hc
      rw [hF] at hc
      have hc := of_decide_eq_true hc
      rw [if_pos (fun h => hc.2.2.2 (h i hlt hc.1 hc.2.1 hc.2.2.1))]
      repeat' (first | refine tr_seq ?_ | refine reg (T := tab) tOk hnt rfl ?_ ?_ | refine regD (T := tab) tOk mixedR hnt rfl (by decide +kernel) ?_ ?_ | refine tr_block ?_ | refine tr_skip ?_)
      · (dsimp only [AllP]; (repeat' first | exact trivial | assumption | exact Nat.le_of_ble_eq_true rfl | apply And.intro | decide | intro _ | exact rfl))
      refine tr_ret ⟨.inr rfl, _, _, rfl, by (repeat' first | exact trivial | exact Nat.le_of_ble_eq_true rfl | apply And.intro), ?_⟩
      exact rfl
    have hc : (bif bif bif !decide ((i : Int) = 6) then !decide ((i : Int) = 7) else false then !decide ((i : Int) = 5) else false then !decide (((b.getD i 0).toNat : Int) = 0) else false) = false := hc
    rw [hF] at hc
    have hc := of_decide_eq_false hc
    repeat' (first | refine tr_seq ?_ | refine reg (T := tab) tOk hnt rfl ?_ ?_ | refine regD (T := tab) tOk mixedR hnt rfl (by decide +kernel) ?_ ?_ | refine tr_block ?_ | refine tr_skip ?_)
    · (dsimp only [AllP]; (repeat' first | exact trivial | assumption | exact Nat.le_of_ble_eq_true rfl | apply And.intro | decide | intro _ | exact rfl))
    rw [h64]
    refine ⟨(i + 1), ⟨hz_succ hz fun a5 a6 a7 => Classical.byContradiction fun a0 => hc ⟨a5, a6, a7, a0⟩, by omega⟩, by omega, le_of (ad := []) (by refine ⟨?_, ?_, ?_, ?_, trivial⟩ <;> first | exact trivial | rfl | exact ⟨rfl, rfl⟩ | exact ⟨rfl, rfl, rfl⟩ | exact ⟨rfl, rfl, rfl, rfl⟩ | exact ⟨rfl, rfl, rfl, rfl, rfl⟩ | exact congrArg (fun z : Int => E.v (.int .i64 z)) (wrap64_id (by omega) (by omega)) | exact congrArg (fun z : Int => E.v (.int .u8 z)) (by assumption) | exact congrArg (fun z : ByteArray => E.v (.string z)) (by assumption) | (refine ⟨rfl, ?_⟩; repeat' first | exact trivial | rfl | apply And.intro)) (memOk_box rfl rfl rfl (memOk_box rfl rfl rfl trivial))⟩
  simp only [condT_tt, condT_ff, condF_tt, condF_ff, notE_t, notE_f, decide_eq_true_eq, decide_eq_false_iff_not] at hc
  refine tr_exit ?_
  have hi : i = 32 := by omega
  subst hi
  rw [if_neg (not_not_intro hz)]
  have hm3 : ((b.drop 5).take 3).length ≤ 4 := by rw [List.length_take]; omega
  have hn := tnumber_fn ((b.drop 5).take 3) hm3
  have hch : chunksE 1 3 ((eSec b).drop 5) = eCells ((b.drop 5).take 3) := by
    unfold eSec
    rw [← List.map_drop]
    exact ch1 _ 3 (by rw [List.length_drop]; omega)
  unfold eBytes at hn
  rw [← hch] at hn
  have hn8 := nmN_lt 3 ((b.drop 5).take 3) (by rw [List.length_take, List.length_drop]; omega)
  have hn8 : nmN ((b.drop 5).take 3) < 16777216 := hn8
  generalize nmN ((b.drop 5).take 3) = n at *
  repeat' (first | refine tr_seq ?_ | refine tr_block ?_ | refine tr_skip ?_)
  refine tr_region (lex (T := tab) tOk hnt rfl ?_ (callU rfl rfl rfl rfl rfl rfl rfl hnt (hn) (lex (T := tab) tOk hnt rfl ?_ (Lex.nil _)))) ?_
  · (dsimp only [AllP]; (repeat' first | exact trivial | assumption | exact Nat.le_of_ble_eq_true rfl | apply And.intro | exact eCells_len1 _ _ ‹_› | exact eCells_isByte _ _ ‹_› | (intro hh_; have hg_ := hh_; (try simp only [condT_ff, condF_tt, notE_t, notE_f, Bool.and_eq_true, ne_eq, decide_eq_true_eq, decide_eq_false_iff_not] at hg_)) | intro _ | exact rfl | omega))
    all_goals trace_state
  · (dsimp only [AllP]; (repeat' first | exact trivial | assumption | exact Nat.le_of_ble_eq_true rfl | apply And.intro | exact eCells_len1 _ _ ‹_› | exact eCells_isByte _ _ ‹_› | (intro hh_; have hg_ := hh_; (try simp only [condT_ff, condF_tt, notE_t, notE_f, Bool.and_eq_true, ne_eq, decide_eq_true_eq, decide_eq_false_iff_not] at hg_)) | intro _ | exact rfl | omega))
    all_goals trace_state
  have h63 : IntKind.i64.wrap (((d.l.map eSec).length : Int) - 1) = ((d.l.length - 1 : Nat) : Int) := by rw [hll, wrap64_id (by omega) (by omega)]; omega
  have h65 : IntKind.i64.wrap (((d.l.length - 1 : Nat) : Int) * 32) = (((d.l.length - 1) * 32 : Nat) : Int) := by rw [wrap64_id (by omega) (by omega)]; omega
  repeat' (first | refine tr_seq ?_ | refine tr_block ?_ | refine tr_skip ?_)
  first | refine reg (T := tab) tOk hnt rfl ?_ ?_ | refine regD (T := tab) tOk mixedR hnt rfl (by decide +kernel) ?_ ?_
  · (dsimp only [AllP]; (repeat' first | exact trivial | assumption | exact Nat.le_of_ble_eq_true rfl | apply And.intro | exact eCells_len1 _ _ ‹_› | exact eCells_isByte _ _ ‹_› | (intro hh_; have hg_ := hh_; (try simp only [condT_ff, condF_tt, notE_t, notE_f, Bool.and_eq_true, ne_eq, decide_eq_true_eq, decide_eq_false_iff_not] at hg_)) | intro _ | exact rfl | omega))
  repeat' (first | refine tr_seq ?_ | refine tr_block ?_ | refine tr_skip ?_)
  refine tr_cond rfl (fun hc => ?_) (fun hc => ?_)
  · have hc : decide (IntKind.i64.wrap (IntKind.i64.wrap (((d.l.map eSec).length : Int) - 1) * 32) < (n : Int)) = true := hc
    rw [h63, h65] at hc
    have hc := of_decide_eq_true hc
    rw [if_pos (by omega)]
    repeat' (first | refine tr_seq ?_ | refine reg (T := tab) tOk hnt rfl ?_ ?_ | refine regD (T := tab) tOk mixedR hnt rfl (by decide +kernel) ?_ ?_ | refine tr_block ?_ | refine tr_skip ?_)
    · (dsimp only [AllP]; (repeat' first | exact trivial | assumption | exact Nat.le_of_ble_eq_true rfl | apply And.intro | decide | intro _ | exact rfl))
    refine tr_ret ⟨.inr rfl, _, _, rfl, by (repeat' first | exact trivial | exact Nat.le_of_ble_eq_true rfl | apply And.intro), ?_⟩
    exact rfl
  have hc : decide (IntKind.i64.wrap (IntKind.i64.wrap (((d.l.map eSec).length : Int) - 1) * 32) < (n : Int)) = false := hc
  rw [h63, h65] at hc
  have hc := of_decide_eq_false hc
  rw [if_neg (by omega)]
  repeat' (first | refine tr_seq ?_ | refine reg (T := tab) tOk hnt rfl ?_ ?_ | refine regD (T := tab) tOk mixedR hnt rfl (by decide +kernel) ?_ ?_ | refine tr_block ?_ | refine tr_skip ?_)
  · (dsimp only [AllP]; (repeat' first | exact trivial | assumption | exact Nat.le_of_ble_eq_true rfl | apply And.intro | decide | intro _ | exact rfl))
  refine tr_ret ⟨.inr rfl, _, _, rfl, by (repeat' first | exact trivial | exact Nat.le_of_ble_eq_true rfl | apply And.intro), ?_⟩
  exact rfl
end Go.Proofs.Ytphaholcndhonaa
namespace Go.Proofs.Ytphaholcndhonaa
open Go Go.RowKit Go.Proofs.Ytphaholcndhonaa.Ab
set_option linter.unusedSimpArgs false
set_option linter.unusedVariables false

def bdP (d : Dsk) (n : Nat) : List UInt8 := ((List.range n).map fun j => secF d ((j + 1 : Nat) : Int)).flatten
theorem bdP_succ (d : Dsk) (n : Nat) : bdP d (n + 1) = bdP d n ++ secF d ((n + 1 : Nat) : Int) := by
  unfold bdP
  rw [List.range_succ, List.map_append, List.flatten_append]
  simp
theorem sc_in {d : Dsk} (h : dkF d = 0) {j : Nat} (hj : j < d.l.length) : scF d (j : Int) = 0 := scF_fit2 h (by omega)
theorem rd_in {d : Dsk} (h : dkF d = 0) {j : Nat} (hj : j < d.l.length) : rdF d (j : Int) = (secF d (j : Int), 0) := by
  unfold rdF
  rw [if_neg (not_not_intro (sc_in h hj))]
theorem bdP_len {d : Dsk} (hd : d.ok) (h : dkF d = 0) : ∀ n, n ≤ d.l.length - 1 → (bdP d n).length = 32 * n
  | 0, _ => rfl
  | n + 1, hn => by
    rw [bdP_succ, List.length_append, bdP_len hd h n (by omega), secF_len hd (sc_in h (by omega))]
    omega
def bdF (d : Dsk) : List UInt8 := bdP d (d.l.length - 1)
def gdF (d : Dsk) : List UInt8 × Int := if (hdF d).2 ≠ 0 then ([], (hdF d).2) else ((bdF d).take (hdF d).1, 0)
def rBI (r : List UInt8 × Int) : D := .tup [(false, .es [eBytes r.1]), (false, .es [eI r.2])]
theorem rd0 (d : Dsk) (h : dkF d ≠ 0) (i : Int) : rdF d i = (z32, dkF d) := by
  unfold rdF
  rw [scF_bad2 i h, if_pos h]
theorem hd_ok {d : Dsk} (h : (hdF d).2 = 0) : dkF d = 0 ∧ (hdF d).1 ≤ (d.l.length - 1) * 32 := by
  have hk : dkF d = 0 := Classical.byContradiction fun hn => by
    unfold hdF at h
    rw [rd0 d hn, if_pos hn] at h
    exact hn h
  refine ⟨hk, ?_⟩
  unfold hdF at h ⊢
  split
  · exact Nat.zero_le _
  split
  · exact Nat.zero_le _
  split
  · exact Nat.zero_le _
  · dsimp only; omega
theorem bd_take {d : Dsk} (n m : Nat) (h : m ≤ n) (hl : (bdP d m).length = 32 * m) : (bdP d n).take (32 * m) = bdP d m := by
  induction n with
  | zero =>
    obtain rfl : m = 0 := by omega
    rfl
  | succ n ih =>
    by_cases e : m = n + 1
    · subst e
      exact List.take_of_length_le (by omega)
    · rw [bdP_succ, List.take_append_of_le_length, ih (by omega)]
      rw [← ih (by omega)] at hl
      rw [List.length_take] at hl
      omega
set_option maxRecDepth 10000 in
set_option maxHeartbeats 2000000 in
theorem good_fn (d : Dsk) (h : d.ok) : FnD Try.prog 27 [.agg (.es (eDsk d))] (rBI (gdF d)) := by
  refine fn_intro (T := tab) tOk Try.func27 rfl (by kernel_rfl) (by simp [Try.ntmps27]) ?_
  intro X hX
  have hnt : X.nt = 39 := hX
  clear hX
  have h1 := head_fn d h
  unfold gdF
  have hok := fun h => hd_ok (d := d) h
  generalize hdF d = q at *
  obtain ⟨n, e⟩ := q
  dsimp only at hok ⊢
  repeat' (first | refine tr_seq ?_ | refine reg (T := tab) tOk hnt rfl ?_ ?_ | refine regD (T := tab) tOk mixedR hnt rfl (by decide +kernel) ?_ ?_ | refine tr_block ?_ | refine tr_skip ?_)
  · (dsimp only [AllP]; (repeat' first | exact trivial | assumption | exact Nat.le_of_ble_eq_true rfl | apply And.intro | decide | intro _ | exact rfl))
  repeat' (first | refine tr_seq ?_ | refine tr_block ?_ | refine tr_skip ?_)
  refine tr_region (lex (T := tab) tOk hnt rfl ?_ (call rfl rfl rfl rfl rfl rfl rfl hnt (h1) (lex (T := tab) tOk hnt rfl ?_ (Lex.nil _)))) ?_
  · (dsimp only [AllP]; (repeat' first | exact trivial | assumption | exact Nat.le_of_ble_eq_true rfl | apply And.intro | exact eCells_len1 _ _ ‹_› | exact eCells_isByte _ _ ‹_› | (intro hh_; have hg_ := hh_; (try simp only [condT_ff, condF_tt, notE_t, notE_f, Bool.and_eq_true, ne_eq, decide_eq_true_eq, decide_eq_false_iff_not] at hg_)) | intro _ | exact rfl | omega))
  · (dsimp only [AllP]; (repeat' first | exact trivial | assumption | exact Nat.le_of_ble_eq_true rfl | apply And.intro | exact eCells_len1 _ _ ‹_› | exact eCells_isByte _ _ ‹_› | (intro hh_; have hg_ := hh_; (try simp only [condT_ff, condF_tt, notE_t, notE_f, Bool.and_eq_true, ne_eq, decide_eq_true_eq, decide_eq_false_iff_not] at hg_)) | intro _ | exact rfl | omega))
  repeat' (first | refine tr_seq ?_ | refine reg (T := tab) tOk hnt rfl ?_ ?_ | refine regD (T := tab) tOk mixedR hnt rfl (by decide +kernel) ?_ ?_ | refine tr_block ?_ | refine tr_skip ?_)
  · (dsimp only [AllP]; (repeat' first | exact trivial | assumption | exact Nat.le_of_ble_eq_true rfl | apply And.intro | decide | intro _ | exact rfl))
  repeat' (first | refine tr_seq ?_ | refine tr_block ?_ | refine tr_skip ?_)
  refine tr_cond rfl (fun hc => ?_) (fun hc => ?_)
  · simp only [condT_tt, condT_ff, condF_tt, condF_ff, notE_t, notE_f, decide_eq_true_eq, decide_eq_false_iff_not] at hc
    rw [if_pos hc]
    repeat' (first | refine tr_seq ?_ | refine reg (T := tab) tOk hnt rfl ?_ ?_ | refine regD (T := tab) tOk mixedR hnt rfl (by decide +kernel) ?_ ?_ | refine tr_block ?_ | refine tr_skip ?_)
    · (dsimp only [AllP]; (repeat' first | exact trivial | assumption | exact Nat.le_of_ble_eq_true rfl | apply And.intro | decide | intro _ | exact rfl))
    refine tr_ret ⟨.inr rfl, _, _, rfl, by (repeat' first | exact trivial | exact Nat.le_of_ble_eq_true rfl | apply And.intro), ?_⟩
    exact rfl
  simp only [condT_tt, condT_ff, condF_tt, condF_ff, notE_t, notE_f, decide_eq_true_eq, decide_eq_false_iff_not] at hc
  rw [if_neg (not_not_intro hc)]
  obtain ⟨hdk, hnb⟩ := hok hc
  have hle := dk_le2 hdk
  have hblen := bdP_len h hdk
  repeat' (first | refine tr_seq ?_ | refine reg (T := tab) tOk hnt rfl ?_ ?_ | refine regD (T := tab) tOk mixedR hnt rfl (by decide +kernel) ?_ ?_ | refine tr_block ?_ | refine tr_skip ?_)
  · (dsimp only [AllP]; (repeat' first | exact trivial | assumption | exact Nat.le_of_ble_eq_true rfl | apply And.intro | decide | intro _ | exact rfl))
  · (dsimp only [AllP]; (repeat' first | exact trivial | assumption | exact Nat.le_of_ble_eq_true rfl | apply And.intro | decide | intro _ | exact rfl))
  repeat' (first | refine tr_seq ?_ | refine tr_block ?_ | refine tr_skip ?_)
  refine tr_loop (σ := Nat) (fun m => St.of [(1, .one (.ptr 1 0 0)), (4, .one (.e (eI (n : Int)))), (6, .one (.own 35 0)), (7, .one (.e (eI ((m + 1 : Nat) : Int))))] [(1, ⟨0, .box (.es (eDsk d)), 0⟩), (35, ⟨0, .row 1 (eCells (bdP d m)), 0⟩)]) (fun m => m ≤ d.l.length - 1) (fun m => d.l.length - 1 - m) (0) (le_of (ad := [35]) (by refine ⟨?_, ?_, ?_, ?_, trivial⟩ <;> first | exact trivial | rfl | exact ⟨rfl, rfl⟩ | exact ⟨rfl, rfl, rfl⟩ | exact ⟨rfl, rfl, rfl, rfl⟩ | exact ⟨rfl, rfl, rfl, rfl, rfl⟩ | exact congrArg (fun z : Int => E.v (.int .i64 z)) (wrap64_id (by omega) (by omega)) | exact congrArg (fun z : Int => E.v (.int .u8 z)) (by assumption) | exact congrArg (fun z : ByteArray => E.v (.string z)) (by assumption) | (refine ⟨rfl, ?_⟩; repeat' first | exact trivial | rfl | apply And.intro)) (memOk_box rfl rfl rfl (memOk_new rfl (by decide) trivial))) (Nat.zero_le _) ?_
  rintro m il
  have hbl := hblen m il
  have hcl := eCells_length (bdP d m)
  repeat' (first | refine tr_seq ?_ | refine reg (T := tab) tOk hnt rfl ?_ ?_ | refine regD (T := tab) tOk mixedR hnt rfl (by decide +kernel) ?_ ?_ | refine tr_block ?_ | refine tr_skip ?_)
  · (dsimp only [AllP]; (repeat' first | exact trivial | assumption | exact Nat.le_of_ble_eq_true rfl | apply And.intro | decide | intro _ | exact rfl))
  repeat' (first | refine tr_seq ?_ | refine tr_block ?_ | refine tr_skip ?_)
  refine tr_cond rfl (fun hc => ?_) (fun hc => ?_)
  · have hc : ((eCells (bdP d m)).length : Int) < (n : Int) := of_decide_eq_true hc
    have hm : m + 1 < d.l.length := by omega
    have h2 := Read_fn d ((m + 1 : Nat) : Int) h
    rw [rd_in hdk hm] at h2
    have hsn := bdP_succ d m
    have hsl := secF_len h (sc_in hdk hm)
    generalize secF d ((m + 1 : Nat) : Int) = b at *
    have hbs := eSec_len hsl
    have hf32 : 0 + 32 ≤ (Cs.es (eSec b)).len := by show _ ≤ (eSec _).length; omega
    have ht32 := take_all hbs
    have hb1 := eCells_len1 b
    repeat' (first | refine tr_seq ?_ | refine tr_block ?_ | refine tr_skip ?_)
    refine tr_region (lex (T := tab) tOk hnt rfl ?_ (call rfl rfl rfl rfl rfl rfl rfl hnt (h2) (lex (T := tab) tOk hnt rfl ?_ (Lex.nil _)))) ?_
    · (dsimp only [AllP]; (repeat' first | exact trivial | assumption | exact Nat.le_of_ble_eq_true rfl | apply And.intro | exact eCells_len1 _ _ ‹_› | exact eCells_isByte _ _ ‹_› | (intro hh_; have hg_ := hh_; (try simp only [condT_ff, condF_tt, notE_t, notE_f, Bool.and_eq_true, ne_eq, decide_eq_true_eq, decide_eq_false_iff_not] at hg_)) | intro _ | exact rfl | omega))
    · (dsimp only [AllP]; (repeat' first | exact trivial | assumption | exact Nat.le_of_ble_eq_true rfl | apply And.intro | exact eCells_len1 _ _ ‹_› | exact eCells_isByte _ _ ‹_› | (intro hh_; have hg_ := hh_; (try simp only [condT_ff, condF_tt, notE_t, notE_f, Bool.and_eq_true, ne_eq, decide_eq_true_eq, decide_eq_false_iff_not] at hg_)) | intro _ | exact rfl | omega))
      all_goals trace_state
    repeat' (first | refine tr_seq ?_ | refine reg (T := tab) tOk hnt rfl ?_ ?_ | refine regD (T := tab) tOk mixedR hnt rfl (by decide +kernel) ?_ ?_ | refine tr_block ?_ | refine tr_skip ?_)
    · (dsimp only [AllP]; (repeat' first | exact trivial | assumption | exact Nat.le_of_ble_eq_true rfl | apply And.intro | decide | intro _ | exact rfl))
    repeat' (first | refine tr_seq ?_ | refine tr_block ?_ | refine tr_skip ?_)
    refine tr_cond rfl (fun hc => ?_) (fun hc => ?_)
    · exact absurd (show decide ((0 : Int) ≠ 0) = true from hc) (by decide)
    have h64 : IntKind.i64.wrap (((m + 1 : Nat) : Int) + 1) = ((m + 1 + 1 : Nat) : Int) := wrap64_id (by omega) (by omega)
    refine tr_le (s' := St.of [(1, .one (.ptr 1 0 0)), (4, .one (.e (eI (n : Int)))), (6, .one (.own 35 0)), (7, .one (.e (eI ((m + 1 : Nat) : Int)))), (8, .one (.ptr 8 0 0))] [(1, ⟨0, .box (.es (eDsk d)), 0⟩), (35, ⟨0, .row 1 (eCells (bdP d m)), 0⟩), (8, ⟨0, .box (.es (eSec b)), 0⟩)]) (le_of (ad := []) (by refine ⟨?_, ?_, ?_, ?_, ?_, trivial⟩ <;> first | exact trivial | rfl | exact ⟨rfl, rfl⟩ | exact ⟨rfl, rfl, rfl⟩ | exact ⟨rfl, rfl, rfl, rfl⟩ | exact ⟨rfl, rfl, rfl, rfl, rfl⟩ | exact congrArg (fun z : Int => E.v (.int .i64 z)) (wrap64_id (by omega) (by omega)) | exact congrArg (fun z : Int => E.v (.int .u8 z)) (by assumption) | exact congrArg (fun z : ByteArray => E.v (.string z)) (by assumption) | (refine ⟨rfl, ?_⟩; repeat' first | exact trivial | rfl | apply And.intro)) (memOk_box rfl rfl rfl (memOk_row rfl rfl rfl (memOk_box rfl rfl (bxA hbs rfl) trivial)))) ?_
    have hch : chunksE 1 32 (List.drop 0 (eSec b)) = eCells b := by
      have h0 := ch1 b 32 (by omega)
      rw [List.take_of_length_le (by omega)] at h0
      exact h0
    have hcb := eCells_length b
    have m1 : (eCells (bdP d m)).length + (chunksE 1 32 (List.drop 0 (eSec b))).length ≤ maxLen := by rw [hch, hcl, hcb]; unfold maxLen; omega
    have m2 : ((eCells (bdP d m)).length + (chunksE 1 32 (List.drop 0 (eSec b))).length) * 1 ≤ 140737488355328 := by rw [hch, hcl, hcb]; omega
    have m3 : ∀ cs ∈ chunksE 1 32 (List.drop 0 (eSec b)), cs.length = 1 := by rw [hch]; exact hb1
    have hrow : eCells (bdP d m) ++ chunksE 1 32 (List.drop 0 (eSec b)) = eCells (bdP d (m + 1)) := by rw [hch, eCells_append, ← hsn]
    repeat' (first | refine tr_seq ?_ | refine tr_block ?_ | refine tr_skip ?_)
    first | refine reg (T := tab) tOk hnt rfl ?_ ?_ | refine regD (T := tab) tOk mixedR hnt rfl (by decide +kernel) ?_ ?_
    · (dsimp only [AllP]; (repeat' first | exact trivial | assumption | exact Nat.le_of_ble_eq_true rfl | apply And.intro | exact eCells_len1 _ _ ‹_› | exact eCells_isByte _ _ ‹_› | (intro hh_; have hg_ := hh_; (try simp only [condT_ff, condF_tt, notE_t, notE_f, Bool.and_eq_true, ne_eq, decide_eq_true_eq, decide_eq_false_iff_not] at hg_)) | intro _ | exact rfl | omega))
      all_goals first | exact m1 | exact m2 | exact m3 _ ‹_› | trace_state
    repeat' (first | refine tr_seq ?_ | refine reg (T := tab) tOk hnt rfl ?_ ?_ | refine regD (T := tab) tOk mixedR hnt rfl (by decide +kernel) ?_ ?_ | refine tr_block ?_ | refine tr_skip ?_)
    · (dsimp only [AllP]; (repeat' first | exact trivial | assumption | exact Nat.le_of_ble_eq_true rfl | apply And.intro | decide | intro _ | exact rfl))
    rw [h64]
    refine ⟨(m + 1), (by omega), by omega, le_of (ad := []) (by refine ⟨?_, ?_, ?_, ?_, trivial⟩ <;> first | exact trivial | rfl | exact ⟨rfl, rfl⟩ | exact ⟨rfl, rfl, rfl⟩ | exact ⟨rfl, rfl, rfl, rfl⟩ | exact ⟨rfl, rfl, rfl, rfl, rfl⟩ | exact congrArg (fun z : Int => E.v (.int .i64 z)) (wrap64_id (by omega) (by omega)) | exact congrArg (fun z : Int => E.v (.int .u8 z)) (by assumption) | exact congrArg (fun z : ByteArray => E.v (.string z)) (by assumption) | (refine ⟨rfl, ?_⟩; repeat' first | exact trivial | rfl | apply And.intro)) (memOk_box rfl rfl rfl (memOk_row rfl rfl hrow trivial))⟩
  have hc : ¬ ((eCells (bdP d m)).length : Int) < (n : Int) := of_decide_eq_false hc
  refine tr_exit ?_
  have hfin : (bdP d m).take n = (bdF d).take n := by
    have h1 := bd_take (d := d) (d.l.length - 1) m il hbl
    unfold bdF
    rw [← h1, List.take_take, Nat.min_eq_left (by omega)]
  rw [← hfin]
  repeat' (first | refine tr_seq ?_ | refine tr_block ?_ | refine tr_skip ?_)
  first | refine reg (T := tab) tOk hnt rfl ?_ ?_ | refine regD (T := tab) tOk mixedR hnt rfl (by decide +kernel) ?_ ?_
  · (dsimp only [AllP]; (repeat' first | exact trivial | assumption | exact Nat.le_of_ble_eq_true rfl | apply And.intro | exact eCells_len1 _ _ ‹_› | exact eCells_isByte _ _ ‹_› | (intro hh_; have hg_ := hh_; (try simp only [condT_ff, condF_tt, notE_t, notE_f, Bool.and_eq_true, ne_eq, decide_eq_true_eq, decide_eq_false_iff_not] at hg_)) | intro _ | exact rfl | omega))
    all_goals trace_state
  refine tr_ret ⟨.inr rfl, _, _, rfl, by (repeat' first | exact trivial | exact Nat.le_of_ble_eq_true rfl | apply And.intro), ?_⟩
  show D.tup [(false, .es [E.sl (List.take (Int.toNat (n : Int)) (eCells (bdP d m)))]), (false, .es [eI 0])] = _
  rw [Int.toNat_natCast, eCells_take]
  rfl
end Go.Proofs.Ytphaholcndhonaa
namespace Go.Proofs.Ytphaholcndhonaa
open Go Go.RowKit Go.Proofs.Ytphaholcndhonaa.Ab
set_option linter.unusedSimpArgs false
set_option linter.unusedVariables false

def alP (d : Dsk) (n : Nat) : List UInt8 := ((List.range n).map fun (j : Nat) => secF d (j : Int)).flatten
theorem alP_succ (d : Dsk) (n : Nat) : alP d (n + 1) = alP d n ++ secF d (n : Int) := by
  unfold alP
  rw [List.range_succ, List.map_append, List.flatten_append]
  simp
theorem alP_bd (d : Dsk) : ∀ n, alP d (n + 1) = secF d 0 ++ bdP d n
  | 0 => by rw [alP_succ]; show [] ++ secF d ((0 : Nat) : Int) = secF d 0 ++ []; rw [List.append_nil]; rfl
  | n + 1 => by rw [alP_succ, alP_bd d n, bdP_succ, List.append_assoc]
def tlP (b : List UInt8) (k : Nat) : Prop := ∀ i, i < k → 8 ≤ i → b.getD i 0 = 0
instance (b : List UInt8) (k : Nat) : Decidable (tlP b k) := inferInstanceAs (Decidable (∀ i, i < k → 8 ≤ i → b.getD i 0 = 0))
def txF (d : Dsk) : List UInt8 × Int :=
  if dkF d ≠ 0 then ([], dkF d) else if (bdF d).length < nmN ((secF d 0).take 8) then ([], 11) else
  if ¬ tlP (secF d 0) 32 then ([], 11) else ((bdF d).take (nmN ((secF d 0).take 8)), 0)
theorem cons8 {b : List UInt8} (h : 8 ≤ b.length) : ∃ b0 b1 b2 b3 b4 b5 b6 b7 r, b = b0 :: b1 :: b2 :: b3 :: b4 :: b5 :: b6 :: b7 :: r := by
  match b, h with
  | b0 :: b1 :: b2 :: b3 :: b4 :: b5 :: b6 :: b7 :: r, _ => exact ⟨b0, b1, b2, b3, b4, b5, b6, b7, r, rfl⟩
theorem gd_tx {d : Dsk} (hd : d.ok) : gdF d = txF d := by
  unfold gdF txF
  by_cases hk : dkF d ≠ 0
  · have h2 : hdF d = (0, dkF d) := by
      unfold hdF
      rw [rd0 d hk]
      exact if_pos hk
    rw [h2, if_pos hk, if_pos hk]
  rw [if_neg hk]
  have hk := Classical.not_not.1 hk
  have hle := dk_le2 hk
  have hr := rd_in hk (j := 0) (by omega)
  have hr : rdF d 0 = (secF d 0, 0) := hr
  have hbl := secF_len hd (sc_in hk (j := 0) (by omega))
  have hbl : (secF d 0).length = 32 := hbl
  have hbd : (bdF d).length = 32 * (d.l.length - 1) := bdP_len hd hk _ (Nat.le_refl _)
  have hH : hdF d = if ¬ hzP (secF d 0) 32 then (0, 11) else if (d.l.length - 1) * 32 < nmN (((secF d 0).drop 5).take 3) then (0, 11) else (nmN (((secF d 0).drop 5).take 3), 0) := by
    unfold hdF
    rw [hr]
    exact if_neg (not_not_intro rfl)
  rw [hH, hbd]
  clear hH hr
  generalize secF d 0 = b at *
  obtain ⟨b0, b1, b2, b3, b4, b5, b6, b7, r, rfl⟩ := cons8 (b := b) (by omega)
  have e8 : nmN ((b0 :: b1 :: b2 :: b3 :: b4 :: b5 :: b6 :: b7 :: r).take 8) = ((((((b0.toNat * 256 + b1.toNat) * 256 + b2.toNat) * 256 + b3.toNat) * 256 + b4.toNat) * 256 + b5.toNat) * 256 + b6.toNat) * 256 + b7.toNat := by
    show nmN [b0, b1, b2, b3, b4, b5, b6, b7] = _
    simp [nmN]
  have e3 : nmN (((b0 :: b1 :: b2 :: b3 :: b4 :: b5 :: b6 :: b7 :: r).drop 5).take 3) = (b5.toNat * 256 + b6.toNat) * 256 + b7.toNat := by
    show nmN [b5, b6, b7] = _
    simp [nmN]
  rw [e8, e3]
  have z : ∀ x : UInt8, x = 0 ↔ x.toNat = 0 := fun x => ⟨fun h => by rw [h]; rfl, fun h => UInt8.toNat_inj.1 h⟩
  by_cases hz : hzP (b0 :: b1 :: b2 :: b3 :: b4 :: b5 :: b6 :: b7 :: r) 32
  · have z0 := (z b0).1 (hz 0 (by decide) (by decide) (by decide) (by decide))
    have z1 := (z b1).1 (hz 1 (by decide) (by decide) (by decide) (by decide))
    have z2 := (z b2).1 (hz 2 (by decide) (by decide) (by decide) (by decide))
    have z3 := (z b3).1 (hz 3 (by decide) (by decide) (by decide) (by decide))
    have z4 := (z b4).1 (hz 4 (by decide) (by decide) (by decide) (by decide))
    have ht : tlP (b0 :: b1 :: b2 :: b3 :: b4 :: b5 :: b6 :: b7 :: r) 32 := fun i h1 h2 => hz i h1 (by omega) (by omega) (by omega)
    rw [if_neg (not_not_intro hz), if_neg (not_not_intro ht)]
    have en : ((((((b0.toNat * 256 + b1.toNat) * 256 + b2.toNat) * 256 + b3.toNat) * 256 + b4.toNat) * 256 + b5.toNat) * 256 + b6.toNat) * 256 + b7.toNat = (b5.toNat * 256 + b6.toNat) * 256 + b7.toNat := by rw [z0, z1, z2, z3, z4]; omega
    rw [en]
    generalize (b5.toNat * 256 + b6.toNat) * 256 + b7.toNat = n
    by_cases hn : (d.l.length - 1) * 32 < n
    · rw [if_pos hn, if_pos (show ((0 : Nat), (11 : Int)).2 ≠ 0 by decide), if_pos (show 32 * (d.l.length - 1) < n by omega)]
    · rw [if_neg hn, if_neg (show ¬ (n, (0 : Int)).2 ≠ 0 from not_not_intro rfl), if_neg (show ¬ 32 * (d.l.length - 1) < n by omega)]
  · rw [if_pos hz, if_pos (show ((0 : Nat), (11 : Int)).2 ≠ 0 by decide)]
    by_cases hn : 32 * (d.l.length - 1) < ((((((b0.toNat * 256 + b1.toNat) * 256 + b2.toNat) * 256 + b3.toNat) * 256 + b4.toNat) * 256 + b5.toNat) * 256 + b6.toNat) * 256 + b7.toNat
    · rw [if_pos hn]
    · rw [if_neg hn, if_pos]
      intro ht
      refine hz fun i hi h5 h6 h7 => ?_
      by_cases h8 : 8 ≤ i
      · exact ht i hi h8
      · have hb : b0.toNat = 0 ∧ b1.toNat = 0 ∧ b2.toNat = 0 ∧ b3.toNat = 0 ∧ b4.toNat = 0 := by omega
        obtain ⟨c0, c1, c2, c3, c4⟩ := hb
        have : i = 0 ∨ i = 1 ∨ i = 2 ∨ i = 3 ∨ i = 4 := by omega
        rcases this with rfl | rfl | rfl | rfl | rfl
        · exact (z b0).2 c0
        · exact (z b1).2 c1
        · exact (z b2).2 c2
        · exact (z b3).2 c3
        · exact (z b4).2 c4
theorem strApp (l r : List UInt8) : strB l ++ strB r = strB (l ++ r) := by
  apply ByteArray.ext
  simp [strB]
theorem alP_len {d : Dsk} (hd : d.ok) (h : dkF d = 0) : ∀ n, n ≤ d.l.length → (alP d n).length = 32 * n
  | 0, _ => rfl
  | n + 1, hn => by
    rw [alP_succ, List.length_append, alP_len hd h n (by omega), secF_len hd (sc_in h (by omega))]
    omega
def rTI (r : List UInt8 × Int) : D := .tup [(false, .es [eTx r.1]), (false, .es [eI r.2])]
set_option maxRecDepth 10000 in
set_option maxHeartbeats 2000000 in
theorem tapeText_fn (d : Dsk) (h : d.ok) : FnD Try.prog 30 [.agg (.es (eDsk d))] (rTI (txF d)) := by
  refine fn_intro (T := tab) tOk Try.func30 rfl (by kernel_rfl) (by simp [Try.ntmps30]) ?_
  intro X hX
  have hnt : X.nt = 58 := hX
  clear hX
  have hll : (d.l.map eSec).length = d.l.length := List.length_map ..
  have h1 := dFault_fn d h
  unfold txF
  repeat' (first | refine tr_seq ?_ | refine reg (T := tab) tOk hnt rfl ?_ ?_ | refine regD (T := tab) tOk mixedR hnt rfl (by decide +kernel) ?_ ?_ | refine tr_block ?_ | refine tr_skip ?_)
  · (dsimp only [AllP]; (repeat' first | exact trivial | assumption | exact Nat.le_of_ble_eq_true rfl | apply And.intro | decide | intro _ | exact rfl))
  repeat' (first | refine tr_seq ?_ | refine tr_block ?_ | refine tr_skip ?_)
  refine tr_region (lex (T := tab) tOk hnt rfl ?_ (call rfl rfl rfl rfl rfl rfl rfl hnt (h1) (lex (T := tab) tOk hnt rfl ?_ (Lex.nil _)))) ?_
  · (dsimp only [AllP]; (repeat' first | exact trivial | assumption | exact Nat.le_of_ble_eq_true rfl | apply And.intro | exact eCells_len1 _ _ ‹_› | exact eCells_isByte _ _ ‹_› | (intro hh_; have hg_ := hh_; (try simp only [condT_ff, condF_tt, notE_t, notE_f, Bool.and_eq_true, ne_eq, decide_eq_true_eq, decide_eq_false_iff_not] at hg_)) | intro _ | exact rfl | omega))
  · (dsimp only [AllP]; (repeat' first | exact trivial | assumption | exact Nat.le_of_ble_eq_true rfl | apply And.intro | exact eCells_len1 _ _ ‹_› | exact eCells_isByte _ _ ‹_› | (intro hh_; have hg_ := hh_; (try simp only [condT_ff, condF_tt, notE_t, notE_f, Bool.and_eq_true, ne_eq, decide_eq_true_eq, decide_eq_false_iff_not] at hg_)) | intro _ | exact rfl | omega))
  repeat' (first | refine tr_seq ?_ | refine reg (T := tab) tOk hnt rfl ?_ ?_ | refine regD (T := tab) tOk mixedR hnt rfl (by decide +kernel) ?_ ?_ | refine tr_block ?_ | refine tr_skip ?_)
  · (dsimp only [AllP]; (repeat' first | exact trivial | assumption | exact Nat.le_of_ble_eq_true rfl | apply And.intro | decide | intro _ | exact rfl))
  repeat' (first | refine tr_seq ?_ | refine tr_block ?_ | refine tr_skip ?_)
  refine tr_cond rfl (fun hc => ?_) (fun hc => ?_)
  · simp only [condT_tt, condT_ff, condF_tt, condF_ff, notE_t, notE_f, decide_eq_true_eq, decide_eq_false_iff_not] at hc
    rw [if_pos hc]
    repeat' (first | refine tr_seq ?_ | refine reg (T := tab) tOk hnt rfl ?_ ?_ | refine regD (T := tab) tOk mixedR hnt rfl (by decide +kernel) ?_ ?_ | refine tr_block ?_ | refine tr_skip ?_)
    · (dsimp only [AllP]; (repeat' first | exact trivial | assumption | exact Nat.le_of_ble_eq_true rfl | apply And.intro | decide | intro _ | exact rfl))
    refine tr_ret ⟨.inr rfl, _, _, rfl, by (repeat' first | exact trivial | exact Nat.le_of_ble_eq_true rfl | apply And.intro), ?_⟩
    exact rfl
  simp only [condT_tt, condT_ff, condF_tt, condF_ff, notE_t, notE_f, decide_eq_true_eq, decide_eq_false_iff_not] at hc
  rw [if_neg (not_not_intro hc)]
  have hk := hc
  have hle := dk_le2 hk
  repeat' (first | refine tr_seq ?_ | refine reg (T := tab) tOk hnt rfl ?_ ?_ | refine regD (T := tab) tOk mixedR hnt rfl (by decide +kernel) ?_ ?_ | refine tr_block ?_ | refine tr_skip ?_)
  · (dsimp only [AllP]; (repeat' first | exact trivial | assumption | exact Nat.le_of_ble_eq_true rfl | apply And.intro | decide | intro _ | exact rfl))
  · (dsimp only [AllP]; (repeat' first | exact trivial | assumption | exact Nat.le_of_ble_eq_true rfl | apply And.intro | decide | intro _ | exact rfl))
  repeat' (first | refine tr_seq ?_ | refine tr_block ?_ | refine tr_skip ?_)
  refine tr_loop (σ := Nat) (fun i => St.of [(1, .one (.ptr 1 0 0)), (5, .one (.e (eTx (alP d i)))), (20, .one (.e (eI ((d.l.map eSec).length : Int)))), (21, .one (.e (eI (i : Int))))] [(1, ⟨0, .box (.es (eDsk d)), 0⟩)]) (fun i => i ≤ d.l.length) (fun i => d.l.length - i) (0) (le_of (ad := []) (by refine ⟨?_, ?_, ?_, ?_, trivial⟩ <;> first | exact trivial | rfl | exact ⟨rfl, rfl⟩ | exact ⟨rfl, rfl, rfl⟩ | exact ⟨rfl, rfl, rfl, rfl⟩ | exact ⟨rfl, rfl, rfl, rfl, rfl⟩ | exact congrArg (fun z : Int => E.v (.int .i64 z)) (wrap64_id (by omega) (by omega)) | exact congrArg (fun z : Int => E.v (.int .u8 z)) (by assumption) | exact congrArg (fun z : ByteArray => E.v (.string z)) (by assumption) | (refine ⟨rfl, ?_⟩; repeat' first | exact trivial | rfl | apply And.intro)) (memOk_box rfl rfl rfl trivial)) (Nat.zero_le _) ?_
  rintro i il
  repeat' (first | refine tr_seq ?_ | refine reg (T := tab) tOk hnt rfl ?_ ?_ | refine regD (T := tab) tOk mixedR hnt rfl (by decide +kernel) ?_ ?_ | refine tr_block ?_ | refine tr_skip ?_)
  · (dsimp only [AllP]; (repeat' first | exact trivial | assumption | exact Nat.le_of_ble_eq_true rfl | apply And.intro | decide | intro _ | exact rfl))
  repeat' (first | refine tr_seq ?_ | refine tr_block ?_ | refine tr_skip ?_)
  refine tr_cond rfl (fun hc => ?_) (fun hc => ?_)
  · simp only [condT_tt, condT_ff, condF_tt, condF_ff, notE_t, notE_f, decide_eq_true_eq, decide_eq_false_iff_not] at hc
    (try simp only [hll] at hc)
    (try simp only [condT_tt, condT_ff, condF_tt, condF_ff, notE_t, notE_f, decide_eq_true_eq, decide_eq_false_iff_not] at hc)
    have hlt : i < d.l.length := by omega
    have h2 := SectorOf_fn d (i : Int) h
    rw [rd_in hk hlt] at h2
    have hsl := secF_len h (sc_in hk hlt)
    have hsn := alP_succ d i
    generalize secF d (i : Int) = b at *
    have hbs := eSec_len hsl
    have hf32 : 0 + 32 ≤ (Cs.es (eSec b)).len := by show _ ≤ (eSec _).length; omega
    have ht32 := take_all hbs
    have hch : chunksE 1 32 (List.drop 0 (eSec b)) = eCells b := by
      have h0 := ch1 b 32 (by omega)
      rw [List.take_of_length_le (by omega)] at h0
      exact h0
    have h64 : IntKind.i64.wrap ((i : Int) + 1) = ((i + 1 : Nat) : Int) := wrap64_id (by omega) (by omega)
    have hb1 := eCells_isByte b
    repeat' (first | refine tr_seq ?_ | refine reg (T := tab) tOk hnt rfl ?_ ?_ | refine regD (T := tab) tOk mixedR hnt rfl (by decide +kernel) ?_ ?_ | refine tr_block ?_ | refine tr_skip ?_)
    · (dsimp only [AllP]; (repeat' first | exact trivial | assumption | exact Nat.le_of_ble_eq_true rfl | apply And.intro | decide | intro _ | exact rfl))
    repeat' (first | refine tr_seq ?_ | refine tr_block ?_ | refine tr_skip ?_)
    refine tr_region (lex (T := tab) tOk hnt rfl ?_ (call rfl rfl rfl rfl rfl rfl rfl hnt (h2) (lex (T := tab) tOk hnt rfl ?_ (Lex.nil _)))) ?_
    · (dsimp only [AllP]; (repeat' first | exact trivial | assumption | exact Nat.le_of_ble_eq_true rfl | apply And.intro | exact eCells_len1 _ _ ‹_› | exact eCells_isByte _ _ ‹_› | (intro hh_; have hg_ := hh_; (try simp only [condT_ff, condF_tt, notE_t, notE_f, Bool.and_eq_true, ne_eq, decide_eq_true_eq, decide_eq_false_iff_not] at hg_)) | intro _ | exact rfl | omega))
    · (dsimp only [AllP]; (repeat' first | exact trivial | assumption | exact Nat.le_of_ble_eq_true rfl | apply And.intro | exact eCells_len1 _ _ ‹_› | exact eCells_isByte _ _ ‹_› | (intro hh_; have hg_ := hh_; (try simp only [condT_ff, condF_tt, notE_t, notE_f, Bool.and_eq_true, ne_eq, decide_eq_true_eq, decide_eq_false_iff_not] at hg_)) | intro _ | exact rfl | omega))
    refine tr_le (s' := St.of [(1, .one (.ptr 1 0 0)), (5, .one (.e (eTx (alP d i)))), (7, .one (.ptr 7 0 0)), (20, .one (.e (eI ((d.l.map eSec).length : Int)))), (21, .one (.e (eI (i : Int))))] [(1, ⟨0, .box (.es (eDsk d)), 0⟩), (7, ⟨0, .box (.es (eSec b)), 0⟩)]) (le_of (ad := []) (by refine ⟨?_, ?_, ?_, ?_, ?_, trivial⟩ <;> first | exact trivial | rfl | exact ⟨rfl, rfl⟩ | exact ⟨rfl, rfl, rfl⟩ | exact ⟨rfl, rfl, rfl, rfl⟩ | exact ⟨rfl, rfl, rfl, rfl, rfl⟩ | exact congrArg (fun z : Int => E.v (.int .i64 z)) (wrap64_id (by omega) (by omega)) | exact congrArg (fun z : Int => E.v (.int .u8 z)) (by assumption) | exact congrArg (fun z : ByteArray => E.v (.string z)) (by assumption) | (refine ⟨rfl, ?_⟩; repeat' first | exact trivial | rfl | apply And.intro)) (memOk_box rfl rfl rfl (memOk_box rfl rfl (bxA hbs rfl) trivial))) ?_
    have hal := alP_len h hk i (by omega)
    have m1 : (strB (alP d i)).size + (bytesOf (chunksE 1 32 (List.drop 0 (eSec b)))).size ≤ maxLen := by rw [hch, strB_of, strB_size, strB_size]; unfold maxLen; omega
    have hby : ∀ c ∈ chunksE 1 32 (List.drop 0 (eSec b)), isByte c := by rw [hch]; exact hb1
    repeat' (first | refine tr_seq ?_ | refine tr_block ?_ | refine tr_skip ?_)
    first | refine reg (T := tab) tOk hnt rfl ?_ ?_ | refine regD (T := tab) tOk mixedR hnt rfl (by decide +kernel) ?_ ?_
    · (dsimp only [AllP]; (repeat' first | exact trivial | assumption | exact Nat.le_of_ble_eq_true rfl | apply And.intro | exact eCells_len1 _ _ ‹_› | exact eCells_isByte _ _ ‹_› | (intro hh_; have hg_ := hh_; (try simp only [condT_ff, condF_tt, notE_t, notE_f, Bool.and_eq_true, ne_eq, decide_eq_true_eq, decide_eq_false_iff_not] at hg_)) | intro _ | exact rfl | omega))
      all_goals first | exact hby _ ‹_› | exact m1 | trace_state
    have hst : strB (alP d i) ++ bytesOf (chunksE 1 32 (List.drop 0 (eSec b))) = strB (alP d (i + 1)) := by rw [hch, strB_of, strApp, hsn]
    repeat' (first | refine tr_seq ?_ | refine reg (T := tab) tOk hnt rfl ?_ ?_ | refine regD (T := tab) tOk mixedR hnt rfl (by decide +kernel) ?_ ?_ | refine tr_block ?_ | refine tr_skip ?_)
    · (dsimp only [AllP]; (repeat' first | exact trivial | assumption | exact Nat.le_of_ble_eq_true rfl | apply And.intro | decide | intro _ | exact rfl))
    rw [h64]
    refine ⟨(i + 1), (by omega), by omega, le_of (ad := []) (by refine ⟨?_, ?_, ?_, ?_, trivial⟩ <;> first | exact trivial | rfl | exact ⟨rfl, rfl⟩ | exact ⟨rfl, rfl, rfl⟩ | exact ⟨rfl, rfl, rfl, rfl⟩ | exact ⟨rfl, rfl, rfl, rfl, rfl⟩ | exact congrArg (fun z : Int => E.v (.int .i64 z)) (wrap64_id (by omega) (by omega)) | exact congrArg (fun z : Int => E.v (.int .u8 z)) (by assumption) | exact congrArg (fun z : ByteArray => E.v (.string z)) (by assumption) | (refine ⟨rfl, ?_⟩; repeat' first | exact trivial | rfl | apply And.intro)) (memOk_box rfl rfl rfl trivial)⟩
  simp only [condT_tt, condT_ff, condF_tt, condF_ff, notE_t, notE_f, decide_eq_true_eq, decide_eq_false_iff_not] at hc
  (try simp only [hll] at hc)
  (try simp only [condT_tt, condT_ff, condF_tt, condF_ff, notE_t, notE_f, decide_eq_true_eq, decide_eq_false_iff_not] at hc)
  refine tr_exit ?_
  obtain rfl : i = d.l.length := by omega
  have hA : alP d d.l.length = secF d 0 ++ bdF d := by
    have := alP_bd d (d.l.length - 1)
    rwa [show d.l.length - 1 + 1 = d.l.length by omega] at this
  have hbl : (secF d 0).length = 32 := secF_len h (sc_in hk (j := 0) (by omega))
  have hbd : (bdF d).length = 32 * (d.l.length - 1) := bdP_len h hk _ (Nat.le_refl _)
  rw [hA]
  generalize secF d 0 = b at *
  generalize bdF d = y at *
  have hsz : (strB (b ++ y)).size = 32 + y.length := by rw [strB_size, List.length_append, hbl]
  have h32 : (32 : Int) ≤ ((strB (b ++ y)).size : Int) := by omega
  repeat' (first | refine tr_seq ?_ | refine tr_block ?_ | refine tr_skip ?_)
  first | refine reg (T := tab) tOk hnt rfl ?_ ?_ | refine regD (T := tab) tOk mixedR hnt rfl (by decide +kernel) ?_ ?_
  · (dsimp only [AllP]; (repeat' first | exact trivial | assumption | exact Nat.le_of_ble_eq_true rfl | apply And.intro | exact eCells_len1 _ _ ‹_› | exact eCells_isByte _ _ ‹_› | (intro hh_; have hg_ := hh_; (try simp only [condT_ff, condF_tt, notE_t, notE_f, Bool.and_eq_true, ne_eq, decide_eq_true_eq, decide_eq_false_iff_not] at hg_)) | intro _ | exact rfl | omega))
    all_goals trace_state
  have s9 : (strB (b ++ y)).extract (Int.toNat 0) (Int.toNat 32) = strB b := by
    rw [strB_extract]
    congr 1
    show List.drop 0 (List.take 32 (b ++ y)) = b
    rw [List.drop_zero, ← hbl, List.take_left']
    rfl
  have s10 : (strB (b ++ y)).extract (Int.toNat 32) (Int.toNat ((strB (b ++ y)).size : Int)) = strB y := by
    rw [strB_extract, Int.toNat_natCast, hsz]
    congr 1
    show List.drop 32 (List.take (32 + y.length) (b ++ y)) = y
    rw [List.take_of_length_le (by rw [List.length_append]; omega), ← hbl, List.drop_left']
    rfl
  refine tr_le (s' := St.of [(9, .one (.e (eTx b))), (10, .one (.e (eTx y)))] []) (le_of (ad := []) (by refine ⟨?_, ?_, trivial⟩ <;> first | exact trivial | rfl | exact ⟨rfl, rfl⟩ | exact ⟨rfl, rfl, rfl⟩ | exact ⟨rfl, rfl, rfl, rfl⟩ | exact ⟨rfl, rfl, rfl, rfl, rfl⟩ | exact congrArg (fun z : Int => E.v (.int .i64 z)) (wrap64_id (by omega) (by omega)) | exact congrArg (fun z : Int => E.v (.int .u8 z)) (by assumption) | exact congrArg (fun z : ByteArray => E.v (.string z)) (by assumption) | (refine ⟨rfl, ?_⟩; repeat' first | exact trivial | rfl | apply And.intro)) trivial) ?_
  have hn := rnumber_fn (b.take 8) (by rw [List.length_take]; omega)
  have hn8 := nmN_lt 8 (b.take 8) (by rw [List.length_take]; omega)
  have hn8 : nmN (b.take 8) < 18446744073709551616 := hn8
  have s8 : eTx (b.take 8) = E.v (.string ((strB b).extract (Int.toNat 0) (Int.toNat 8))) := by
    rw [strB_extract]
    rfl
  rw [s8] at hn
  generalize nmN (b.take 8) = n at *
  have hb8 : (8 : Int) ≤ ((strB b).size : Int) := by rw [strB_size]; omega
  repeat' (first | refine tr_seq ?_ | refine tr_block ?_ | refine tr_skip ?_)
  refine tr_region (lex (T := tab) tOk hnt rfl ?_ (call rfl rfl rfl rfl rfl rfl rfl hnt (hn) (lex (T := tab) tOk hnt rfl ?_ (Lex.nil _)))) ?_
  · (dsimp only [AllP]; (repeat' first | exact trivial | assumption | exact Nat.le_of_ble_eq_true rfl | apply And.intro | exact eCells_len1 _ _ ‹_› | exact eCells_isByte _ _ ‹_› | (intro hh_; have hg_ := hh_; (try simp only [condT_ff, condF_tt, notE_t, notE_f, Bool.and_eq_true, ne_eq, decide_eq_true_eq, decide_eq_false_iff_not] at hg_)) | intro _ | exact rfl | omega))
    all_goals trace_state
  · (dsimp only [AllP]; (repeat' first | exact trivial | assumption | exact Nat.le_of_ble_eq_true rfl | apply And.intro | exact eCells_len1 _ _ ‹_› | exact eCells_isByte _ _ ‹_› | (intro hh_; have hg_ := hh_; (try simp only [condT_ff, condF_tt, notE_t, notE_f, Bool.and_eq_true, ne_eq, decide_eq_true_eq, decide_eq_false_iff_not] at hg_)) | intro _ | exact rfl | omega))
  have hys : (strB y).size = y.length := strB_size y
  have hu : IntKind.u64.wrap (((strB y).size : Nat) : Int) = (y.length : Int) := by rw [hys]; exact wrapU2 _ (by omega)
  repeat' (first | refine tr_seq ?_ | refine tr_block ?_ | refine tr_skip ?_)
  first | refine reg (T := tab) tOk hnt rfl ?_ ?_ | refine regD (T := tab) tOk mixedR hnt rfl (by decide +kernel) ?_ ?_
  · (dsimp only [AllP]; (repeat' first | exact trivial | assumption | exact Nat.le_of_ble_eq_true rfl | apply And.intro | exact eCells_len1 _ _ ‹_› | exact eCells_isByte _ _ ‹_› | (intro hh_; have hg_ := hh_; (try simp only [condT_ff, condF_tt, notE_t, notE_f, Bool.and_eq_true, ne_eq, decide_eq_true_eq, decide_eq_false_iff_not] at hg_)) | intro _ | exact rfl | omega))
  repeat' (first | refine tr_seq ?_ | refine tr_block ?_ | refine tr_skip ?_)
  refine tr_cond rfl (fun hc => ?_) (fun hc => ?_)
  · have hc : decide (IntKind.u64.wrap (((strB y).size : Nat) : Int) < (n : Int)) = true := hc
    rw [hu] at hc
    have hc := of_decide_eq_true hc
    rw [if_pos (by omega)]
    repeat' (first | refine tr_seq ?_ | refine reg (T := tab) tOk hnt rfl ?_ ?_ | refine regD (T := tab) tOk mixedR hnt rfl (by decide +kernel) ?_ ?_ | refine tr_block ?_ | refine tr_skip ?_)
    · (dsimp only [AllP]; (repeat' first | exact trivial | assumption | exact Nat.le_of_ble_eq_true rfl | apply And.intro | decide | intro _ | exact rfl))
    refine tr_ret ⟨.inr rfl, _, _, rfl, by (repeat' first | exact trivial | exact Nat.le_of_ble_eq_true rfl | apply And.intro), ?_⟩
    exact rfl
  have hc : decide (IntKind.u64.wrap (((strB y).size : Nat) : Int) < (n : Int)) = false := hc
  rw [hu] at hc
  have hc := of_decide_eq_false hc
  rw [if_neg (by omega)]
  repeat' (first | refine tr_seq ?_ | refine reg (T := tab) tOk hnt rfl ?_ ?_ | refine regD (T := tab) tOk mixedR hnt rfl (by decide +kernel) ?_ ?_ | refine tr_block ?_ | refine tr_skip ?_)
  · (dsimp only [AllP]; (repeat' first | exact trivial | assumption | exact Nat.le_of_ble_eq_true rfl | apply And.intro | decide | intro _ | exact rfl))
  repeat' (first | refine tr_seq ?_ | refine tr_block ?_ | refine tr_skip ?_)
  refine tr_loop (σ := Nat) (fun i => St.of [(9, .one (.e (eTx b))), (10, .one (.e (eTx y))), (11, .one (.e (.v (.int .u64 (n : Int))))), (12, .one (.e (eI (i : Int))))] []) (fun i => tlP b i ∧ 8 ≤ i ∧ i ≤ 32) (fun i => 32 - i) (8) (le_of (ad := []) (by refine ⟨?_, ?_, ?_, ?_, trivial⟩ <;> first | exact trivial | rfl | exact ⟨rfl, rfl⟩ | exact ⟨rfl, rfl, rfl⟩ | exact ⟨rfl, rfl, rfl, rfl⟩ | exact ⟨rfl, rfl, rfl, rfl, rfl⟩ | exact congrArg (fun z : Int => E.v (.int .i64 z)) (wrap64_id (by omega) (by omega)) | exact congrArg (fun z : Int => E.v (.int .u8 z)) (by assumption) | exact congrArg (fun z : ByteArray => E.v (.string z)) (by assumption) | (refine ⟨rfl, ?_⟩; repeat' first | exact trivial | rfl | apply And.intro)) trivial) ⟨fun i h1 h2 => absurd h1 (by omega), Nat.le_refl _, by decide⟩ ?_
  rintro i ⟨hz, i8, i32⟩
  repeat' (first | refine tr_seq ?_ | refine reg (T := tab) tOk hnt rfl ?_ ?_ | refine regD (T := tab) tOk mixedR hnt rfl (by decide +kernel) ?_ ?_ | refine tr_block ?_ | refine tr_skip ?_)
  · (dsimp only [AllP]; (repeat' first | exact trivial | assumption | exact Nat.le_of_ble_eq_true rfl | apply And.intro | decide | intro _ | exact rfl))
  repeat' (first | refine tr_seq ?_ | refine tr_block ?_ | refine tr_skip ?_)
  refine tr_cond rfl (fun hc => ?_) (fun hc => ?_)
  · simp only [condT_tt, condT_ff, condF_tt, condF_ff, notE_t, notE_f, decide_eq_true_eq, decide_eq_false_iff_not] at hc
    have hlt : i < 32 := by omega
    have hbs : (strB b).size = b.length := strB_size b
    have h64 : IntKind.i64.wrap ((i : Int) + 1) = ((i + 1 : Nat) : Int) := wrap64_id (by omega) (by omega)
    repeat' (first | refine tr_seq ?_ | refine tr_block ?_ | refine tr_skip ?_)
    first | refine reg (T := tab) tOk hnt rfl ?_ ?_ | refine regD (T := tab) tOk mixedR hnt rfl (by decide +kernel) ?_ ?_
    · (dsimp only [AllP]; (repeat' first | exact trivial | assumption | exact Nat.le_of_ble_eq_true rfl | apply And.intro | exact eCells_len1 _ _ ‹_› | exact eCells_isByte _ _ ‹_› | (intro hh_; have hg_ := hh_; (try simp only [condT_ff, condF_tt, notE_t, notE_f, Bool.and_eq_true, ne_eq, decide_eq_true_eq, decide_eq_false_iff_not] at hg_)) | intro _ | exact rfl | omega))
      all_goals trace_state
    rw [Int.toNat_natCast]
    have hgd : (strB b).data.toList.getD i 0 = b.getD i 0 := rfl
    rw [hgd]
    repeat' (first | refine tr_seq ?_ | refine tr_block ?_ | refine tr_skip ?_)
    refine tr_cond rfl (fun hc => ?_) (fun hc => ?_)
    · have hc : (!decide (((b.getD i 0).toNat : Int) = 0)) = true := hc
      simp only [condT_tt, condT_ff, condF_tt, condF_ff, notE_t, notE_f, decide_eq_true_eq, decide_eq_false_iff_not] at hc
      rw [if_pos (fun h => hc (by rw [h i hlt i8]; rfl))]
      repeat' (first | refine tr_seq ?_ | refine reg (T := tab) tOk hnt rfl ?_ ?_ | refine regD (T := tab) tOk mixedR hnt rfl (by decide +kernel) ?_ ?_ | refine tr_block ?_ | refine tr_skip ?_)
      · (dsimp only [AllP]; (repeat' first | exact trivial | assumption | exact Nat.le_of_ble_eq_true rfl | apply And.intro | decide | intro _ | exact rfl))
      refine tr_ret ⟨.inr rfl, _, _, rfl, by (repeat' first | exact trivial | exact Nat.le_of_ble_eq_true rfl | apply And.intro), ?_⟩
      exact rfl
    have hc : (!decide (((b.getD i 0).toNat : Int) = 0)) = false := hc
    simp only [condT_tt, condT_ff, condF_tt, condF_ff, notE_t, notE_f, decide_eq_true_eq, decide_eq_false_iff_not] at hc
    have hz2 : tlP b (i + 1) := fun k h1 h2 => by
      by_cases e : k = i
      · subst e; exact UInt8.toNat_inj.1 (by show (b.getD k 0).toNat = 0; omega)
      · exact hz k (by omega) h2
    repeat' (first | refine tr_seq ?_ | refine reg (T := tab) tOk hnt rfl ?_ ?_ | refine regD (T := tab) tOk mixedR hnt rfl (by decide +kernel) ?_ ?_ | refine tr_block ?_ | refine tr_skip ?_)
    · (dsimp only [AllP]; (repeat' first | exact trivial | assumption | exact Nat.le_of_ble_eq_true rfl | apply And.intro | decide | intro _ | exact rfl))
    rw [h64]
    refine ⟨(i + 1), ⟨hz2, by omega, by omega⟩, by omega, le_of (ad := []) (by refine ⟨?_, ?_, ?_, ?_, trivial⟩ <;> first | exact trivial | rfl | exact ⟨rfl, rfl⟩ | exact ⟨rfl, rfl, rfl⟩ | exact ⟨rfl, rfl, rfl, rfl⟩ | exact ⟨rfl, rfl, rfl, rfl, rfl⟩ | exact congrArg (fun z : Int => E.v (.int .i64 z)) (wrap64_id (by omega) (by omega)) | exact congrArg (fun z : Int => E.v (.int .u8 z)) (by assumption) | exact congrArg (fun z : ByteArray => E.v (.string z)) (by assumption) | (refine ⟨rfl, ?_⟩; repeat' first | exact trivial | rfl | apply And.intro)) trivial⟩
  simp only [condT_tt, condT_ff, condF_tt, condF_ff, notE_t, notE_f, decide_eq_true_eq, decide_eq_false_iff_not] at hc
  refine tr_exit ?_
  obtain rfl : i = 32 := by omega
  rw [if_neg (not_not_intro hz)]
  have hny : (n : Int) ≤ ((strB y).size : Int) := by omega
  repeat' (first | refine tr_seq ?_ | refine tr_block ?_ | refine tr_skip ?_)
  first | refine reg (T := tab) tOk hnt rfl ?_ ?_ | refine regD (T := tab) tOk mixedR hnt rfl (by decide +kernel) ?_ ?_
  · (dsimp only [AllP]; (repeat' first | exact trivial | assumption | exact Nat.le_of_ble_eq_true rfl | apply And.intro | exact eCells_len1 _ _ ‹_› | exact eCells_isByte _ _ ‹_› | (intro hh_; have hg_ := hh_; (try simp only [condT_ff, condF_tt, notE_t, notE_f, Bool.and_eq_true, ne_eq, decide_eq_true_eq, decide_eq_false_iff_not] at hg_)) | intro _ | exact rfl | omega))
    all_goals trace_state
  refine tr_ret ⟨.inr rfl, _, _, rfl, by (repeat' first | exact trivial | exact Nat.le_of_ble_eq_true rfl | apply And.intro), ?_⟩
  show D.tup [(false, .es [E.v (.string ((strB y).extract (Int.toNat 0) (Int.toNat (n : Int))))]), (false, .es [eI 0])] = _
  rw [strB_extract, Int.toNat_natCast]
  rfl
end Go.Proofs.Ytphaholcndhonaa
namespace Go.Proofs.Ytphaholcndhonaa
open Go Go.RowKit Go.Proofs.Ytphaholcndhonaa.Ab
set_option linter.unusedSimpArgs false
set_option linter.unusedVariables false

/-- the low bytes of a number, the great ones first -/
def loF (m : Nat) : Nat → List UInt8
  | 0 => []
  | j + 1 => UInt8.ofNat (m / 256 ^ j) :: loF m j
theorem loF_len (m : Nat) : ∀ j, (loF m j).length = j
  | 0 => rfl
  | j + 1 => by rw [loF, List.length_cons, loF_len m j]
theorem nmN_foldl (l : List UInt8) : ∀ n : Nat, l.foldl (fun n b => n * 256 + b.toNat) n = n * 256 ^ l.length + nmN l := by
  induction l with
  | nil => intro n; simp [nmN]
  | cons x l ih =>
    intro n
    unfold nmN
    rw [List.foldl_cons, List.foldl_cons, ih, ih, List.length_cons, Nat.pow_succ, Nat.zero_mul, Nat.zero_add, Nat.add_mul, Nat.mul_assoc, Nat.mul_comm 256, Nat.add_assoc]
theorem nmN_cons (x : UInt8) (l : List UInt8) : nmN (x :: l) = x.toNat * 256 ^ l.length + nmN l := by
  unfold nmN
  rw [List.foldl_cons, nmN_foldl]
  simp [nmN]
theorem ofN_mod (n : Nat) : (UInt8.ofNat n).toNat = n % 256 := by simp
theorem nm_lo (m : Nat) : ∀ j, nmN (loF m j) = m % 256 ^ j
  | 0 => by rw [Nat.pow_zero, Nat.mod_one]; rfl
  | j + 1 => by
    rw [loF, nmN_cons, loF_len, nm_lo m j, ofN_mod, Nat.pow_succ, Nat.mod_mul, Nat.mul_comm, Nat.add_comm]
theorem nm_inj : ∀ {l r : List UInt8}, l.length = r.length → nmN l = nmN r → l = r
  | [], [], _, _ => rfl
  | x :: l, y :: r, h, e => by
    have hl : l.length = r.length := by simpa using h
    rw [nmN_cons, nmN_cons, hl] at e
    have h1 := nmN_lt l.length l rfl
    have h2 := nmN_lt r.length r rfl
    rw [hl] at h1
    generalize 256 ^ r.length = P at *
    have hxy : x.toNat = y.toNat := by
      rcases Nat.lt_trichotomy x.toNat y.toNat with h | h | h
      · have := Nat.mul_le_mul_right P (show x.toNat + 1 ≤ y.toNat from h)
        rw [Nat.add_mul] at this
        omega
      · exact h
      · have := Nat.mul_le_mul_right P (show y.toNat + 1 ≤ x.toNat from h)
        rw [Nat.add_mul] at this
        omega
    rw [hxy] at e
    rw [UInt8.toNat_inj.1 hxy, nm_inj hl (by omega)]
theorem wrapB8 (n : Nat) : IntKind.u8.wrap (n : Int) = ((UInt8.ofNat n).toNat : Int) := by
  rw [ofN_mod]
  unfold IntKind.wrap
  simp [IntKind.bits, IntKind.signed]
theorem shr8 (n : Nat) : Int.fdiv (n : Int) (2 ^ min (Int.toNat 8) IntKind.u64.bits) = ((n / 256 : Nat) : Int) := by
  rw [show (2 : Int) ^ min (Int.toNat 8) IntKind.u64.bits = ((256 : Nat) : Int) from rfl, Int.fdiv_eq_ediv_of_nonneg _ (Int.natCast_nonneg _)]
  rfl
def dvF (m : Nat) : Nat → Nat
  | 0 => m
  | j + 1 => dvF m j / 256
theorem dvF_eq (m : Nat) : ∀ j, dvF m j = m / 256 ^ j
  | 0 => by rw [Nat.pow_zero, Nat.div_one]; rfl
  | j + 1 => by rw [dvF, dvF_eq m j, Nat.div_div_eq_div_mul, Nat.pow_succ]
set_option maxRecDepth 10000 in
set_option maxHeartbeats 2000000 in
theorem big_fn (m k : Nat) (hk : k ≤ 8) : FnD Try.prog 38 [.one (.e (.v (.int .u64 (m : Int)))), .one (.e (eI (k : Int)))] (.one (.e (eTx (loF m k)))) := by
  refine fn_intro (T := tab) tOk Try.func38 rfl (by kernel_rfl) (by simp [Try.ntmps38]) ?_
  intro X hX
  have hnt : X.nt = 19 := hX
  clear hX
  repeat' (first | refine tr_seq ?_ | refine reg (T := tab) tOk hnt rfl ?_ ?_ | refine regD (T := tab) tOk mixedR hnt rfl (by decide +kernel) ?_ ?_ | refine tr_block ?_ | refine tr_skip ?_)
  · (dsimp only [AllP]; (repeat' first | exact trivial | assumption | exact Nat.le_of_ble_eq_true rfl | apply And.intro | decide | intro _ | exact rfl))
  · (dsimp only [AllP]; (repeat' first | exact trivial | assumption | exact Nat.le_of_ble_eq_true rfl | apply And.intro | decide | intro _ | exact rfl))
  · (dsimp only [AllP]; (repeat' first | exact trivial | assumption | exact Nat.le_of_ble_eq_true rfl | apply And.intro | decide | intro _ | exact rfl))
  repeat' (first | refine tr_seq ?_ | refine tr_block ?_ | refine tr_skip ?_)
  refine tr_loop (σ := Nat) (fun j => St.of [(0, .one (.e (.v (.int .u64 (dvF m j : Int))))), (5, .one (.e (eTx (loF m j)))), (6, .one (.e (eI (k : Int)))), (7, .one (.e (eI (j : Int))))] []) (fun j => j ≤ k) (fun j => k - j) (0) (le_of (ad := []) (by refine ⟨?_, ?_, ?_, ?_, trivial⟩ <;> first | exact trivial | rfl | exact ⟨rfl, rfl⟩ | exact ⟨rfl, rfl, rfl⟩ | exact ⟨rfl, rfl, rfl, rfl⟩ | exact ⟨rfl, rfl, rfl, rfl, rfl⟩ | exact congrArg (fun z : Int => E.v (.int .i64 z)) (wrap64_id (by omega) (by omega)) | exact congrArg (fun z : Int => E.v (.int .u8 z)) (by assumption) | exact congrArg (fun z : ByteArray => E.v (.string z)) (by assumption) | (refine ⟨rfl, ?_⟩; repeat' first | exact trivial | rfl | apply And.intro)) trivial) (Nat.zero_le _) ?_
  rintro j jl
  have hlj := loF_len m j
  repeat' (first | refine tr_seq ?_ | refine reg (T := tab) tOk hnt rfl ?_ ?_ | refine regD (T := tab) tOk mixedR hnt rfl (by decide +kernel) ?_ ?_ | refine tr_block ?_ | refine tr_skip ?_)
  · (dsimp only [AllP]; (repeat' first | exact trivial | assumption | exact Nat.le_of_ble_eq_true rfl | apply And.intro | decide | intro _ | exact rfl))
  repeat' (first | refine tr_seq ?_ | refine tr_block ?_ | refine tr_skip ?_)
  refine tr_cond rfl (fun hc => ?_) (fun hc => ?_)
  · simp only [condT_tt, condT_ff, condF_tt, condF_ff, notE_t, notE_f, decide_eq_true_eq, decide_eq_false_iff_not] at hc
    have hlt : j < k := by omega
    have h64 : IntKind.i64.wrap ((j : Int) + 1) = ((j + 1 : Nat) : Int) := wrap64_id (by omega) (by omega)
    have hb8 := wrapB8 (dvF m j)
    have hsh := shr8 (dvF m j)
    have hst : strB [UInt8.ofNat (dvF m j)] ++ strB (loF m j) = strB (loF m (j + 1)) := by rw [strApp, dvF_eq]; rfl
    have hd1 : dvF m (j + 1) = dvF m j / 256 := rfl
    rw [← hd1] at hsh
    generalize UInt8.ofNat (dvF m j) = x at *
    have hbo : bytesOf [[E.v (Value.int IntKind.u8 (IntKind.u8.wrap (dvF m j : Int)))]] = strB [x] := by
      rw [hb8]
      exact strB_of [x]
    have hby : ∀ h ∈ [[E.v (Value.int IntKind.u8 (IntKind.u8.wrap (dvF m j : Int)))]], isByte h := by
      rw [hb8]
      exact eCells_isByte [x]
    have m1 : (bytesOf [[E.v (Value.int IntKind.u8 (IntKind.u8.wrap (dvF m j : Int)))]]).size + (strB (loF m j)).size ≤ maxLen := by
      rw [hbo, strB_size, strB_size, hlj]
      show 1 + j ≤ maxLen
      unfold maxLen
      omega
    repeat' (first | refine tr_seq ?_ | refine tr_block ?_ | refine tr_skip ?_)
    first | refine reg (T := tab) tOk hnt rfl ?_ ?_ | refine regD (T := tab) tOk mixedR hnt rfl (by decide +kernel) ?_ ?_
    · (dsimp only [AllP]; (repeat' first | exact trivial | assumption | exact Nat.le_of_ble_eq_true rfl | apply And.intro | exact eCells_len1 _ _ ‹_› | exact eCells_isByte _ _ ‹_› | (intro hh_; have hg_ := hh_; (try simp only [condT_ff, condF_tt, notE_t, notE_f, Bool.and_eq_true, ne_eq, decide_eq_true_eq, decide_eq_false_iff_not] at hg_)) | intro _ | exact rfl | omega))
      all_goals first | exact m1 | exact hby _ ‹_› | trace_state
    rw [hbo, hst]
    repeat' (first | refine tr_seq ?_ | refine reg (T := tab) tOk hnt rfl ?_ ?_ | refine regD (T := tab) tOk mixedR hnt rfl (by decide +kernel) ?_ ?_ | refine tr_block ?_ | refine tr_skip ?_)
    · (dsimp only [AllP]; (repeat' first | exact trivial | assumption | exact Nat.le_of_ble_eq_true rfl | apply And.intro | decide | intro _ | exact rfl))
    · (dsimp only [AllP]; (repeat' first | exact trivial | assumption | exact Nat.le_of_ble_eq_true rfl | apply And.intro | decide | intro _ | exact rfl))
    rw [h64, hsh]
    refine ⟨(j + 1), (by omega), by omega, le_of (ad := []) (by refine ⟨?_, ?_, ?_, ?_, trivial⟩ <;> first | exact trivial | rfl | exact ⟨rfl, rfl⟩ | exact ⟨rfl, rfl, rfl⟩ | exact ⟨rfl, rfl, rfl, rfl⟩ | exact ⟨rfl, rfl, rfl, rfl, rfl⟩ | exact congrArg (fun z : Int => E.v (.int .i64 z)) (wrap64_id (by omega) (by omega)) | exact congrArg (fun z : Int => E.v (.int .u8 z)) (by assumption) | exact congrArg (fun z : ByteArray => E.v (.string z)) (by assumption) | (refine ⟨rfl, ?_⟩; repeat' first | exact trivial | rfl | apply And.intro)) trivial⟩
  simp only [condT_tt, condT_ff, condF_tt, condF_ff, notE_t, notE_f, decide_eq_true_eq, decide_eq_false_iff_not] at hc
  refine tr_exit ?_
  obtain rfl : j = k := by omega
  repeat' (first | refine tr_seq ?_ | refine reg (T := tab) tOk hnt rfl ?_ ?_ | refine regD (T := tab) tOk mixedR hnt rfl (by decide +kernel) ?_ ?_ | refine tr_block ?_ | refine tr_skip ?_)
  · (dsimp only [AllP]; (repeat' first | exact trivial | assumption | exact Nat.le_of_ble_eq_true rfl | apply And.intro | decide | intro _ | exact rfl))
  exact tr_ret ⟨.inr rfl, _, _, rfl, trivial, rfl⟩
def rcT (r : List UInt8) : List UInt8 := loF r.length 2 ++ loF (crF r).toNat 4 ++ r
theorem u32u64 (x : W32) : IntKind.u64.wrap (x.toNat : Int) = (x.toNat : Int) := wrapU2 _ (by have := x.isLt; omega)
set_option maxRecDepth 10000 in
set_option maxHeartbeats 2000000 in
theorem recordText_fn (r : List UInt8) (h : r.length ≤ 1000000) : FnD Try.prog 32 [.one (.e (eBytes r))] (.one (.e (eTx (rcT r)))) := by
  refine FnD.len ⟨_, _, Try.func32, rfl, by kernel_rfl⟩ 0 rfl fun hl0 => ?_
  refine fn_intro (T := tab) tOk Try.func32 rfl (by kernel_rfl) (by simp [Try.ntmps32]) ?_
  intro X hX
  have hnt : X.nt = 15 := hX
  clear hX
  have hcl := eCells_length r
  have h1 := big_fn r.length 2 (by decide)
  have h2 := checked_fn r
  have h3 := big_fn (crF r).toNat 4 (by decide)
  have hby := eCells_isByte r
  have hu : IntKind.u64.wrap (((eCells r).length : Nat) : Int) = (r.length : Int) := by rw [hcl]; exact wrapU2 _ (by omega)
  have hv := u32u64 (crF r)
  rw [← hu] at h1
  rw [← hv] at h3
  have z1 := loF_len r.length 2
  have z2 := loF_len (crF r).toNat 4
  have m1 : (strB (loF r.length 2)).size + (strB (loF (crF r).toNat 4)).size ≤ maxLen := by rw [strB_size, strB_size, z1, z2]; unfold maxLen; omega
  have m2 : (strB (loF r.length 2) ++ strB (loF (crF r).toNat 4)).size + (bytesOf (eCells r)).size ≤ maxLen := by rw [strApp, strB_of, strB_size, strB_size, List.length_append, z1, z2]; unfold maxLen; omega
  repeat' (first | refine tr_seq ?_ | refine reg (T := tab) tOk hnt rfl ?_ ?_ | refine regD (T := tab) tOk mixedR hnt rfl (by decide +kernel) ?_ ?_ | refine tr_block ?_ | refine tr_skip ?_)
  · (dsimp only [AllP]; (repeat' first | exact trivial | assumption | exact Nat.le_of_ble_eq_true rfl | apply And.intro | decide | intro _ | exact rfl))
  repeat' (first | refine tr_seq ?_ | refine tr_block ?_ | refine tr_skip ?_)
  refine tr_draw (T := tab) tOk hnt mixedR (lexD (T := tab) rfl ?_ (callD rfl rfl rfl rfl rfl rfl rfl rfl (h1) (lexD (T := tab) rfl ?_ (callD rfl rfl rfl rfl rfl rfl rfl rfl (h2) (lexD (T := tab) rfl ?_ (callD rfl rfl rfl rfl rfl rfl rfl rfl (h3) (lexD (T := tab) rfl ?_ (.nil _)))))))) (by decide +kernel) ?_
  · (dsimp only [AllP]; (repeat' first | exact trivial | assumption | exact Nat.le_of_ble_eq_true rfl | apply And.intro | exact eCells_len1 _ _ ‹_› | exact eCells_isByte _ _ ‹_› | (intro hh_; have hg_ := hh_; (try simp only [condT_ff, condF_tt, notE_t, notE_f, Bool.and_eq_true, ne_eq, decide_eq_true_eq, decide_eq_false_iff_not] at hg_)) | intro _ | exact rfl | omega))
  · (dsimp only [AllP]; (repeat' first | exact trivial | assumption | exact Nat.le_of_ble_eq_true rfl | apply And.intro | exact eCells_len1 _ _ ‹_› | exact eCells_isByte _ _ ‹_› | (intro hh_; have hg_ := hh_; (try simp only [condT_ff, condF_tt, notE_t, notE_f, Bool.and_eq_true, ne_eq, decide_eq_true_eq, decide_eq_false_iff_not] at hg_)) | intro _ | exact rfl | omega))
  · (dsimp only [AllP]; (repeat' first | exact trivial | assumption | exact Nat.le_of_ble_eq_true rfl | apply And.intro | exact eCells_len1 _ _ ‹_› | exact eCells_isByte _ _ ‹_› | (intro hh_; have hg_ := hh_; (try simp only [condT_ff, condF_tt, notE_t, notE_f, Bool.and_eq_true, ne_eq, decide_eq_true_eq, decide_eq_false_iff_not] at hg_)) | intro _ | exact rfl | omega))
  · (dsimp only [AllP]; (repeat' first | exact trivial | assumption | exact Nat.le_of_ble_eq_true rfl | apply And.intro | exact eCells_len1 _ _ ‹_› | exact eCells_isByte _ _ ‹_› | (intro hh_; have hg_ := hh_; (try simp only [condT_ff, condF_tt, notE_t, notE_f, Bool.and_eq_true, ne_eq, decide_eq_true_eq, decide_eq_false_iff_not] at hg_)) | intro _ | exact rfl | omega))
    all_goals first | exact m1 | exact m2 | exact hby _ ‹_› | trace_state
  repeat' (first | refine tr_seq ?_ | refine tr_block ?_ | refine tr_skip ?_)
  refine tr_ret ⟨.inr rfl, _, _, rfl, trivial, ?_⟩
  refine congrArg (fun z : ByteArray => D.one (.e (.v (.string z)))) ?_
  show strB (loF r.length 2) ++ strB (loF (crF r).toNat 4) ++ bytesOf (eCells r) = strB (rcT r)
  rw [strB_of, strApp, strApp]
  rfl
end Go.Proofs.Ytphaholcndhonaa
namespace Go.Proofs.Ytphaholcndhonaa
open Go Go.RowKit Go.Proofs.Ytphaholcndhonaa.Ab
set_option linter.unusedSimpArgs false
set_option linter.unusedVariables false

abbrev LB := List (List UInt8)
def nB (b : List UInt8) : Nat := nmN (b.take 2)
def badR (b : List UInt8) : Prop := b.length < 6 ∨ ((nB b < 1 ∨ 310 < nB b) ∨ b.length < 6 + nB b) ∨ nmN ((b.drop 2).take 4) ≠ (crF ((b.drop 6).take (nB b))).toNat
instance (b : List UInt8) : Decidable (badR b) := inferInstanceAs (Decidable (_ ∨ _))
def opF : Nat → List UInt8 → LB × Int
  | 0, _ => ([], 0)
  | k + 1, b => if b.length = 0 then ([], 0) else if badR b then ([], 11) else
    if (opF k (b.drop (6 + nB b))).2 ≠ 0 then ([], (opF k (b.drop (6 + nB b))).2) else ((b.drop 6).take (nB b) :: (opF k (b.drop (6 + nB b))).1, 0)
def cmbF (out : LB) (q : LB × Int) : LB × Int := if q.2 ≠ 0 then ([], q.2) else (out ++ q.1, 0)
theorem opF_nil (k : Nat) {b : List UInt8} (h : b.length = 0) : opF k b = ([], 0) := by
  cases k with
  | zero => rfl
  | succ k => exact if_pos h
theorem opF_bad (k : Nat) {b : List UInt8} (h : b.length ≠ 0) (hb : badR b) (hk : b.length ≤ k) : opF k b = ([], 11) := by
  cases k with
  | zero => omega
  | succ k => exact (if_neg h).trans (if_pos hb)
theorem opF_step (k : Nat) {b : List UInt8} (out : LB) (h : b.length ≠ 0) (hb : ¬ badR b) : cmbF out (opF (k + 1) b) = cmbF (out ++ [(b.drop 6).take (nB b)]) (opF k (b.drop (6 + nB b))) := by
  have e : opF (k + 1) b = if (opF k (b.drop (6 + nB b))).2 ≠ 0 then ([], (opF k (b.drop (6 + nB b))).2) else ((b.drop 6).take (nB b) :: (opF k (b.drop (6 + nB b))).1, 0) := (if_neg h).trans (if_neg hb)
  rw [e]
  unfold cmbF
  by_cases hq : (opF k (b.drop (6 + nB b))).2 ≠ 0
  · rw [if_pos hq, if_pos hq, if_pos hq]
  · rw [if_neg hq, if_neg hq, if_neg (not_not_intro rfl), List.append_assoc]
    rfl
def eLs2 (l : LB) : List (List E) := l.map fun p => [eBytes p]
def rLI (q : LB × Int) : D := .tup [(false, .es [.sl (eLs2 q.1)]), (false, .es [eI q.2])]
def opR (d : Dsk) : LB × Int := if (gdF d).2 ≠ 0 then ([], (gdF d).2) else opF (gdF d).1.length (gdF d).1
theorem gd_len {d : Dsk} (hd : d.ok) : (gdF d).1.length ≤ 12800 := by
  unfold gdF
  split
  · exact Nat.zero_le _
  · rename_i h
    have h := hd_ok (Classical.not_not.1 h)
    have hl := dk_le2 h.1
    rw [List.length_take]
    omega
theorem cmb_nil (n : Nat) (b0 : List UInt8) : cmbF [] (opF n b0) = opF n b0 := by
  unfold cmbF
  split
  · rename_i h2
    have : ∀ (k : Nat) (b : List UInt8), (opF k b).2 ≠ 0 → (opF k b).1 = [] := fun k => by
      induction k with
      | zero => intro b h; exact absurd rfl h
      | succ k ih =>
        intro b
        show (if b.length = 0 then ([], 0) else if badR b then ([], 11) else _ : LB × Int).2 ≠ 0 → (if b.length = 0 then ([], 0) else if badR b then ([], 11) else _ : LB × Int).1 = []
        split
        · intro h; exact absurd rfl h
        split
        · intro h; rfl
        split
        · intro h; rfl
        · intro h; exact absurd rfl h
    exact Prod.ext (this _ _ h2).symm rfl
  · rename_i h2
    exact Prod.ext rfl (Classical.not_not.1 h2).symm
set_option maxRecDepth 10000 in
set_option maxHeartbeats 2000000 in
theorem Open_fn (d : Dsk) (h : d.ok) : FnD Try.prog 13 [.agg (.es (eDsk d))] (rLI (opR d)) := by
  refine fn_intro (T := tab) tOk Try.func13 rfl (by kernel_rfl) (by simp [Try.ntmps13]) ?_
  intro X hX
  have hnt : X.nt = 64 := hX
  clear hX
  have h1 := good_fn d h
  have hgl := gd_len h
  unfold opR
  generalize gdF d = q at *
  obtain ⟨b0, e⟩ := q
  dsimp only at hgl ⊢
  repeat' (first | refine tr_seq ?_ | refine reg (T := tab) tOk hnt rfl ?_ ?_ | refine regD (T := tab) tOk mixedR hnt rfl (by decide +kernel) ?_ ?_ | refine tr_block ?_ | refine tr_skip ?_)
  · (dsimp only [AllP]; (repeat' first | exact trivial | assumption | exact Nat.le_of_ble_eq_true rfl | apply And.intro | decide | intro _ | exact rfl))
  repeat' (first | refine tr_seq ?_ | refine tr_block ?_ | refine tr_skip ?_)
  refine tr_region (lex (T := tab) tOk hnt rfl ?_ (call rfl rfl rfl rfl rfl rfl rfl hnt (h1) (lex (T := tab) tOk hnt rfl ?_ (Lex.nil _)))) ?_
  · (dsimp only [AllP]; (repeat' first | exact trivial | assumption | exact Nat.le_of_ble_eq_true rfl | apply And.intro | exact eCells_len1 _ _ ‹_› | exact eCells_isByte _ _ ‹_› | (intro hh_; have hg_ := hh_; (try simp only [condT_ff, condF_tt, notE_t, notE_f, Bool.and_eq_true, ne_eq, decide_eq_true_eq, decide_eq_false_iff_not] at hg_)) | intro _ | exact rfl | omega))
  · (dsimp only [AllP]; (repeat' first | exact trivial | assumption | exact Nat.le_of_ble_eq_true rfl | apply And.intro | exact eCells_len1 _ _ ‹_› | exact eCells_isByte _ _ ‹_› | (intro hh_; have hg_ := hh_; (try simp only [condT_ff, condF_tt, notE_t, notE_f, Bool.and_eq_true, ne_eq, decide_eq_true_eq, decide_eq_false_iff_not] at hg_)) | intro _ | exact rfl | omega))
  repeat' (first | refine tr_seq ?_ | refine reg (T := tab) tOk hnt rfl ?_ ?_ | refine regD (T := tab) tOk mixedR hnt rfl (by decide +kernel) ?_ ?_ | refine tr_block ?_ | refine tr_skip ?_)
  · (dsimp only [AllP]; (repeat' first | exact trivial | assumption | exact Nat.le_of_ble_eq_true rfl | apply And.intro | decide | intro _ | exact rfl))
  repeat' (first | refine tr_seq ?_ | refine tr_block ?_ | refine tr_skip ?_)
  refine tr_cond rfl (fun hc => ?_) (fun hc => ?_)
  · simp only [condT_tt, condT_ff, condF_tt, condF_ff, notE_t, notE_f, decide_eq_true_eq, decide_eq_false_iff_not] at hc
    rw [if_pos hc]
    repeat' (first | refine tr_seq ?_ | refine reg (T := tab) tOk hnt rfl ?_ ?_ | refine regD (T := tab) tOk mixedR hnt rfl (by decide +kernel) ?_ ?_ | refine tr_block ?_ | refine tr_skip ?_)
    · (dsimp only [AllP]; (repeat' first | exact trivial | assumption | exact Nat.le_of_ble_eq_true rfl | apply And.intro | decide | intro _ | exact rfl))
    refine tr_ret ⟨.inr rfl, _, _, rfl, by (repeat' first | exact trivial | exact Nat.le_of_ble_eq_true rfl | apply And.intro), ?_⟩
    exact rfl
  simp only [condT_tt, condT_ff, condF_tt, condF_ff, notE_t, notE_f, decide_eq_true_eq, decide_eq_false_iff_not] at hc
  rw [if_neg (not_not_intro hc)]
  have hR : cmbF [] (opF b0.length b0) = opF b0.length b0 := cmb_nil _ _
  generalize hT : opF b0.length b0 = T at *
  repeat' (first | refine tr_seq ?_ | refine reg (T := tab) tOk hnt rfl ?_ ?_ | refine regD (T := tab) tOk mixedR hnt rfl (by decide +kernel) ?_ ?_ | refine tr_block ?_ | refine tr_skip ?_)
  · (dsimp only [AllP]; (repeat' first | exact trivial | assumption | exact Nat.le_of_ble_eq_true rfl | apply And.intro | decide | intro _ | exact rfl))
  repeat' (first | refine tr_seq ?_ | refine tr_block ?_ | refine tr_skip ?_)
  refine tr_loop (σ := Nat × List UInt8 × LB) (fun y => St.of [(4, .one (.e (eBytes y.2.1))), (6, .one (.own 58 0))] [(58, ⟨0, .row 1 (eLs2 y.2.2), 0⟩)]) (fun y => cmbF y.2.2 (opF y.1 y.2.1) = T ∧ y.2.1.length ≤ y.1 ∧ y.2.2.length + y.2.1.length ≤ 12800) (fun y => y.2.1.length) ((b0.length, b0, [])) (le_of (ad := [58]) (by refine ⟨?_, ?_, trivial⟩ <;> first | exact trivial | rfl | exact ⟨rfl, rfl⟩ | exact ⟨rfl, rfl, rfl⟩ | exact ⟨rfl, rfl, rfl, rfl⟩ | exact ⟨rfl, rfl, rfl, rfl, rfl⟩ | exact congrArg (fun z : Int => E.v (.int .i64 z)) (wrap64_id (by omega) (by omega)) | exact congrArg (fun z : Int => E.v (.int .u8 z)) (by assumption) | exact congrArg (fun z : ByteArray => E.v (.string z)) (by assumption) | (refine ⟨rfl, ?_⟩; repeat' first | exact trivial | rfl | apply And.intro)) (memOk_new rfl (by decide) trivial)) ⟨by rw [hT]; exact hR, Nat.le_refl _, by simpa using hgl⟩ ?_
  rintro ⟨k, b, out⟩ ⟨hJ, hkb, hlen⟩
  dsimp only at hJ hkb hlen ⊢
  have hcl := eCells_length b
  have hc1 := eCells_len1 b
  repeat' (first | refine tr_seq ?_ | refine reg (T := tab) tOk hnt rfl ?_ ?_ | refine regD (T := tab) tOk mixedR hnt rfl (by decide +kernel) ?_ ?_ | refine tr_block ?_ | refine tr_skip ?_)
  · (dsimp only [AllP]; (repeat' first | exact trivial | assumption | exact Nat.le_of_ble_eq_true rfl | apply And.intro | decide | intro _ | exact rfl))
  repeat' (first | refine tr_seq ?_ | refine tr_block ?_ | refine tr_skip ?_)
  refine tr_cond rfl (fun hc => ?_) (fun hc => ?_)
  · have hc : (0 : Int) < ((eCells b).length : Int) := of_decide_eq_true hc
    have hb0 : b.length ≠ 0 := by omega
    repeat' (first | refine tr_seq ?_ | refine reg (T := tab) tOk hnt rfl ?_ ?_ | refine regD (T := tab) tOk mixedR hnt rfl (by decide +kernel) ?_ ?_ | refine tr_block ?_ | refine tr_skip ?_)
    · (dsimp only [AllP]; (repeat' first | exact trivial | assumption | exact Nat.le_of_ble_eq_true rfl | apply And.intro | decide | intro _ | exact rfl))
    repeat' (first | refine tr_seq ?_ | refine tr_block ?_ | refine tr_skip ?_)
    refine tr_cond rfl (fun hc => ?_) (fun hc => ?_)
    · have hc : ((eCells b).length : Int) < 6 := of_decide_eq_true hc
      rw [opF_bad k hb0 (.inl (by omega)) hkb] at hJ
      rw [← hJ]
      repeat' (first | refine tr_seq ?_ | refine reg (T := tab) tOk hnt rfl ?_ ?_ | refine regD (T := tab) tOk mixedR hnt rfl (by decide +kernel) ?_ ?_ | refine tr_block ?_ | refine tr_skip ?_)
      · (dsimp only [AllP]; (repeat' first | exact trivial | assumption | exact Nat.le_of_ble_eq_true rfl | apply And.intro | decide | intro _ | exact rfl))
      refine tr_ret ⟨.inr rfl, _, _, rfl, by (repeat' first | exact trivial | exact Nat.le_of_ble_eq_true rfl | apply And.intro), ?_⟩
      exact rfl
    have hc : ¬ ((eCells b).length : Int) < 6 := of_decide_eq_false hc
    have hb6 : 6 ≤ b.length := by omega
    have t2 : (b.take 2).length = 2 := by rw [List.length_take]; omega
    have t4 : ((b.drop 2).take 4).length = 4 := by rw [List.length_take, List.length_drop]; omega
    have n2 := tnumber_fn (b.take 2) (by omega)
    have n4 := tnumber_fn ((b.drop 2).take 4) (by omega)
    have hn2 := nmN_lt 2 (b.take 2) t2
    have hn2 : nB b < 65536 := hn2
    have hn4 := nmN_lt 4 ((b.drop 2).take 4) t4
    have hn4 : nmN ((b.drop 2).take 4) < 4294967296 := hn4
    have s2 : eBytes (b.take 2) = E.sl (List.take (Int.toNat 2 - Int.toNat 0) (List.drop (Int.toNat 0) (eCells b))) := by
      unfold eBytes
      rw [← eCells_take]
      rfl
    have s4 : eBytes ((b.drop 2).take 4) = E.sl (List.take (Int.toNat 6 - Int.toNat 2) (List.drop (Int.toNat 2) (eCells b))) := by
      unfold eBytes
      rw [← eCells_take, ← eCells_drop]
      rfl
    rw [s2, show nmN (b.take 2) = nB b from rfl] at n2
    rw [s4] at n4
    have hL : (2 : Int) ≤ ((eCells b).length : Int) ∧ (6 : Int) ≤ ((eCells b).length : Int) := by omega
    repeat' (first | refine tr_seq ?_ | refine tr_block ?_ | refine tr_skip ?_)
    refine tr_region (lex (T := tab) tOk hnt rfl ?_ (call rfl rfl rfl rfl rfl rfl rfl hnt (n2) (lex (T := tab) tOk hnt rfl ?_ (Lex.nil _)))) ?_
    · (dsimp only [AllP]; (repeat' first | exact trivial | assumption | exact Nat.le_of_ble_eq_true rfl | apply And.intro | exact eCells_len1 _ _ ‹_› | exact eCells_isByte _ _ ‹_› | (intro hh_; have hg_ := hh_; (try simp only [condT_ff, condF_tt, notE_t, notE_f, Bool.and_eq_true, ne_eq, decide_eq_true_eq, decide_eq_false_iff_not] at hg_)) | intro _ | exact rfl | omega))
      all_goals trace_state
    · (dsimp only [AllP]; (repeat' first | exact trivial | assumption | exact Nat.le_of_ble_eq_true rfl | apply And.intro | exact eCells_len1 _ _ ‹_› | exact eCells_isByte _ _ ‹_› | (intro hh_; have hg_ := hh_; (try simp only [condT_ff, condF_tt, notE_t, notE_f, Bool.and_eq_true, ne_eq, decide_eq_true_eq, decide_eq_false_iff_not] at hg_)) | intro _ | exact rfl | omega))
    have w6 : IntKind.i64.wrap (6 + (nB b : Int)) = 6 + (nB b : Int) := wrap64_id (by omega) (by omega)
    have wl : IntKind.i64.wrap (((eCells b).length : Int) - 6) = (b.length : Int) - 6 := by rw [hcl]; exact wrap64_id (by omega) (by omega)
    have hcr := crc_fn ((b.drop 6).take (nB b))
    have s6 : eBytes ((b.drop 6).take (nB b)) = E.sl (List.take (Int.toNat (IntKind.i64.wrap (6 + (nB b : Int))) - Int.toNat 6) (List.drop (Int.toNat 6) (eCells b))) := by
      unfold eBytes
      rw [w6, ← eCells_take, ← eCells_drop, show (6 + (nB b : Int)).toNat - Int.toNat 6 = nB b by omega]
      rfl
    have hcr0 := hcr
    rw [s6] at hcr
    have hu4 : IntKind.u32.wrap (nmN ((b.drop 2).take 4) : Int) = (nmN ((b.drop 2).take 4) : Int) := by
      rw [w_wrap, BitVec.ofInt_natCast, BitVec.toNat_ofNat, Nat.mod_eq_of_lt hn4]
    have hF : (bif bif bif decide ((nB b : Int) < 1) then true else decide (310 < (nB b : Int)) then true else decide (IntKind.i64.wrap (((eCells b).length : Int) - 6) < (nB b : Int)) then true else !decide (IntKind.u32.wrap (nmN ((b.drop 2).take 4) : Int) = ((crF ((b.drop 6).take (nB b))).toNat : Int))) = decide (badR b) := by
      rw [wl, hu4, Bool.eq_iff_iff]
      simp only [condT_tt, condT_ff, condF_tt, condF_ff, notE_t, notE_f, decide_eq_true_eq, decide_eq_false_iff_not]
      unfold badR
      omega
    repeat' (first | refine tr_seq ?_ | refine tr_block ?_ | refine tr_skip ?_)
    refine tr_draw (T := tab) tOk hnt mixedR (lexD (T := tab) rfl ?_ (callGD rfl rfl rfl rfl rfl rfl rfl rfl (fun hq => ?_) (fun hq => n4) (lexD (T := tab) rfl ?_ (callGD rfl rfl rfl rfl rfl rfl rfl rfl (fun hq => ?_) (fun hq => hcr) (lexD (T := tab) rfl ?_ (.nil _)))))) (by decide +kernel) ?_
    · (dsimp only [AllP]; (repeat' first | exact trivial | assumption | exact Nat.le_of_ble_eq_true rfl | apply And.intro | exact eCells_len1 _ _ ‹_› | exact eCells_isByte _ _ ‹_› | (intro hh_; have hg_ := hh_; (try simp only [condT_ff, condF_tt, notE_t, notE_f, Bool.and_eq_true, ne_eq, decide_eq_true_eq, decide_eq_false_iff_not] at hg_)) | intro _ | exact rfl | omega))
      all_goals trace_state
    · (dsimp only [AllP]; (repeat' first | exact trivial | assumption | exact Nat.le_of_ble_eq_true rfl | apply And.intro | exact eCells_len1 _ _ ‹_› | exact eCells_isByte _ _ ‹_› | (intro hh_; have hg_ := hh_; (try simp only [condT_ff, condF_tt, notE_t, notE_f, Bool.and_eq_true, ne_eq, decide_eq_true_eq, decide_eq_false_iff_not] at hg_)) | intro _ | exact rfl | omega))
      all_goals trace_state
    · (dsimp only [AllP]; (repeat' first | exact trivial | assumption | exact Nat.le_of_ble_eq_true rfl | apply And.intro | exact eCells_len1 _ _ ‹_› | exact eCells_isByte _ _ ‹_› | (intro hh_; have hg_ := hh_; (try simp only [condT_ff, condF_tt, notE_t, notE_f, Bool.and_eq_true, ne_eq, decide_eq_true_eq, decide_eq_false_iff_not] at hg_)) | intro _ | exact rfl | omega))
      all_goals trace_state
    · (dsimp only [AllP]; (repeat' first | exact trivial | assumption | exact Nat.le_of_ble_eq_true rfl | apply And.intro | exact eCells_len1 _ _ ‹_› | exact eCells_isByte _ _ ‹_› | (intro hh_; have hg_ := hh_; (try simp only [condT_ff, condF_tt, notE_t, notE_f, Bool.and_eq_true, ne_eq, decide_eq_true_eq, decide_eq_false_iff_not] at hg_)) | intro _ | exact rfl | omega))
      all_goals trace_state
    · (dsimp only [AllP]; (repeat' first | exact trivial | assumption | exact Nat.le_of_ble_eq_true rfl | apply And.intro | exact eCells_len1 _ _ ‹_› | exact eCells_isByte _ _ ‹_› | (intro hh_; have hg_ := hh_; (try simp only [condT_ff, condF_tt, notE_t, notE_f, Bool.and_eq_true, ne_eq, decide_eq_true_eq, decide_eq_false_iff_not] at hg_)) | intro _ | exact rfl | omega))
    repeat' (first | refine tr_seq ?_ | refine tr_block ?_ | refine tr_skip ?_)
    refine tr_cond rfl (fun hc => ?_) (fun hc => ?_)
    · have hc : (bif bif bif decide ((nB b : Int) < 1) then true else decide (310 < (nB b : Int)) then true else decide (IntKind.i64.wrap (((eCells b).length : Int) - 6) < (nB b : Int)) then true else !decide (IntKind.u32.wrap (nmN ((b.drop 2).take 4) : Int) = ((crF ((b.drop 6).take (nB b))).toNat : Int))) = true := hc
      rw [hF] at hc
      rw [opF_bad k hb0 (of_decide_eq_true hc) hkb] at hJ
      rw [← hJ]
      repeat' (first | refine tr_seq ?_ | refine reg (T := tab) tOk hnt rfl ?_ ?_ | refine regD (T := tab) tOk mixedR hnt rfl (by decide +kernel) ?_ ?_ | refine tr_block ?_ | refine tr_skip ?_)
      · (dsimp only [AllP]; (repeat' first | exact trivial | assumption | exact Nat.le_of_ble_eq_true rfl | apply And.intro | decide | intro _ | exact rfl))
      refine tr_ret ⟨.inr rfl, _, _, rfl, by (repeat' first | exact trivial | exact Nat.le_of_ble_eq_true rfl | apply And.intro), ?_⟩
      exact rfl
    have hc : (bif bif bif decide ((nB b : Int) < 1) then true else decide (310 < (nB b : Int)) then true else decide (IntKind.i64.wrap (((eCells b).length : Int) - 6) < (nB b : Int)) then true else !decide (IntKind.u32.wrap (nmN ((b.drop 2).take 4) : Int) = ((crF ((b.drop 6).take (nB b))).toNat : Int))) = false := hc
    rw [hF] at hc
    have hgood := of_decide_eq_false hc
    have hg3 : 6 + nB b ≤ b.length := by unfold badR at hgood; omega
    obtain ⟨k, rfl⟩ : ∃ k', k = k' + 1 := ⟨k - 1, by omega⟩
    rw [opF_step k out hb0 hgood] at hJ
    have hrl : ((b.drop 6).take (nB b)).length = nB b := by rw [List.length_take, List.length_drop]; omega
    have hn310 : nB b ≤ 310 := by unfold badR at hgood; omega
    generalize hr : (b.drop 6).take (nB b) = r at *
    have s6c : List.take (Int.toNat (IntKind.i64.wrap (6 + (nB b : Int))) - Int.toNat 6) (List.drop (Int.toNat 6) (eCells b)) = eCells r := (E.sl.inj s6).symm
    have s7 : List.take (Int.toNat (((eCells b).length : Nat) : Int) - Int.toNat (IntKind.i64.wrap (6 + (nB b : Int)))) (List.drop (Int.toNat (IntKind.i64.wrap (6 + (nB b : Int)))) (eCells b)) = eCells (b.drop (6 + nB b)) := by
      rw [w6, show Int.toNat (6 + (nB b : Int)) = 6 + nB b by omega, Int.toNat_natCast, ← eCells_drop]
      exact List.take_of_length_le (by rw [List.length_drop]; exact Nat.le_refl _)
    have hrc := eCells_length r
    have hr1 := eCells_len1 r
    have hol : (eLs2 out).length = out.length := List.length_map ..
    have m1 : ([] : List (List E)).length + (eCells r).length ≤ maxLen := by rw [hrc]; show 0 + r.length ≤ maxLen; unfold maxLen; omega
    have m2 : (([] : List (List E)).length + (eCells r).length) * 1 ≤ 140737488355328 := by rw [hrc]; show (0 + r.length) * 1 ≤ _; omega
    have m3 : ∀ x : List E, (eLs2 out).length + [x].length ≤ maxLen := fun x => by rw [hol]; show out.length + 1 ≤ maxLen; unfold maxLen; omega
    have m4 : ∀ x : List E, ((eLs2 out).length + [x].length) * 24 ≤ 140737488355328 := fun x => by rw [hol]; show (out.length + 1) * 24 ≤ _; omega
    have hL2 : (0 : Int) ≤ IntKind.i64.wrap (6 + (nB b : Int)) ∧ (6 : Int) ≤ IntKind.i64.wrap (6 + (nB b : Int)) ∧ IntKind.i64.wrap (6 + (nB b : Int)) ≤ ((eCells b).length : Int) := by rw [w6]; omega
    have hou : eLs2 out ++ [[E.sl ([] ++ eCells r)]] = eLs2 (out ++ [r]) := by
      unfold eLs2
      rw [List.map_append]
      rfl
    repeat' (first | refine tr_seq ?_ | refine tr_block ?_ | refine tr_skip ?_)
    first | refine reg (T := tab) tOk hnt rfl ?_ ?_ | refine regD (T := tab) tOk mixedR hnt rfl (by decide +kernel) ?_ ?_
    · rw [s6c]
      (dsimp only [AllP]; (repeat' first | exact trivial | assumption | exact Nat.le_of_ble_eq_true rfl | apply And.intro | exact eCells_len1 _ _ ‹_› | exact eCells_isByte _ _ ‹_› | (intro hh_; have hg_ := hh_; (try simp only [condT_ff, condF_tt, notE_t, notE_f, Bool.and_eq_true, ne_eq, decide_eq_true_eq, decide_eq_false_iff_not] at hg_)) | intro _ | exact rfl | omega))
      all_goals first | exact m1 | exact m2 | exact m3 _ | exact m4 _ | exact hc1 _ ‹_› | exact hr1 _ ‹_› | trace_state
    rw [s6c]
    repeat' (first | refine tr_seq ?_ | refine tr_block ?_ | refine tr_skip ?_)
    first | refine reg (T := tab) tOk hnt rfl ?_ ?_ | refine regD (T := tab) tOk mixedR hnt rfl (by decide +kernel) ?_ ?_
    · (dsimp only [AllP]; (repeat' first | exact trivial | assumption | exact Nat.le_of_ble_eq_true rfl | apply And.intro | exact eCells_len1 _ _ ‹_› | exact eCells_isByte _ _ ‹_› | (intro hh_; have hg_ := hh_; (try simp only [condT_ff, condF_tt, notE_t, notE_f, Bool.and_eq_true, ne_eq, decide_eq_true_eq, decide_eq_false_iff_not] at hg_)) | intro _ | exact rfl | omega))
      all_goals first | exact hc1 _ ‹_› | trace_state
    rw [s7]
    refine ⟨(k, b.drop (6 + nB b), out ++ [r]), ⟨hJ, ?_, ?_⟩, ?_, le_of (ad := []) ⟨rfl, ⟨rfl, rfl, rfl, rfl⟩, trivial⟩ (memOk_row rfl rfl hou trivial)⟩
    · dsimp only; rw [List.length_drop]; omega
    · dsimp only; rw [List.length_append, List.length_drop]; show out.length + 1 + _ ≤ _; omega
    · dsimp only; rw [List.length_drop]; omega
  have hc : ¬ (0 : Int) < ((eCells b).length : Int) := of_decide_eq_false hc
  refine tr_exit ?_
  rw [opF_nil k (by omega)] at hJ
  have hJ : (out ++ [], (0 : Int)) = T := hJ
  rw [← hJ, List.append_nil]
  repeat' (first | refine tr_seq ?_ | refine reg (T := tab) tOk hnt rfl ?_ ?_ | refine regD (T := tab) tOk mixedR hnt rfl (by decide +kernel) ?_ ?_ | refine tr_block ?_ | refine tr_skip ?_)
  · (dsimp only [AllP]; (repeat' first | exact trivial | assumption | exact Nat.le_of_ble_eq_true rfl | apply And.intro | decide | intro _ | exact rfl))
  refine tr_ret ⟨.inr rfl, _, _, rfl, by (repeat' first | exact trivial | exact Nat.le_of_ble_eq_true rfl | apply And.intro), ?_⟩
  exact rfl
end Go.Proofs.Ytphaholcndhonaa
namespace Go.Proofs.Ytphaholcndhonaa
open Go Go.RowKit Go.Proofs.Ytphaholcndhonaa.Ab
set_option linter.unusedSimpArgs false
set_option linter.unusedVariables false

theorem tx_eq (x y : List UInt8) : strEq (strB x) (strB y) = decide (x = y) := by
  unfold strEq
  rw [ByteArray.toList_eq, ByteArray.toList_eq, strB_list, strB_list, Bool.eq_iff_iff]
  simp
theorem tx_ne (b : List UInt8) : strEq (strB b) ⟨#[]⟩ = decide (b.length = 0) := by
  rw [show (⟨#[]⟩ : ByteArray) = strB [] from rfl, tx_eq]
  cases b <;> simp
theorem rct_iff {b : List UInt8} (h6 : 6 + nB b ≤ b.length) (hn : nB b < 65536) : rcT ((b.drop 6).take (nB b)) = b.take (6 + nB b) ↔ nmN ((b.drop 2).take 4) = (crF ((b.drop 6).take (nB b))).toNat := by
  have hl : ((b.drop 6).take (nB b)).length = nB b := by rw [List.length_take, List.length_drop]; omega
  have t2 : (b.take 2).length = 2 := by rw [List.length_take]; omega
  have t4 : ((b.drop 2).take 4).length = 4 := by rw [List.length_take, List.length_drop]; omega
  have e : b.take (6 + nB b) = b.take 2 ++ (b.drop 2).take 4 ++ (b.drop 6).take (nB b) := by
    rw [List.take_add, show b.take 6 = b.take 2 ++ (b.drop 2).take 4 from List.take_add (i := 2) (j := 4)]
  have hw := (crF ((b.drop 6).take (nB b))).isLt
  unfold rcT
  rw [e, hl]
  generalize crF ((b.drop 6).take (nB b)) = x at *
  have h2 : loF (nB b) 2 = b.take 2 := nm_inj (by rw [loF_len, t2]) (by rw [nm_lo]; exact Nat.mod_eq_of_lt hn)
  rw [h2]
  constructor
  · intro h
    have h := List.append_cancel_left (List.append_cancel_right h)
    rw [← h, nm_lo, Nat.mod_eq_of_lt hw]
  · intro h
    have h4 : loF x.toNat 4 = (b.drop 2).take 4 := nm_inj (by rw [loF_len, t4]) (by rw [nm_lo, h]; exact Nat.mod_eq_of_lt hw)
    rw [h4]
set_option maxRecDepth 10000 in
set_option maxHeartbeats 2000000 in
theorem RecordsOf_fn (d : Dsk) (h : d.ok) : FnD Try.prog 14 [.agg (.es (eDsk d))] (rLI (opR d)) := by
  refine fn_intro (T := tab) tOk Try.func14 rfl (by kernel_rfl) (by simp [Try.ntmps14]) ?_
  intro X hX
  have hnt : X.nt = 60 := hX
  clear hX
  have h1 := tapeText_fn d h
  rw [← gd_tx h] at h1
  have hgl := gd_len h
  unfold opR
  generalize gdF d = q at *
  obtain ⟨b0, e⟩ := q
  dsimp only at hgl ⊢
  repeat' (first | refine tr_seq ?_ | refine reg (T := tab) tOk hnt rfl ?_ ?_ | refine regD (T := tab) tOk mixedR hnt rfl (by decide +kernel) ?_ ?_ | refine tr_block ?_ | refine tr_skip ?_)
  · (dsimp only [AllP]; (repeat' first | exact trivial | assumption | exact Nat.le_of_ble_eq_true rfl | apply And.intro | decide | intro _ | exact rfl))
  repeat' (first | refine tr_seq ?_ | refine tr_block ?_ | refine tr_skip ?_)
  refine tr_region (lex (T := tab) tOk hnt rfl ?_ (call rfl rfl rfl rfl rfl rfl rfl hnt (h1) (lex (T := tab) tOk hnt rfl ?_ (Lex.nil _)))) ?_
  · (dsimp only [AllP]; (repeat' first | exact trivial | assumption | exact Nat.le_of_ble_eq_true rfl | apply And.intro | exact eCells_len1 _ _ ‹_› | exact eCells_isByte _ _ ‹_› | (intro hh_; have hg_ := hh_; (try simp only [condT_ff, condF_tt, notE_t, notE_f, Bool.and_eq_true, ne_eq, decide_eq_true_eq, decide_eq_false_iff_not] at hg_)) | intro _ | exact rfl | omega))
  · (dsimp only [AllP]; (repeat' first | exact trivial | assumption | exact Nat.le_of_ble_eq_true rfl | apply And.intro | exact eCells_len1 _ _ ‹_› | exact eCells_isByte _ _ ‹_› | (intro hh_; have hg_ := hh_; (try simp only [condT_ff, condF_tt, notE_t, notE_f, Bool.and_eq_true, ne_eq, decide_eq_true_eq, decide_eq_false_iff_not] at hg_)) | intro _ | exact rfl | omega))
  repeat' (first | refine tr_seq ?_ | refine reg (T := tab) tOk hnt rfl ?_ ?_ | refine regD (T := tab) tOk mixedR hnt rfl (by decide +kernel) ?_ ?_ | refine tr_block ?_ | refine tr_skip ?_)
  · (dsimp only [AllP]; (repeat' first | exact trivial | assumption | exact Nat.le_of_ble_eq_true rfl | apply And.intro | decide | intro _ | exact rfl))
  repeat' (first | refine tr_seq ?_ | refine tr_block ?_ | refine tr_skip ?_)
  refine tr_cond rfl (fun hc => ?_) (fun hc => ?_)
  · simp only [condT_tt, condT_ff, condF_tt, condF_ff, notE_t, notE_f, decide_eq_true_eq, decide_eq_false_iff_not] at hc
    rw [if_pos hc]
    repeat' (first | refine tr_seq ?_ | refine reg (T := tab) tOk hnt rfl ?_ ?_ | refine regD (T := tab) tOk mixedR hnt rfl (by decide +kernel) ?_ ?_ | refine tr_block ?_ | refine tr_skip ?_)
    · (dsimp only [AllP]; (repeat' first | exact trivial | assumption | exact Nat.le_of_ble_eq_true rfl | apply And.intro | decide | intro _ | exact rfl))
    refine tr_ret ⟨.inr rfl, _, _, rfl, by (repeat' first | exact trivial | exact Nat.le_of_ble_eq_true rfl | apply And.intro), ?_⟩
    exact rfl
  simp only [condT_tt, condT_ff, condF_tt, condF_ff, notE_t, notE_f, decide_eq_true_eq, decide_eq_false_iff_not] at hc
  rw [if_neg (not_not_intro hc)]
  have hR : cmbF [] (opF b0.length b0) = opF b0.length b0 := cmb_nil _ _
  generalize hT : opF b0.length b0 = T at *
  repeat' (first | refine tr_seq ?_ | refine reg (T := tab) tOk hnt rfl ?_ ?_ | refine regD (T := tab) tOk mixedR hnt rfl (by decide +kernel) ?_ ?_ | refine tr_block ?_ | refine tr_skip ?_)
  · (dsimp only [AllP]; (repeat' first | exact trivial | assumption | exact Nat.le_of_ble_eq_true rfl | apply And.intro | decide | intro _ | exact rfl))
  repeat' (first | refine tr_seq ?_ | refine tr_block ?_ | refine tr_skip ?_)
  refine tr_loop (σ := Nat × List UInt8 × LB) (fun y => St.of [(4, .one (.e (eTx y.2.1))), (6, .one (.own 54 0))] [(54, ⟨0, .row 1 (eLs2 y.2.2), 0⟩)]) (fun y => cmbF y.2.2 (opF y.1 y.2.1) = T ∧ y.2.1.length ≤ y.1 ∧ y.2.2.length + y.2.1.length ≤ 12800) (fun y => y.2.1.length) ((b0.length, b0, [])) (le_of (ad := [54]) (by refine ⟨?_, ?_, trivial⟩ <;> first | exact trivial | rfl | exact ⟨rfl, rfl⟩ | exact ⟨rfl, rfl, rfl⟩ | exact ⟨rfl, rfl, rfl, rfl⟩ | exact ⟨rfl, rfl, rfl, rfl, rfl⟩ | exact congrArg (fun z : Int => E.v (.int .i64 z)) (wrap64_id (by omega) (by omega)) | exact congrArg (fun z : Int => E.v (.int .u8 z)) (by assumption) | exact congrArg (fun z : ByteArray => E.v (.string z)) (by assumption) | (refine ⟨rfl, ?_⟩; repeat' first | exact trivial | rfl | apply And.intro)) (memOk_new rfl (by decide) trivial)) ⟨by rw [hT]; exact hR, Nat.le_refl _, by simpa using hgl⟩ ?_
  rintro ⟨k, b, out⟩ ⟨hJ, hkb, hlen⟩
  dsimp only at hJ hkb hlen ⊢
  have hsz := strB_size b
  repeat' (first | refine tr_seq ?_ | refine reg (T := tab) tOk hnt rfl ?_ ?_ | refine regD (T := tab) tOk mixedR hnt rfl (by decide +kernel) ?_ ?_ | refine tr_block ?_ | refine tr_skip ?_)
  · (dsimp only [AllP]; (repeat' first | exact trivial | assumption | exact Nat.le_of_ble_eq_true rfl | apply And.intro | decide | intro _ | exact rfl))
  repeat' (first | refine tr_seq ?_ | refine tr_block ?_ | refine tr_skip ?_)
  refine tr_cond rfl (fun hc => ?_) (fun hc => ?_)
  · simp only [condT_tt, condT_ff, condF_tt, condF_ff, notE_t, notE_f, decide_eq_true_eq, decide_eq_false_iff_not] at hc
    (try simp only [tx_ne] at hc)
    (try simp only [condT_tt, condT_ff, condF_tt, condF_ff, notE_t, notE_f, decide_eq_true_eq, decide_eq_false_iff_not] at hc)
    have hb0 : b.length ≠ 0 := hc
    repeat' (first | refine tr_seq ?_ | refine tr_block ?_ | refine tr_skip ?_)
    first | refine reg (T := tab) tOk hnt rfl ?_ ?_ | refine regD (T := tab) tOk mixedR hnt rfl (by decide +kernel) ?_ ?_
    · (dsimp only [AllP]; (repeat' first | exact trivial | assumption | exact Nat.le_of_ble_eq_true rfl | apply And.intro | decide | intro _ | exact rfl))
    first | refine tr_join (σ := Nat) (fun n => St.of [(4, .one (.e (eTx b))), (6, .one (.own 54 0)), (7, .one (.e (eI (n : Int))))] [(54, ⟨0, .row 1 (eLs2 out), 0⟩)]) (fun n => n = if 2 ≤ b.length then nB b else 0) ?_ ?_ | refine tr_seq (tr_join (σ := Nat) (fun n => St.of [(4, .one (.e (eTx b))), (6, .one (.own 54 0)), (7, .one (.e (eI (n : Int))))] [(54, ⟨0, .row 1 (eLs2 out), 0⟩)]) (fun n => n = if 2 ≤ b.length then nB b else 0) ?_ ?_)
    · repeat' (first | refine tr_seq ?_ | refine reg (T := tab) tOk hnt rfl ?_ ?_ | refine regD (T := tab) tOk mixedR hnt rfl (by decide +kernel) ?_ ?_ | refine tr_block ?_ | refine tr_skip ?_)
      · (dsimp only [AllP]; (repeat' first | exact trivial | assumption | exact Nat.le_of_ble_eq_true rfl | apply And.intro | decide | intro _ | exact rfl))
      repeat' (first | refine tr_seq ?_ | refine tr_block ?_ | refine tr_skip ?_)
      refine tr_cond rfl (fun hc => ?_) (fun hc => ?_)
      · simp only [condT_tt, condT_ff, condF_tt, condF_ff, notE_t, notE_f, decide_eq_true_eq, decide_eq_false_iff_not] at hc
        have h2 : 2 ≤ b.length := by omega
        have n2 := rnumber_fn (b.take 2) (by rw [List.length_take]; omega)
        have s2 : eTx (b.take 2) = E.v (.string ((strB b).extract (Int.toNat 0) (Int.toNat 2))) := by
          rw [strB_extract]
          rfl
        rw [s2] at n2
        have hn2 := nmN_lt 2 (b.take 2) (by rw [List.length_take]; omega)
        have hn2 : nB b < 65536 := hn2
        rw [show nmN (b.take 2) = nB b from rfl] at n2
        have hw := wrap64_id (n := (nB b : Int)) (by omega) (by omega)
        repeat' (first | refine tr_seq ?_ | refine tr_block ?_ | refine tr_skip ?_)
        refine tr_region (lex (T := tab) tOk hnt rfl ?_ (call rfl rfl rfl rfl rfl rfl rfl hnt (n2) (lex (T := tab) tOk hnt rfl ?_ (Lex.nil _)))) ?_
        · (dsimp only [AllP]; (repeat' first | exact trivial | assumption | exact Nat.le_of_ble_eq_true rfl | apply And.intro | exact eCells_len1 _ _ ‹_› | exact eCells_isByte _ _ ‹_› | (intro hh_; have hg_ := hh_; (try simp only [condT_ff, condF_tt, notE_t, notE_f, Bool.and_eq_true, ne_eq, decide_eq_true_eq, decide_eq_false_iff_not] at hg_)) | intro _ | exact rfl | omega))
        · (dsimp only [AllP]; (repeat' first | exact trivial | assumption | exact Nat.le_of_ble_eq_true rfl | apply And.intro | exact eCells_len1 _ _ ‹_› | exact eCells_isByte _ _ ‹_› | (intro hh_; have hg_ := hh_; (try simp only [condT_ff, condF_tt, notE_t, notE_f, Bool.and_eq_true, ne_eq, decide_eq_true_eq, decide_eq_false_iff_not] at hg_)) | intro _ | exact rfl | omega))
        rw [hw]
        repeat' (first | refine tr_seq ?_ | refine tr_block ?_ | refine tr_skip ?_)
        refine ⟨(nB b), (by rw [if_pos h2]), le_of (ad := []) (by refine ⟨?_, ?_, ?_, trivial⟩ <;> first | exact trivial | rfl | exact ⟨rfl, rfl⟩ | exact ⟨rfl, rfl, rfl⟩ | exact ⟨rfl, rfl, rfl, rfl⟩ | exact ⟨rfl, rfl, rfl, rfl, rfl⟩ | exact congrArg (fun z : Int => E.v (.int .i64 z)) (wrap64_id (by omega) (by omega)) | exact congrArg (fun z : Int => E.v (.int .u8 z)) (by assumption) | exact congrArg (fun z : ByteArray => E.v (.string z)) (by assumption) | (refine ⟨rfl, ?_⟩; repeat' first | exact trivial | rfl | apply And.intro)) (memOk_row rfl rfl rfl trivial)⟩
      simp only [condT_tt, condT_ff, condF_tt, condF_ff, notE_t, notE_f, decide_eq_true_eq, decide_eq_false_iff_not] at hc
      repeat' (first | refine tr_seq ?_ | refine tr_block ?_ | refine tr_skip ?_)
      refine ⟨0, (by rw [if_neg (by omega)]), le_of (ad := []) (by refine ⟨?_, ?_, ?_, trivial⟩ <;> first | exact trivial | rfl | exact ⟨rfl, rfl⟩ | exact ⟨rfl, rfl, rfl⟩ | exact ⟨rfl, rfl, rfl, rfl⟩ | exact ⟨rfl, rfl, rfl, rfl, rfl⟩ | exact congrArg (fun z : Int => E.v (.int .i64 z)) (wrap64_id (by omega) (by omega)) | exact congrArg (fun z : Int => E.v (.int .u8 z)) (by assumption) | exact congrArg (fun z : ByteArray => E.v (.string z)) (by assumption) | (refine ⟨rfl, ?_⟩; repeat' first | exact trivial | rfl | apply And.intro)) (memOk_row rfl rfl rfl trivial)⟩
    rintro n hn
    have hn6 : n < 65536 := by
      rw [hn]
      split
      · have hn2 := nmN_lt 2 (b.take 2) (by rw [List.length_take]; omega)
        exact hn2
      · decide
    repeat' (first | refine tr_seq ?_ | refine tr_block ?_ | refine tr_skip ?_)
    first | refine reg (T := tab) tOk hnt rfl ?_ ?_ | refine regD (T := tab) tOk mixedR hnt rfl (by decide +kernel) ?_ ?_
    · (dsimp only [AllP]; (repeat' first | exact trivial | assumption | exact Nat.le_of_ble_eq_true rfl | apply And.intro | exact eCells_len1 _ _ ‹_› | exact eCells_isByte _ _ ‹_› | (intro hh_; have hg_ := hh_; (try simp only [condT_ff, condF_tt, notE_t, notE_f, Bool.and_eq_true, ne_eq, decide_eq_true_eq, decide_eq_false_iff_not] at hg_)) | intro _ | exact rfl | omega))
      all_goals trace_state
    have w6 : IntKind.i64.wrap (6 + (n : Int)) = 6 + (n : Int) := wrap64_id (by omega) (by omega)
    repeat' (first | refine tr_seq ?_ | refine tr_block ?_ | refine tr_skip ?_)
    refine tr_cond rfl (fun hc => ?_) (fun hc => ?_)
    · simp only [condT_tt, condT_ff, condF_tt, condF_ff, notE_t, notE_f, decide_eq_true_eq, decide_eq_false_iff_not] at hc
      (try simp only [w6, hsz] at hc)
      (try simp only [condT_tt, condT_ff, condF_tt, condF_ff, notE_t, notE_f, decide_eq_true_eq, decide_eq_false_iff_not] at hc)
      have hbad : badR b := by
        unfold badR
        split at hn <;> omega
      rw [opF_bad k hb0 hbad hkb] at hJ
      rw [← hJ]
      repeat' (first | refine tr_seq ?_ | refine reg (T := tab) tOk hnt rfl ?_ ?_ | refine regD (T := tab) tOk mixedR hnt rfl (by decide +kernel) ?_ ?_ | refine tr_block ?_ | refine tr_skip ?_)
      · (dsimp only [AllP]; (repeat' first | exact trivial | assumption | exact Nat.le_of_ble_eq_true rfl | apply And.intro | decide | intro _ | exact rfl))
      refine tr_ret ⟨.inr rfl, _, _, rfl, by (repeat' first | exact trivial | exact Nat.le_of_ble_eq_true rfl | apply And.intro), ?_⟩
      exact rfl
    simp only [condT_tt, condT_ff, condF_tt, condF_ff, notE_t, notE_f, decide_eq_true_eq, decide_eq_false_iff_not] at hc
    (try simp only [w6, hsz] at hc)
    (try simp only [condT_tt, condT_ff, condF_tt, condF_ff, notE_t, notE_f, decide_eq_true_eq, decide_eq_false_iff_not] at hc)
    obtain ⟨h2, rfl⟩ : 2 ≤ b.length ∧ n = nB b := by
      split at hn
      · exact ⟨‹_›, hn⟩
      · omega
    clear hn
    have hn310 : nB b ≤ 310 := by omega
    have hg3 : 6 + nB b ≤ b.length := by omega
    have hrl : ((b.drop 6).take (nB b)).length = nB b := by rw [List.length_take, List.length_drop]; omega
    have hri := rct_iff hg3 hn6
    have hbd : badR b ↔ rcT ((b.drop 6).take (nB b)) ≠ b.take (6 + nB b) := by
      rw [ne_eq, hri]
      unfold badR
      omega
    have hrt := recordText_fn ((b.drop 6).take (nB b)) (by omega)
    have x1 : (strB b).extract (Int.toNat 6) (Int.toNat (6 + (nB b : Int))) = strB ((b.drop 6).take (nB b)) := by
      rw [strB_extract, show Int.toNat (6 + (nB b : Int)) = 6 + nB b by omega, List.drop_take, show 6 + nB b - Int.toNat 6 = nB b by omega]
      rfl
    have x2 : (strB b).extract (Int.toNat 0) (Int.toNat (6 + (nB b : Int))) = strB (b.take (6 + nB b)) := by
      rw [strB_extract, show Int.toNat (6 + (nB b : Int)) = 6 + nB b by omega]
      rfl
    have x3 : (strB b).extract (Int.toNat (6 + (nB b : Int))) (strB b).size = strB (b.drop (6 + nB b)) := by
      rw [strB_extract, show Int.toNat (6 + (nB b : Int)) = 6 + nB b by omega, hsz, List.take_length]
    generalize hr : (b.drop 6).take (nB b) = r at *
    have hrs := strB_size r
    have m1 : (strB r).size ≤ maxLen := by rw [hrs]; unfold maxLen; omega
    have hby := eCells_isByte r
    repeat' (first | refine tr_seq ?_ | refine tr_block ?_ | refine tr_skip ?_)
    first | refine reg (T := tab) tOk hnt rfl ?_ ?_ | refine regD (T := tab) tOk mixedR hnt rfl (by decide +kernel) ?_ ?_
    · rw [w6, x1]
      (dsimp only [AllP]; (repeat' first | exact trivial | assumption | exact Nat.le_of_ble_eq_true rfl | apply And.intro | exact eCells_len1 _ _ ‹_› | exact eCells_isByte _ _ ‹_› | (intro hh_; have hg_ := hh_; (try simp only [condT_ff, condF_tt, notE_t, notE_f, Bool.and_eq_true, ne_eq, decide_eq_true_eq, decide_eq_false_iff_not] at hg_)) | intro _ | exact rfl | omega))
    rw [w6, x1, strBytes_B]
    repeat' (first | refine tr_seq ?_ | refine tr_block ?_ | refine tr_skip ?_)
    refine tr_draw (T := tab) tOk hnt mixedR (lexD (T := tab) rfl ?_ (callDU rfl rfl rfl rfl rfl rfl rfl rfl rfl (hrt) (lexD (T := tab) rfl ?_ (.nil _)))) (by decide +kernel) ?_
    · (dsimp only [AllP]; (repeat' first | exact trivial | assumption | exact Nat.le_of_ble_eq_true rfl | apply And.intro | exact eCells_len1 _ _ ‹_› | exact eCells_isByte _ _ ‹_› | (intro hh_; have hg_ := hh_; (try simp only [condT_ff, condF_tt, notE_t, notE_f, Bool.and_eq_true, ne_eq, decide_eq_true_eq, decide_eq_false_iff_not] at hg_)) | intro _ | exact rfl | omega))
      all_goals trace_state
    · (dsimp only [AllP]; (repeat' first | exact trivial | assumption | exact Nat.le_of_ble_eq_true rfl | apply And.intro | exact eCells_len1 _ _ ‹_› | exact eCells_isByte _ _ ‹_› | (intro hh_; have hg_ := hh_; (try simp only [condT_ff, condF_tt, notE_t, notE_f, Bool.and_eq_true, ne_eq, decide_eq_true_eq, decide_eq_false_iff_not] at hg_)) | intro _ | exact rfl | omega))
      all_goals trace_state
    rw [w6, x2]
    have hol : (eLs2 out).length = out.length := List.length_map ..
    have m3 : ∀ x : List E, (eLs2 out).length + [x].length ≤ maxLen := fun x => by rw [hol]; show out.length + 1 ≤ maxLen; unfold maxLen; omega
    have m4 : ∀ x : List E, ((eLs2 out).length + [x].length) * 24 ≤ 140737488355328 := fun x => by rw [hol]; show (out.length + 1) * 24 ≤ _; omega
    have hou : eLs2 out ++ [[E.sl (eCells r)]] = eLs2 (out ++ [r]) := by
      unfold eLs2
      rw [List.map_append]
      rfl
    repeat' (first | refine tr_seq ?_ | refine tr_block ?_ | refine tr_skip ?_)
    refine tr_cond rfl (fun hc => ?_) (fun hc => ?_)
    · simp only [condT_tt, condT_ff, condF_tt, condF_ff, notE_t, notE_f, decide_eq_true_eq, decide_eq_false_iff_not] at hc
      (try simp only [tx_eq] at hc)
      (try simp only [condT_tt, condT_ff, condF_tt, condF_ff, notE_t, notE_f, decide_eq_true_eq, decide_eq_false_iff_not] at hc)
      rw [opF_bad k hb0 (hbd.2 hc) hkb] at hJ
      rw [← hJ]
      repeat' (first | refine tr_seq ?_ | refine reg (T := tab) tOk hnt rfl ?_ ?_ | refine regD (T := tab) tOk mixedR hnt rfl (by decide +kernel) ?_ ?_ | refine tr_block ?_ | refine tr_skip ?_)
      · (dsimp only [AllP]; (repeat' first | exact trivial | assumption | exact Nat.le_of_ble_eq_true rfl | apply And.intro | decide | intro _ | exact rfl))
      refine tr_ret ⟨.inr rfl, _, _, rfl, by (repeat' first | exact trivial | exact Nat.le_of_ble_eq_true rfl | apply And.intro), ?_⟩
      exact rfl
    simp only [condT_tt, condT_ff, condF_tt, condF_ff, notE_t, notE_f, decide_eq_true_eq, decide_eq_false_iff_not] at hc
    (try simp only [tx_eq] at hc)
    (try simp only [condT_tt, condT_ff, condF_tt, condF_ff, notE_t, notE_f, decide_eq_true_eq, decide_eq_false_iff_not] at hc)
    have hgood : ¬ badR b := fun h => hbd.1 h hc
    obtain ⟨k, rfl⟩ : ∃ k', k = k' + 1 := ⟨k - 1, by omega⟩
    rw [opF_step k out hb0 hgood, hr] at hJ
    repeat' (first | refine tr_seq ?_ | refine tr_block ?_ | refine tr_skip ?_)
    first | refine reg (T := tab) tOk hnt rfl ?_ ?_ | refine regD (T := tab) tOk mixedR hnt rfl (by decide +kernel) ?_ ?_
    · (dsimp only [AllP]; (repeat' first | exact trivial | assumption | exact Nat.le_of_ble_eq_true rfl | apply And.intro | exact eCells_len1 _ _ ‹_› | exact eCells_isByte _ _ ‹_› | (intro hh_; have hg_ := hh_; (try simp only [condT_ff, condF_tt, notE_t, notE_f, Bool.and_eq_true, ne_eq, decide_eq_true_eq, decide_eq_false_iff_not] at hg_)) | intro _ | exact rfl | omega))
      all_goals first | exact m3 _ | exact m4 _ | trace_state
    rw [hou]
    have hL2 : (0 : Int) ≤ IntKind.i64.wrap (6 + (nB b : Int)) ∧ IntKind.i64.wrap (6 + (nB b : Int)) ≤ ((strB b).size : Int) := by rw [w6]; omega
    repeat' (first | refine tr_seq ?_ | refine tr_block ?_ | refine tr_skip ?_)
    first | refine reg (T := tab) tOk hnt rfl ?_ ?_ | refine regD (T := tab) tOk mixedR hnt rfl (by decide +kernel) ?_ ?_
    · (dsimp only [AllP]; (repeat' first | exact trivial | assumption | exact Nat.le_of_ble_eq_true rfl | apply And.intro | exact eCells_len1 _ _ ‹_› | exact eCells_isByte _ _ ‹_› | (intro hh_; have hg_ := hh_; (try simp only [condT_ff, condF_tt, notE_t, notE_f, Bool.and_eq_true, ne_eq, decide_eq_true_eq, decide_eq_false_iff_not] at hg_)) | intro _ | exact rfl | omega))
      all_goals first | omega | trace_state
    rw [w6, Int.toNat_natCast, x3]
    refine ⟨(k, b.drop (6 + nB b), out ++ [r]), ⟨hJ, ?_, ?_⟩, ?_, le_of (ad := []) ⟨rfl, ⟨rfl, rfl, rfl, rfl⟩, trivial⟩ (memOk_row rfl rfl rfl trivial)⟩
    · dsimp only; rw [List.length_drop]; omega
    · dsimp only; rw [List.length_append, List.length_drop]; show out.length + 1 + _ ≤ _; omega
    · dsimp only; rw [List.length_drop]; omega
  simp only [condT_tt, condT_ff, condF_tt, condF_ff, notE_t, notE_f, decide_eq_true_eq, decide_eq_false_iff_not] at hc
  (try simp only [tx_ne] at hc)
  (try simp only [condT_tt, condT_ff, condF_tt, condF_ff, notE_t, notE_f, decide_eq_true_eq, decide_eq_false_iff_not] at hc)
  refine tr_exit ?_
  rw [opF_nil k (by omega)] at hJ
  have hJ : (out ++ [], (0 : Int)) = T := hJ
  rw [← hJ, List.append_nil]
  repeat' (first | refine tr_seq ?_ | refine reg (T := tab) tOk hnt rfl ?_ ?_ | refine regD (T := tab) tOk mixedR hnt rfl (by decide +kernel) ?_ ?_ | refine tr_block ?_ | refine tr_skip ?_)
  · (dsimp only [AllP]; (repeat' first | exact trivial | assumption | exact Nat.le_of_ble_eq_true rfl | apply And.intro | decide | intro _ | exact rfl))
  refine tr_ret ⟨.inr rfl, _, _, rfl, by (repeat' first | exact trivial | exact Nat.le_of_ble_eq_true rfl | apply And.intro), ?_⟩
  exact rfl
end Go.Proofs.Ytphaholcndhonaa
