/- Values as bytes: numbers, bits. No condition. -/
import Derived.Test.YtphaholcndhonaaDoorTVal
import Derived.Test.YtphaholcndhonaaDoorTKinA
namespace Go.Proofs.YtphaholcndhonaaDoor
open Go Go.RowKit Go.Proofs.YtphaholcndhonaaDoor.Ab
set_option linter.unusedSimpArgs false
set_option linter.unusedVariables false

/-- a number's bytes, the great one first -/
def bigF (n : Nat) : Nat → List UInt8
  | 0 => []
  | k + 1 => bigF (n / 256) k ++ [UInt8.ofNat n]
theorem bigF_len (n : Nat) : ∀ k, (bigF n k).length = k
  | 0 => rfl
  | k + 1 => by rw [bigF, List.length_append, bigF_len (n / 256) k]; rfl
theorem ofNatB (n : Nat) : IntKind.u8.wrap (n : Int) = ((UInt8.ofNat n).toNat : Int) := by
  unfold IntKind.wrap
  simp [IntKind.bits, IntKind.signed]
theorem bytesOf_one (c : UInt8) : bytesOf [[E.v (.int .u8 (c.toNat : Int))]] = strB [c] := bytesOf_eCells [c]
theorem strB_app (l r : List UInt8) : strB l ++ strB r = strB (l ++ r) := by
  unfold strB
  apply ByteArray.ext
  simp
theorem take_snocB (l : List UInt8) {j : Nat} (h : j < l.length) : l.take (j + 1) = l.take j ++ [l.getD j 0] := by
  rw [List.take_add_one, List.getElem?_eq_getElem h, List.getD_eq_getElem?_getD, List.getElem?_eq_getElem h]
  rfl
theorem bigF_get : ∀ (k n j : Nat), j < k → (bigF n k).getD j 0 = UInt8.ofNat (n / 256 ^ (k - 1 - j))
  | 0, n, j, h => by omega
  | k + 1, n, j, h => by
    rw [bigF]
    rcases Nat.lt_or_ge j k with h1 | h1
    · rw [List.getD_eq_getElem?_getD, List.getElem?_append_left (by rw [bigF_len]; exact h1), ← List.getD_eq_getElem?_getD, bigF_get k (n / 256) j h1, Nat.div_div_eq_div_mul]
      congr 2
      rw [← Nat.pow_succ']
      congr 1
      omega
    · have : j = k := by omega
      subst this
      rw [List.getD_eq_getElem?_getD, List.getElem?_append_right (by rw [bigF_len]; exact Nat.le_refl _), bigF_len, Nat.sub_self]
      simp
theorem take_bigF (n : Nat) {j : Nat} (h : j < 8) : (bigF n 8).take (j + 1) = (bigF n 8).take j ++ [UInt8.ofNat (n / 2 ^ (56 - 8 * j))] := by
  rw [take_snocB _ (by rw [bigF_len]; exact h), bigF_get 8 n j h]
  congr 3
  rw [show (256 : Nat) = 2 ^ 8 from rfl, ← Nat.pow_mul]
  congr 2
  omega
set_option maxRecDepth 10000 in
set_option maxHeartbeats 2000000 in
theorem big_fn (n size : Nat) (h : size ≤ 1000) : FnD Tryd.prog 133 [.v (.int .u64 (n : Int)), .one (.e (eI size))] (.v (.string (strB (bigF n size)))) := by
  refine fn_intro (T := tab) tOk Tryd.func133 rfl (by kernel_rfl) (by simp [Tryd.ntmps133]) ?_
  intro X hX
  have hnt : X.nt = 19 := hX
  clear hX
  repeat' (first | refine tr_seq ?_ | refine reg (T := tab) tOk hnt rfl ?_ ?_ | refine regD (T := tab) tOk mixedR hnt rfl (by decide +kernel) ?_ ?_ | refine tr_block ?_ | refine tr_skip ?_)
  · (dsimp only [AllP]; (repeat' first | exact trivial | assumption | exact Nat.le_of_ble_eq_true rfl | apply And.intro | decide | intro _ | exact rfl))
  · (dsimp only [AllP]; (repeat' first | exact trivial | assumption | exact Nat.le_of_ble_eq_true rfl | apply And.intro | decide | intro _ | exact rfl))
  · (dsimp only [AllP]; (repeat' first | exact trivial | assumption | exact Nat.le_of_ble_eq_true rfl | apply And.intro | decide | intro _ | exact rfl))
  repeat' (first | refine tr_seq ?_ | refine tr_block ?_ | refine tr_skip ?_)
  refine tr_loop (σ := Nat × Nat × List UInt8) (fun x => St.of [(0, .v (.int .u64 (x.2.1 : Int))), (5, .v (.string (strB x.2.2))), (6, .v (.int .i64 size)), (7, .v (.int .i64 x.1))] []) (fun x => x.1 ≤ size ∧ bigF x.2.1 (size - x.1) ++ x.2.2 = bigF n size ∧ x.2.2.length = x.1) (fun x => size - x.1) ((0, n, [])) (le_of (ad := []) (by refine ⟨?_, ?_, ?_, ?_, trivial⟩ <;> first | exact trivial | rfl | exact ⟨rfl, rfl⟩ | exact ⟨rfl, rfl, rfl⟩ | exact ⟨rfl, rfl, rfl, rfl⟩ | exact ⟨rfl, rfl, rfl, rfl, rfl⟩ | exact congrArg (fun z : Int => E.v (.int .i64 z)) (wrap64_id (by omega) (by omega))) trivial) ⟨Nat.zero_le _, List.append_nil _, rfl⟩ ?_
  rintro ⟨k, m, acc⟩ ⟨j1, j2, j3⟩
  dsimp only at j1 j2 j3 ⊢
  repeat' (first | refine tr_seq ?_ | refine reg (T := tab) tOk hnt rfl ?_ ?_ | refine regD (T := tab) tOk mixedR hnt rfl (by decide +kernel) ?_ ?_ | refine tr_block ?_ | refine tr_skip ?_)
  · (dsimp only [AllP]; (repeat' first | exact trivial | assumption | exact Nat.le_of_ble_eq_true rfl | apply And.intro | decide | intro _ | exact rfl))
  repeat' (first | refine tr_seq ?_ | refine tr_block ?_ | refine tr_skip ?_)
  refine tr_cond rfl (fun hc => ?_) (fun hc => ?_)
  · simp only [condT_tt, condT_ff, condF_tt, condF_ff, notE_t, notE_f, decide_eq_true_eq, decide_eq_false_iff_not] at hc
    have hk : k < size := by omega
    repeat' (first | refine tr_seq ?_ | refine tr_block ?_ | refine tr_skip ?_)
    first | refine reg (T := tab) tOk hnt rfl ?_ ?_ | refine regD (T := tab) tOk mixedR hnt rfl (by decide +kernel) ?_ ?_
    · rw [ofNatB, bytesOf_one]
      refine ⟨trivial, ?_, trivial, fun cs hc => ?_, ⟨⟨rfl, trivial⟩, by decide, by decide⟩, trivial, trivial⟩
      · show (strB [UInt8.ofNat m]).size + (strB acc).size ≤ maxLen
        rw [strB_size, strB_size, maxLen]
        simp
        omega
      · rw [List.mem_singleton] at hc
        subst hc
        exact ⟨_, rfl⟩
    rw [ofNatB, bytesOf_one, strB_app]
    repeat' (first | refine tr_seq ?_ | refine reg (T := tab) tOk hnt rfl ?_ ?_ | refine regD (T := tab) tOk mixedR hnt rfl (by decide +kernel) ?_ ?_ | refine tr_block ?_ | refine tr_skip ?_)
    · (dsimp only [AllP]; (repeat' first | exact trivial | assumption | exact Nat.le_of_ble_eq_true rfl | apply And.intro | decide | intro _ | exact rfl))
    · (dsimp only [AllP]; (repeat' first | exact trivial | assumption | exact Nat.le_of_ble_eq_true rfl | apply And.intro | decide | intro _ | exact rfl))
    have hdiv : Int.fdiv (m : Int) (2 ^ min (Int.toNat 8) 64) = ((m / 256 : Nat) : Int) := by
      rw [show min (Int.toNat 8) 64 = 8 from rfl, Int.fdiv_eq_ediv_of_nonneg _ (by decide)]
      rfl
    refine ⟨(k + 1, m / 256, UInt8.ofNat m :: acc), ⟨hk, ?_, by simp; omega⟩, by dsimp only; omega, le_of (ad := []) ⟨congrArg (fun z : Int => E.v (.int .u64 z)) hdiv, rfl, rfl, congrArg (fun z : Int => E.v (.int .i64 z)) (wrap64_id (by omega) (by omega)), trivial⟩ trivial⟩
    dsimp only
    rw [← j2, show size - k = (size - (k + 1)) + 1 by omega, bigF, List.append_assoc]
    rfl
  simp only [condT_tt, condT_ff, condF_tt, condF_ff, notE_t, notE_f, decide_eq_true_eq, decide_eq_false_iff_not] at hc
  have hk : k = size := by omega
  subst hk
  refine tr_exit ?_
  repeat' (first | refine tr_seq ?_ | refine reg (T := tab) tOk hnt rfl ?_ ?_ | refine regD (T := tab) tOk mixedR hnt rfl (by decide +kernel) ?_ ?_ | refine tr_block ?_ | refine tr_skip ?_)
  · (dsimp only [AllP]; (repeat' first | exact trivial | assumption | exact Nat.le_of_ble_eq_true rfl | apply And.intro | decide | intro _ | exact rfl))
  repeat' (first | refine tr_seq ?_ | refine tr_block ?_ | refine tr_skip ?_)
  refine tr_ret ⟨.inr rfl, _, _, rfl, by trivial, ?_⟩
  rw [← j2, Nat.sub_self]
  rfl
set_option maxRecDepth 10000 in
set_option maxHeartbeats 2000000 in
theorem eight_fn (n : Nat) : FnD Tryd.prog 173 [.v (.int .u64 (n : Int))] (.one (.e (eBytes (bigF n 8)))) := by
  refine fn_intro (T := tab) tOk Tryd.func173 rfl (by kernel_rfl) (by simp [Tryd.ntmps173]) ?_
  intro X hX
  have hnt : X.nt = 17 := hX
  clear hX
  repeat' (first | refine tr_seq ?_ | refine reg (T := tab) tOk hnt rfl ?_ ?_ | refine regD (T := tab) tOk mixedR hnt rfl (by decide +kernel) ?_ ?_ | refine tr_block ?_ | refine tr_skip ?_)
  · (dsimp only [AllP]; (repeat' first | exact trivial | assumption | exact Nat.le_of_ble_eq_true rfl | apply And.intro | decide | intro _ | exact rfl))
  · (dsimp only [AllP]; (repeat' first | exact trivial | assumption | exact Nat.le_of_ble_eq_true rfl | apply And.intro | decide | intro _ | exact rfl))
  · (dsimp only [AllP]; (repeat' first | exact trivial | assumption | exact Nat.le_of_ble_eq_true rfl | apply And.intro | decide | intro _ | exact rfl))
  repeat' (first | refine tr_seq ?_ | refine tr_block ?_ | refine tr_skip ?_)
  refine tr_loop (σ := Nat) (fun j => St.of [(0, .v (.int .u64 (n : Int))), (3, .one (.own 15 0)), (4, .one (.e (eI (56 - 8 * (j : Int)))))] [(15, ⟨0, .row 1 (eCells ((bigF n 8).take j)), 0⟩)]) (fun j => j ≤ 8) (fun j => 8 - j) (0) (le_of (ad := [15]) (by refine ⟨?_, ?_, ?_, trivial⟩ <;> first | exact trivial | rfl | exact ⟨rfl, rfl⟩ | exact ⟨rfl, rfl, rfl⟩ | exact ⟨rfl, rfl, rfl, rfl⟩ | exact ⟨rfl, rfl, rfl, rfl, rfl⟩ | exact congrArg (fun z : Int => E.v (.int .i64 z)) (wrap64_id (by omega) (by omega))) (memOk_new rfl (by decide) trivial)) (Nat.zero_le _) ?_
  rintro j jl
  repeat' (first | refine tr_seq ?_ | refine reg (T := tab) tOk hnt rfl ?_ ?_ | refine regD (T := tab) tOk mixedR hnt rfl (by decide +kernel) ?_ ?_ | refine tr_block ?_ | refine tr_skip ?_)
  · (dsimp only [AllP]; (repeat' first | exact trivial | assumption | exact Nat.le_of_ble_eq_true rfl | apply And.intro | decide | intro _ | exact rfl))
  repeat' (first | refine tr_seq ?_ | refine tr_block ?_ | refine tr_skip ?_)
  refine tr_cond rfl (fun hc => ?_) (fun hc => ?_)
  · simp only [condT_tt, condT_ff, condF_tt, condF_ff, notE_t, notE_f, decide_eq_true_eq, decide_eq_false_iff_not] at hc
    have hj8 : j < 8 := by omega
    have hsh : Int.toNat (56 - 8 * (j : Int)) = 56 - 8 * j := by omega
    have hmin : min (56 - 8 * j) IntKind.u64.bits = 56 - 8 * j := Nat.min_eq_left (show 56 - 8 * j ≤ 64 by omega)
    have hfd : IntKind.u8.wrap (Int.fdiv (n : Int) (2 ^ min (Int.toNat (56 - 8 * (j : Int))) IntKind.u64.bits)) = ((UInt8.ofNat (n / 2 ^ (56 - 8 * j))).toNat : Int) := by
      rw [hsh, hmin, Int.fdiv_eq_ediv_of_nonneg _ (Int.le_of_lt (Int.pow_pos (by decide))), ← ofNatB, Int.natCast_ediv]
      norm_cast
    have hlen : (eCells ((bigF n 8).take j)).length = j := by rw [eCells_length, List.length_take, bigF_len]; omega
    have hap : eCells ((bigF n 8).take j) ++ [[E.v (.int .u8 (IntKind.u8.wrap (Int.fdiv (n : Int) (2 ^ min (Int.toNat (56 - 8 * (j : Int))) IntKind.u64.bits))))]] = eCells ((bigF n 8).take (j + 1)) := by
      rw [hfd, take_bigF n hj8, ← eCells_append]
      rfl
    repeat' (first | refine tr_seq ?_ | refine tr_block ?_ | refine tr_skip ?_)
    first | refine reg (T := tab) tOk hnt rfl ?_ ?_ | refine regD (T := tab) tOk mixedR hnt rfl (by decide +kernel) ?_ ?_
    · rw [hlen]
      (dsimp only [AllP]; (repeat' first | exact trivial | assumption | exact Nat.le_of_ble_eq_true rfl | apply And.intro | exact eCells_len1 _ _ ‹_› | exact eCells_isByte _ _ ‹_› | (intro hh_; have hg_ := hh_; (try simp only [condT_ff, condF_tt, notE_t, notE_f, Bool.and_eq_true, ne_eq, decide_eq_true_eq, decide_eq_false_iff_not] at hg_)) | intro _ | exact rfl | omega))
      all_goals first | (show j + 1 ≤ maxLen; unfold maxLen; omega) | (show (j + 1) * 1 ≤ _; omega)
    repeat' (first | refine tr_seq ?_ | refine reg (T := tab) tOk hnt rfl ?_ ?_ | refine regD (T := tab) tOk mixedR hnt rfl (by decide +kernel) ?_ ?_ | refine tr_block ?_ | refine tr_skip ?_)
    · (dsimp only [AllP]; (repeat' first | exact trivial | assumption | exact Nat.le_of_ble_eq_true rfl | apply And.intro | decide | intro _ | exact rfl))
    refine ⟨j + 1, hj8, by omega, le_of (ad := []) ⟨rfl, ⟨rfl, rfl, rfl, rfl⟩, congrArg (fun z : Int => E.v (.int .i64 z)) (wrap64_id (by omega) (by omega) |>.trans (by omega)), trivial⟩ (memOk_row rfl rfl hap trivial)⟩
  simp only [condT_tt, condT_ff, condF_tt, condF_ff, notE_t, notE_f, decide_eq_true_eq, decide_eq_false_iff_not] at hc
  refine tr_exit ?_
  repeat' (first | refine tr_seq ?_ | refine reg (T := tab) tOk hnt rfl ?_ ?_ | refine regD (T := tab) tOk mixedR hnt rfl (by decide +kernel) ?_ ?_ | refine tr_block ?_ | refine tr_skip ?_)
  · (dsimp only [AllP]; (repeat' first | exact trivial | assumption | exact Nat.le_of_ble_eq_true rfl | apply And.intro | decide | intro _ | exact rfl))
  repeat' (first | refine tr_seq ?_ | refine tr_block ?_ | refine tr_skip ?_)
  refine tr_ret ⟨.inr rfl, _, _, rfl, by trivial, ?_⟩
  rw [List.take_of_length_le (by rw [bigF_len]; omega)]
  rfl
/-! ### the bits of reals and of integers -/
abbrev topQ : BitVec 64 := BitVec.twoPow 64 63
theorem topQ_nat : (topQ.toNat : Int) = 9223372036854775808 := by decide
theorem bit63 (x : BitVec 64) : x.getLsbD 63 = decide (9223372036854775808 ≤ x.toNat) := by
  have h := BitVec.msb_eq_decide x
  rw [BitVec.msb_eq_getLsbD_last] at h
  exact h
theorem and_top (x : BitVec 64) : ((x &&& topQ).toNat = 0) ↔ x.toNat < 9223372036854775808 := by
  rw [BitVec.and_twoPow, bit63]
  by_cases h : 9223372036854775808 ≤ x.toNat
  · rw [decide_eq_true h, if_pos rfl]
    constructor
    · intro h1; exact absurd h1 (by decide)
    · intro h1; omega
  · rw [decide_eq_false h, if_neg Bool.false_ne_true]
    constructor
    · intro _; omega
    · intro _; rfl
theorem xor_top_lt (x : BitVec 64) (h : x.toNat < 9223372036854775808) : x ^^^ topQ = x + topQ ∧ x ||| topQ = x + topQ := by
  have h0 : x &&& topQ = 0#64 := BitVec.eq_of_toNat_eq (by rw [(and_top x).2 h]; rfl)
  have h1 := BitVec.add_eq_or_of_and_eq_zero x topQ h0
  refine ⟨?_, h1.symm⟩
  rw [h1]
  apply BitVec.eq_of_getLsbD_eq
  intro i hi
  have h2 := congrArg (fun y => y.getLsbD i) h0
  simp only [BitVec.getLsbD_and] at h2
  rw [BitVec.getLsbD_xor, BitVec.getLsbD_or]
  revert h2
  cases x.getLsbD i <;> cases topQ.getLsbD i <;> simp
theorem top_top : topQ + topQ = 0#64 := by decide
theorem xor_top (x : BitVec 64) : x ^^^ topQ = x + topQ := by
  by_cases h : x.toNat < 9223372036854775808
  · exact (xor_top_lt x h).1
  · have hz : ((x ^^^ topQ) &&& topQ).toNat = 0 := by
      have hb : (x &&& topQ) = topQ := by
        rw [BitVec.and_twoPow, bit63, decide_eq_true (by omega), if_pos rfl]
      have : (x ^^^ topQ) &&& topQ = 0#64 := by
        apply BitVec.eq_of_getLsbD_eq
        intro i hi
        have h2 := congrArg (fun y => y.getLsbD i) hb
        simp only [BitVec.getLsbD_and] at h2
        rw [BitVec.getLsbD_and, BitVec.getLsbD_xor]
        revert h2
        cases x.getLsbD i <;> cases topQ.getLsbD i <;> simp
      rw [this]
      rfl
    have h3 := (xor_top_lt (x ^^^ topQ) ((and_top _).1 hz)).1
    rw [BitVec.xor_assoc, BitVec.xor_self, BitVec.xor_zero] at h3
    generalize x ^^^ topQ = y at *
    rw [h3, BitVec.add_assoc, top_top, BitVec.add_zero]
def tnF (x : BitVec 64) : BitVec 64 := if x.toNat < 9223372036854775808 then x + topQ else ~~~x
theorem topI : BitVec.ofInt 64 9223372036854775808 = topQ := by decide
set_option maxRecDepth 10000 in
set_option maxHeartbeats 2000000 in
theorem turned_fn (x : BitVec 64) : FnD Tryd.prog 174 [.one (.e (eQ x))] (.one (.e (eQ (tnF x)))) := by
  refine fn_intro (T := tab) tOk Tryd.func174 rfl (by kernel_rfl) (by simp [Tryd.ntmps174]) ?_
  intro X hX
  have hnt : X.nt = 10 := hX
  clear hX
  have ha : IntKind.u64.wrap ((BitVec.ofInt IntKind.u64.bits (x.toNat : Int) &&& BitVec.ofInt IntKind.u64.bits 9223372036854775808).toNat : Int) = ((x &&& topQ).toNat : Int) := by
    rw [← topQ_nat]; exact q_and x topQ
  have hor : IntKind.u64.wrap ((BitVec.ofInt IntKind.u64.bits (x.toNat : Int) ||| BitVec.ofInt IntKind.u64.bits 9223372036854775808).toNat : Int) = ((x ||| topQ).toNat : Int) := by
    rw [← topQ_nat]; exact q_or x topQ
  have hat := and_top x
  unfold tnF
  repeat' (first | refine tr_seq ?_ | refine reg (T := tab) tOk hnt rfl ?_ ?_ | refine regD (T := tab) tOk mixedR hnt rfl (by decide +kernel) ?_ ?_ | refine tr_block ?_ | refine tr_skip ?_)
  · (dsimp only [AllP]; (repeat' first | exact trivial | assumption | exact Nat.le_of_ble_eq_true rfl | apply And.intro | decide | intro _ | exact rfl))
  rw [ha]
  repeat' (first | refine tr_seq ?_ | refine reg (T := tab) tOk hnt rfl ?_ ?_ | refine regD (T := tab) tOk mixedR hnt rfl (by decide +kernel) ?_ ?_ | refine tr_block ?_ | refine tr_skip ?_)
  · (dsimp only [AllP]; (repeat' first | exact trivial | assumption | exact Nat.le_of_ble_eq_true rfl | apply And.intro | decide | intro _ | exact rfl))
  repeat' (first | refine tr_seq ?_ | refine tr_block ?_ | refine tr_skip ?_)
  refine tr_cond rfl (fun hc => ?_) (fun hc => ?_)
  · simp only [condT_tt, condT_ff, condF_tt, condF_ff, notE_t, notE_f, decide_eq_true_eq, decide_eq_false_iff_not] at hc
    rw [if_neg (by omega)]
    repeat' (first | refine tr_seq ?_ | refine reg (T := tab) tOk hnt rfl ?_ ?_ | refine regD (T := tab) tOk mixedR hnt rfl (by decide +kernel) ?_ ?_ | refine tr_block ?_ | refine tr_skip ?_)
    · (dsimp only [AllP]; (repeat' first | exact trivial | assumption | exact Nat.le_of_ble_eq_true rfl | apply And.intro | decide | intro _ | exact rfl))
    refine tr_ret ⟨.inr rfl, _, _, rfl, by trivial, ?_⟩
    exact congrArg (fun z : Int => D.one (D0.e (E.v (.int .u64 z)))) (q_not x)
  simp only [condT_tt, condT_ff, condF_tt, condF_ff, notE_t, notE_f, decide_eq_true_eq, decide_eq_false_iff_not] at hc
  rw [if_pos (by omega)]
  repeat' (first | refine tr_seq ?_ | refine reg (T := tab) tOk hnt rfl ?_ ?_ | refine regD (T := tab) tOk mixedR hnt rfl (by decide +kernel) ?_ ?_ | refine tr_block ?_ | refine tr_skip ?_)
  · (dsimp only [AllP]; (repeat' first | exact trivial | assumption | exact Nat.le_of_ble_eq_true rfl | apply And.intro | decide | intro _ | exact rfl))
  rw [hor, (xor_top_lt x (by omega)).2]
  repeat' (first | refine tr_seq ?_ | refine tr_block ?_ | refine tr_skip ?_)
  exact tr_ret ⟨.inr rfl, _, _, rfl, trivial, rfl⟩
set_option maxRecDepth 10000 in
set_option maxHeartbeats 2000000 in
theorem risen_fn (x : BitVec 64) : FnD Tryd.prog 161 [.one (.e (eQ x))] (.one (.e (eQ (tnF x)))) := by
  refine fn_intro (T := tab) tOk Tryd.func161 rfl (by kernel_rfl) (by simp [Tryd.ntmps161]) ?_
  intro X hX
  have hnt : X.nt = 9 := hX
  clear hX
  have had : IntKind.u64.wrap ((x.toNat : Int) + 9223372036854775808) = ((x + topQ).toNat : Int) := by
    rw [← topQ_nat]; exact q_add x topQ
  unfold tnF
  repeat' (first | refine tr_seq ?_ | refine reg (T := tab) tOk hnt rfl ?_ ?_ | refine regD (T := tab) tOk mixedR hnt rfl (by decide +kernel) ?_ ?_ | refine tr_block ?_ | refine tr_skip ?_)
  · (dsimp only [AllP]; (repeat' first | exact trivial | assumption | exact Nat.le_of_ble_eq_true rfl | apply And.intro | decide | intro _ | exact rfl))
  · (dsimp only [AllP]; (repeat' first | exact trivial | assumption | exact Nat.le_of_ble_eq_true rfl | apply And.intro | decide | intro _ | exact rfl))
  repeat' (first | refine tr_seq ?_ | refine tr_block ?_ | refine tr_skip ?_)
  refine tr_cond rfl (fun hc => ?_) (fun hc => ?_)
  · simp only [condT_tt, condT_ff, condF_tt, condF_ff, notE_t, notE_f, decide_eq_true_eq, decide_eq_false_iff_not] at hc
    rw [if_pos (by omega)]
    repeat' (first | refine tr_seq ?_ | refine reg (T := tab) tOk hnt rfl ?_ ?_ | refine regD (T := tab) tOk mixedR hnt rfl (by decide +kernel) ?_ ?_ | refine tr_block ?_ | refine tr_skip ?_)
    · (dsimp only [AllP]; (repeat' first | exact trivial | assumption | exact Nat.le_of_ble_eq_true rfl | apply And.intro | decide | intro _ | exact rfl))
    rw [had]
    repeat' (first | refine tr_seq ?_ | refine tr_block ?_ | refine tr_skip ?_)
    exact tr_ret ⟨.inr rfl, _, _, rfl, trivial, rfl⟩
  simp only [condT_tt, condT_ff, condF_tt, condF_ff, notE_t, notE_f, decide_eq_true_eq, decide_eq_false_iff_not] at hc
  rw [if_neg (by omega)]
  repeat' (first | refine tr_seq ?_ | refine reg (T := tab) tOk hnt rfl ?_ ?_ | refine regD (T := tab) tOk mixedR hnt rfl (by decide +kernel) ?_ ?_ | refine tr_block ?_ | refine tr_skip ?_)
  · (dsimp only [AllP]; (repeat' first | exact trivial | assumption | exact Nat.le_of_ble_eq_true rfl | apply And.intro | decide | intro _ | exact rfl))
  repeat' (first | refine tr_seq ?_ | refine tr_block ?_ | refine tr_skip ?_)
  refine tr_ret ⟨.inr rfl, _, _, rfl, by trivial, ?_⟩
  exact congrArg (fun z : Int => D.one (D0.e (E.v (.int .u64 z)))) (q_not x)
/-! ### whether a column goes down; bytes turned over -/
def dnB (d : Int) (i : Nat) : Bool := decide (d / 2 ^ i % 2 = 1)
theorem i64wrap_small {n : Nat} (h : n < 9223372036854775808) : IntKind.i64.wrap (n : Int) = (n : Int) := wrap64_id (by omega) (by omega)
theorem and_one64 (x : BitVec 64) : (x &&& 1#64).toNat = x.toNat % 2 := by
  rw [BitVec.toNat_and]
  exact Nat.and_one_is_mod _
theorem shr_dn (d : Int) (i : Nat) (hi : i < 5) : decide (IntKind.i64.wrap ((BitVec.ofInt 64 (Int.fdiv d (2 ^ min (Int.toNat (i : Int)) 64)) &&& BitVec.ofInt 64 1).toNat : Int) = 1) = dnB d i := by
  have h1 : BitVec.ofInt 64 1 = 1#64 := by decide
  have hm : min (Int.toNat (i : Int)) 64 = i := Nat.min_eq_left (by omega)
  rw [h1, hm, and_one64, i64wrap_small (by omega), Int.fdiv_eq_ediv_of_nonneg _ (Int.le_of_lt (Int.pow_pos (by decide)))]
  unfold dnB
  rw [decide_eq_decide, BitVec.toNat_ofInt]
  generalize d / 2 ^ i = q
  omega
theorem and_dn (d : Int) (i : Nat) (hi : i < 5) : (!decide (IntKind.i64.wrap ((BitVec.ofInt 64 d &&& BitVec.ofInt 64 (IntKind.i64.wrap (1 * 2 ^ min (Int.toNat (i : Int)) 64))).toNat : Int) = 0)) = dnB d i := by
  have h1 : BitVec.ofInt 64 (IntKind.i64.wrap (1 * 2 ^ min (Int.toNat (i : Int)) 64)) = BitVec.twoPow 64 i := by
    match i, hi with
    | 0, _ => decide
    | 1, _ => decide
    | 2, _ => decide
    | 3, _ => decide
    | 4, _ => decide
  rw [h1, BitVec.and_twoPow]
  have h3 : (BitVec.ofInt 64 d).getLsbD i = dnB d i := by
    rw [BitVec.getLsbD, Nat.testBit_eq_decide_div_mod_eq, BitVec.toNat_ofInt]
    unfold dnB
    rw [decide_eq_decide]
    match i, hi with
    | 0, _ => omega
    | 1, _ => omega
    | 2, _ => omega
    | 3, _ => omega
    | 4, _ => omega
  rw [h3]
  cases dnB d i
  · rfl
  · match i, hi with
    | 0, _ => decide
    | 1, _ => decide
    | 2, _ => decide
    | 3, _ => decide
    | 4, _ => decide
def flB (c : UInt8) : UInt8 := ~~~c
theorem flB_sub : ∀ c : UInt8, IntKind.u8.wrap (255 - (c.toNat : Int)) = ((flB c).toNat : Int) := by
  have h : ∀ n : Fin 256, IntKind.u8.wrap (255 - (n.val : Int)) = ((flB (UInt8.ofNat n.val)).toNat : Int) := by decide +kernel
  intro c
  have := h ⟨c.toNat, c.toNat_lt⟩
  simpa using this
theorem flB_xor : ∀ c : UInt8, IntKind.u8.wrap ((BitVec.ofInt IntKind.u8.bits 255 ^^^ BitVec.ofInt IntKind.u8.bits (c.toNat : Int)).toNat : Int) = ((flB c).toNat : Int) := by
  have h : ∀ n : Fin 256, IntKind.u8.wrap ((BitVec.ofInt IntKind.u8.bits 255 ^^^ BitVec.ofInt IntKind.u8.bits (n.val : Int)).toNat : Int) = ((flB (UInt8.ofNat n.val)).toNat : Int) := by decide +kernel
  intro c
  have := h ⟨c.toNat, c.toNat_lt⟩
  simpa using this
end Go.Proofs.YtphaholcndhonaaDoor
namespace Go.Proofs.YtphaholcndhonaaDoor
open Go Go.RowKit Go.Proofs.YtphaholcndhonaaDoor.Ab
set_option linter.unusedSimpArgs false
set_option linter.unusedVariables false

def escB : Byt → List UInt8
  | [] => []
  | c :: r => (if c = 0 then [0, 255] else [c]) ++ escB r
theorem escB_app (l : Byt) (c : UInt8) : escB (l ++ [c]) = escB l ++ (if c = 0 then [0, 255] else [c]) := by
  induction l with
  | nil => rw [List.nil_append, escB, escB, escB, List.append_nil, List.nil_append]
  | cons a l ih => rw [List.cons_append, escB, escB, ih, List.append_assoc]
theorem escB_len (l : Byt) : (escB l).length ≤ 2 * l.length := by
  induction l with
  | nil => exact Nat.le_refl _
  | cons a l ih =>
    rw [escB, List.length_append, List.length_cons]
    have : (if a = 0 then [0, 255] else [a]).length ≤ 2 := by split <;> exact Nat.le_of_ble_eq_true rfl
    omega
def oneB (v : Val) : List UInt8 :=
  if v.k = 1 then [2, UInt8.ofNat v.i.toNat] else
  if v.k = 2 then 3 :: bigF (BitVec.ofInt 64 v.i + topQ).toNat 8 else
  if v.k = 3 then 4 :: bigF (tnF v.b).toNat 8 else
  if v.k = 4 then 5 :: (escB v.t ++ [0, 1]) else [1]
theorem chk_parts {v : Val} (h : chk v = 0) : (0 ≤ v.k ∧ v.k ≤ 4) ∧ v.t.length ≤ 40 ∧ (v.k = 1 → v.i = 0 ∨ v.i = 1) := by
  unfold chk at h
  split at h
  · exact absurd h (by decide)
  split at h
  · exact absurd h (by decide)
  split at h
  · exact absurd h (by decide)
  split at h
  · exact absurd h (by decide)
  · rename_i h1 h2 h3 h4
    refine ⟨by omega, by omega, fun hk => ?_⟩
    by_cases h0 : v.i = 0
    · exact .inl h0
    · exact .inr (Classical.not_not.1 fun h5 => h4 ⟨hk, h0, h5⟩)
theorem intq (i : Int) : IntKind.u64.wrap i = ((BitVec.ofInt 64 i).toNat : Int) := q_wrap i
theorem xorI (i : Int) : IntKind.u64.wrap ((BitVec.ofInt 64 (IntKind.u64.wrap i) ^^^ BitVec.ofInt 64 9223372036854775808).toNat : Int) = ((BitVec.ofInt 64 i + topQ).toNat : Int) := by
  rw [intq i, ← topQ_nat, ← xor_top]
  exact q_xor _ _
set_option maxRecDepth 10000 in
set_option maxHeartbeats 2000000 in
theorem one0_fn (i : Int) (b : BitVec 64) (t : Byt) : FnD Tryd.prog 160 [.agg (.es (eVal ⟨0, i, b, t⟩))] (.one (.e (eBytes [1]))) := by
  refine fn_intro (T := tab) tOk Tryd.func160 rfl (by kernel_rfl) (by simp [Tryd.ntmps160]) ?_
  intro X hX
  have hnt : X.nt = 65 := hX
  clear hX
  repeat' (first | refine tr_seq ?_ | refine reg (T := tab) tOk hnt rfl ?_ ?_ | refine regD (T := tab) tOk mixedR hnt rfl (by decide +kernel) ?_ ?_ | refine tr_block ?_ | refine tr_skip ?_)
  · (dsimp only [AllP]; (repeat' first | exact trivial | assumption | exact Nat.le_of_ble_eq_true rfl | apply And.intro | decide | intro _ | exact rfl))
  · (dsimp only [AllP]; (repeat' first | exact trivial | assumption | exact Nat.le_of_ble_eq_true rfl | apply And.intro | decide | intro _ | exact rfl))
  · (dsimp only [AllP]; (repeat' first | exact trivial | assumption | exact Nat.le_of_ble_eq_true rfl | apply And.intro | decide | intro _ | exact rfl))
  · (dsimp only [AllP]; (repeat' first | exact trivial | assumption | exact Nat.le_of_ble_eq_true rfl | apply And.intro | decide | intro _ | exact rfl))
  repeat' (first | refine tr_seq ?_ | refine tr_block ?_ | refine tr_skip ?_)
  refine tr_cond rfl (fun hc => ?_) (fun hc => ?_)
  · first | exact absurd (show false = true from hc) Bool.false_ne_true | exact absurd (show true = false from hc).symm Bool.false_ne_true
  repeat' (first | refine tr_seq ?_ | refine reg (T := tab) tOk hnt rfl ?_ ?_ | refine regD (T := tab) tOk mixedR hnt rfl (by decide +kernel) ?_ ?_ | refine tr_block ?_ | refine tr_skip ?_)
  · (dsimp only [AllP]; (repeat' first | exact trivial | assumption | exact Nat.le_of_ble_eq_true rfl | apply And.intro | decide | intro _ | exact rfl))
  repeat' (first | refine tr_seq ?_ | refine tr_block ?_ | refine tr_skip ?_)
  refine tr_cond rfl (fun hc => ?_) (fun hc => ?_)
  · first | exact absurd (show false = true from hc) Bool.false_ne_true | exact absurd (show true = false from hc).symm Bool.false_ne_true
  repeat' (first | refine tr_seq ?_ | refine reg (T := tab) tOk hnt rfl ?_ ?_ | refine regD (T := tab) tOk mixedR hnt rfl (by decide +kernel) ?_ ?_ | refine tr_block ?_ | refine tr_skip ?_)
  · (dsimp only [AllP]; (repeat' first | exact trivial | assumption | exact Nat.le_of_ble_eq_true rfl | apply And.intro | decide | intro _ | exact rfl))
  repeat' (first | refine tr_seq ?_ | refine tr_block ?_ | refine tr_skip ?_)
  refine tr_cond rfl (fun hc => ?_) (fun hc => ?_)
  · first | exact absurd (show false = true from hc) Bool.false_ne_true | exact absurd (show true = false from hc).symm Bool.false_ne_true
  repeat' (first | refine tr_seq ?_ | refine reg (T := tab) tOk hnt rfl ?_ ?_ | refine regD (T := tab) tOk mixedR hnt rfl (by decide +kernel) ?_ ?_ | refine tr_block ?_ | refine tr_skip ?_)
  · (dsimp only [AllP]; (repeat' first | exact trivial | assumption | exact Nat.le_of_ble_eq_true rfl | apply And.intro | decide | intro _ | exact rfl))
  repeat' (first | refine tr_seq ?_ | refine tr_block ?_ | refine tr_skip ?_)
  refine tr_cond rfl (fun hc => ?_) (fun hc => ?_)
  · first | exact absurd (show false = true from hc) Bool.false_ne_true | exact absurd (show true = false from hc).symm Bool.false_ne_true
  repeat' (first | refine tr_seq ?_ | refine reg (T := tab) tOk hnt rfl ?_ ?_ | refine regD (T := tab) tOk mixedR hnt rfl (by decide +kernel) ?_ ?_ | refine tr_block ?_ | refine tr_skip ?_)
  · (dsimp only [AllP]; (repeat' first | exact trivial | assumption | exact Nat.le_of_ble_eq_true rfl | apply And.intro | decide | intro _ | exact rfl))
  repeat' (first | refine tr_seq ?_ | refine tr_block ?_ | refine tr_skip ?_)
  refine tr_ret ⟨.inr rfl, _, _, rfl, by (repeat' first | exact trivial | exact Nat.le_of_ble_eq_true rfl | apply And.intro), ?_⟩
  rfl
set_option maxRecDepth 10000 in
set_option maxHeartbeats 2000000 in
theorem one1_fn (i : Int) (b : BitVec 64) (t : Byt) (hi : i = 0 ∨ i = 1) : FnD Tryd.prog 160 [.agg (.es (eVal ⟨1, i, b, t⟩))] (.one (.e (eBytes [2, UInt8.ofNat i.toNat]))) := by
  refine fn_intro (T := tab) tOk Tryd.func160 rfl (by kernel_rfl) (by simp [Tryd.ntmps160]) ?_
  intro X hX
  have hnt : X.nt = 65 := hX
  clear hX
  repeat' (first | refine tr_seq ?_ | refine reg (T := tab) tOk hnt rfl ?_ ?_ | refine regD (T := tab) tOk mixedR hnt rfl (by decide +kernel) ?_ ?_ | refine tr_block ?_ | refine tr_skip ?_)
  · (dsimp only [AllP]; (repeat' first | exact trivial | assumption | exact Nat.le_of_ble_eq_true rfl | apply And.intro | decide | intro _ | exact rfl))
  · (dsimp only [AllP]; (repeat' first | exact trivial | assumption | exact Nat.le_of_ble_eq_true rfl | apply And.intro | decide | intro _ | exact rfl))
  · (dsimp only [AllP]; (repeat' first | exact trivial | assumption | exact Nat.le_of_ble_eq_true rfl | apply And.intro | decide | intro _ | exact rfl))
  · (dsimp only [AllP]; (repeat' first | exact trivial | assumption | exact Nat.le_of_ble_eq_true rfl | apply And.intro | decide | intro _ | exact rfl))
  repeat' (first | refine tr_seq ?_ | refine tr_block ?_ | refine tr_skip ?_)
  refine tr_cond rfl (fun hc => ?_) (fun hc => ?_)
  · repeat' (first | refine tr_seq ?_ | refine reg (T := tab) tOk hnt rfl ?_ ?_ | refine regD (T := tab) tOk mixedR hnt rfl (by decide +kernel) ?_ ?_ | refine tr_block ?_ | refine tr_skip ?_)
    · (dsimp only [AllP]; (repeat' first | exact trivial | assumption | exact Nat.le_of_ble_eq_true rfl | apply And.intro | decide | intro _ | exact rfl))
    repeat' (first | refine tr_seq ?_ | refine tr_block ?_ | refine tr_skip ?_)
    refine tr_ret ⟨.inr rfl, _, _, rfl, by (repeat' first | exact trivial | exact Nat.le_of_ble_eq_true rfl | apply And.intro), ?_⟩
    rcases hi with rfl | rfl <;> rfl
  first | exact absurd (show false = true from hc) Bool.false_ne_true | exact absurd (show true = false from hc).symm Bool.false_ne_true
set_option maxRecDepth 10000 in
set_option maxHeartbeats 2000000 in
theorem one2_fn (i : Int) (b : BitVec 64) (t : Byt) : FnD Tryd.prog 160 [.agg (.es (eVal ⟨2, i, b, t⟩))] (.one (.e (eBytes (3 :: bigF (BitVec.ofInt 64 i + topQ).toNat 8)))) := by
  refine fn_intro (T := tab) tOk Tryd.func160 rfl (by kernel_rfl) (by simp [Tryd.ntmps160]) ?_
  intro X hX
  have hnt : X.nt = 65 := hX
  clear hX
  have h := eight_fn (BitVec.ofInt 64 i + topQ).toNat
  rw [← xorI] at h
  have hl : (eCells (bigF (BitVec.ofInt 64 i + topQ).toNat 8)).length = 8 := by rw [eCells_length, bigF_len]
  repeat' (first | refine tr_seq ?_ | refine reg (T := tab) tOk hnt rfl ?_ ?_ | refine regD (T := tab) tOk mixedR hnt rfl (by decide +kernel) ?_ ?_ | refine tr_block ?_ | refine tr_skip ?_)
  · (dsimp only [AllP]; (repeat' first | exact trivial | assumption | exact Nat.le_of_ble_eq_true rfl | apply And.intro | decide | intro _ | exact rfl))
  · (dsimp only [AllP]; (repeat' first | exact trivial | assumption | exact Nat.le_of_ble_eq_true rfl | apply And.intro | decide | intro _ | exact rfl))
  · (dsimp only [AllP]; (repeat' first | exact trivial | assumption | exact Nat.le_of_ble_eq_true rfl | apply And.intro | decide | intro _ | exact rfl))
  · (dsimp only [AllP]; (repeat' first | exact trivial | assumption | exact Nat.le_of_ble_eq_true rfl | apply And.intro | decide | intro _ | exact rfl))
  repeat' (first | refine tr_seq ?_ | refine tr_block ?_ | refine tr_skip ?_)
  refine tr_cond rfl (fun hc => ?_) (fun hc => ?_)
  · first | exact absurd (show false = true from hc) Bool.false_ne_true | exact absurd (show true = false from hc).symm Bool.false_ne_true
  repeat' (first | refine tr_seq ?_ | refine reg (T := tab) tOk hnt rfl ?_ ?_ | refine regD (T := tab) tOk mixedR hnt rfl (by decide +kernel) ?_ ?_ | refine tr_block ?_ | refine tr_skip ?_)
  · (dsimp only [AllP]; (repeat' first | exact trivial | assumption | exact Nat.le_of_ble_eq_true rfl | apply And.intro | decide | intro _ | exact rfl))
  repeat' (first | refine tr_seq ?_ | refine tr_block ?_ | refine tr_skip ?_)
  refine tr_cond rfl (fun hc => ?_) (fun hc => ?_)
  · repeat' (first | refine tr_seq ?_ | refine tr_block ?_ | refine tr_skip ?_)
    refine tr_region (lex (T := tab) tOk hnt rfl ?_ (call rfl rfl rfl rfl rfl rfl rfl hnt (h) (lex (T := tab) tOk hnt rfl ?_ (Lex.nil _)))) ?_
    · (dsimp only [AllP]; (repeat' first | exact trivial | assumption | exact Nat.le_of_ble_eq_true rfl | apply And.intro | exact eCells_len1 _ _ ‹_› | exact eCells_isByte _ _ ‹_› | (intro hh_; have hg_ := hh_; (try simp only [condT_ff, condF_tt, notE_t, notE_f, Bool.and_eq_true, ne_eq, decide_eq_true_eq, decide_eq_false_iff_not] at hg_)) | intro _ | exact rfl | omega))
    · (dsimp only [AllP]; (repeat' first | exact trivial | assumption | exact Nat.le_of_ble_eq_true rfl | apply And.intro | exact eCells_len1 _ _ ‹_› | exact eCells_isByte _ _ ‹_› | (intro hh_; have hg_ := hh_; (try simp only [condT_ff, condF_tt, notE_t, notE_f, Bool.and_eq_true, ne_eq, decide_eq_true_eq, decide_eq_false_iff_not] at hg_)) | intro _ | exact rfl | omega))
    repeat' (first | refine tr_seq ?_ | refine tr_block ?_ | refine tr_skip ?_)
    refine tr_ret ⟨.inr rfl, _, _, rfl, by (repeat' first | exact trivial | exact Nat.le_of_ble_eq_true rfl | apply And.intro), ?_⟩
    rfl
  first | exact absurd (show false = true from hc) Bool.false_ne_true | exact absurd (show true = false from hc).symm Bool.false_ne_true
set_option maxRecDepth 10000 in
set_option maxHeartbeats 2000000 in
theorem one3_fn (i : Int) (b : BitVec 64) (t : Byt) : FnD Tryd.prog 160 [.agg (.es (eVal ⟨3, i, b, t⟩))] (.one (.e (eBytes (4 :: bigF (tnF b).toNat 8)))) := by
  refine fn_intro (T := tab) tOk Tryd.func160 rfl (by kernel_rfl) (by simp [Tryd.ntmps160]) ?_
  intro X hX
  have hnt : X.nt = 65 := hX
  clear hX
  have h0 := turned_fn b
  have h := eight_fn (tnF b).toNat
  have hl : (eCells (bigF (tnF b).toNat 8)).length = 8 := by rw [eCells_length, bigF_len]
  repeat' (first | refine tr_seq ?_ | refine reg (T := tab) tOk hnt rfl ?_ ?_ | refine regD (T := tab) tOk mixedR hnt rfl (by decide +kernel) ?_ ?_ | refine tr_block ?_ | refine tr_skip ?_)
  · (dsimp only [AllP]; (repeat' first | exact trivial | assumption | exact Nat.le_of_ble_eq_true rfl | apply And.intro | decide | intro _ | exact rfl))
  · (dsimp only [AllP]; (repeat' first | exact trivial | assumption | exact Nat.le_of_ble_eq_true rfl | apply And.intro | decide | intro _ | exact rfl))
  · (dsimp only [AllP]; (repeat' first | exact trivial | assumption | exact Nat.le_of_ble_eq_true rfl | apply And.intro | decide | intro _ | exact rfl))
  · (dsimp only [AllP]; (repeat' first | exact trivial | assumption | exact Nat.le_of_ble_eq_true rfl | apply And.intro | decide | intro _ | exact rfl))
  repeat' (first | refine tr_seq ?_ | refine tr_block ?_ | refine tr_skip ?_)
  refine tr_cond rfl (fun hc => ?_) (fun hc => ?_)
  · first | exact absurd (show false = true from hc) Bool.false_ne_true | exact absurd (show true = false from hc).symm Bool.false_ne_true
  repeat' (first | refine tr_seq ?_ | refine reg (T := tab) tOk hnt rfl ?_ ?_ | refine regD (T := tab) tOk mixedR hnt rfl (by decide +kernel) ?_ ?_ | refine tr_block ?_ | refine tr_skip ?_)
  · (dsimp only [AllP]; (repeat' first | exact trivial | assumption | exact Nat.le_of_ble_eq_true rfl | apply And.intro | decide | intro _ | exact rfl))
  repeat' (first | refine tr_seq ?_ | refine tr_block ?_ | refine tr_skip ?_)
  refine tr_cond rfl (fun hc => ?_) (fun hc => ?_)
  · first | exact absurd (show false = true from hc) Bool.false_ne_true | exact absurd (show true = false from hc).symm Bool.false_ne_true
  repeat' (first | refine tr_seq ?_ | refine reg (T := tab) tOk hnt rfl ?_ ?_ | refine regD (T := tab) tOk mixedR hnt rfl (by decide +kernel) ?_ ?_ | refine tr_block ?_ | refine tr_skip ?_)
  · (dsimp only [AllP]; (repeat' first | exact trivial | assumption | exact Nat.le_of_ble_eq_true rfl | apply And.intro | decide | intro _ | exact rfl))
  repeat' (first | refine tr_seq ?_ | refine tr_block ?_ | refine tr_skip ?_)
  refine tr_cond rfl (fun hc => ?_) (fun hc => ?_)
  · repeat' (first | refine tr_seq ?_ | refine tr_block ?_ | refine tr_skip ?_)
    refine tr_region (lex (T := tab) tOk hnt rfl ?_ (call rfl rfl rfl rfl rfl rfl rfl hnt (h0) (lex (T := tab) tOk hnt rfl ?_ (call rfl rfl rfl rfl rfl rfl rfl hnt (h) (lex (T := tab) tOk hnt rfl ?_ (Lex.nil _)))))) ?_
    · (dsimp only [AllP]; (repeat' first | exact trivial | assumption | exact Nat.le_of_ble_eq_true rfl | apply And.intro | exact eCells_len1 _ _ ‹_› | exact eCells_isByte _ _ ‹_› | (intro hh_; have hg_ := hh_; (try simp only [condT_ff, condF_tt, notE_t, notE_f, Bool.and_eq_true, ne_eq, decide_eq_true_eq, decide_eq_false_iff_not] at hg_)) | intro _ | exact rfl | omega))
    · (dsimp only [AllP]; (repeat' first | exact trivial | assumption | exact Nat.le_of_ble_eq_true rfl | apply And.intro | exact eCells_len1 _ _ ‹_› | exact eCells_isByte _ _ ‹_› | (intro hh_; have hg_ := hh_; (try simp only [condT_ff, condF_tt, notE_t, notE_f, Bool.and_eq_true, ne_eq, decide_eq_true_eq, decide_eq_false_iff_not] at hg_)) | intro _ | exact rfl | omega))
    · (dsimp only [AllP]; (repeat' first | exact trivial | assumption | exact Nat.le_of_ble_eq_true rfl | apply And.intro | exact eCells_len1 _ _ ‹_› | exact eCells_isByte _ _ ‹_› | (intro hh_; have hg_ := hh_; (try simp only [condT_ff, condF_tt, notE_t, notE_f, Bool.and_eq_true, ne_eq, decide_eq_true_eq, decide_eq_false_iff_not] at hg_)) | intro _ | exact rfl | omega))
    repeat' (first | refine tr_seq ?_ | refine tr_block ?_ | refine tr_skip ?_)
    refine tr_ret ⟨.inr rfl, _, _, rfl, by (repeat' first | exact trivial | exact Nat.le_of_ble_eq_true rfl | apply And.intro), ?_⟩
    rfl
  first | exact absurd (show false = true from hc) Bool.false_ne_true | exact absurd (show true = false from hc).symm Bool.false_ne_true
set_option maxRecDepth 10000 in
set_option maxHeartbeats 2000000 in
theorem one4_fn (i : Int) (b : BitVec 64) (t : Byt) (ht : t.length ≤ 40) : FnD Tryd.prog 160 [.agg (.es (eVal ⟨4, i, b, t⟩))] (.one (.e (eBytes (5 :: (escB t ++ [0, 1]))))) := by
  refine fn_intro (T := tab) tOk Tryd.func160 rfl (by kernel_rfl) (by simp [Tryd.ntmps160]) ?_
  intro X hX
  have hnt : X.nt = 65 := hX
  clear hX
  have hl : (strB t).size = t.length := strB_size t
  repeat' (first | refine tr_seq ?_ | refine reg (T := tab) tOk hnt rfl ?_ ?_ | refine regD (T := tab) tOk mixedR hnt rfl (by decide +kernel) ?_ ?_ | refine tr_block ?_ | refine tr_skip ?_)
  · (dsimp only [AllP]; (repeat' first | exact trivial | assumption | exact Nat.le_of_ble_eq_true rfl | apply And.intro | decide | intro _ | exact rfl))
  · (dsimp only [AllP]; (repeat' first | exact trivial | assumption | exact Nat.le_of_ble_eq_true rfl | apply And.intro | decide | intro _ | exact rfl))
  · (dsimp only [AllP]; (repeat' first | exact trivial | assumption | exact Nat.le_of_ble_eq_true rfl | apply And.intro | decide | intro _ | exact rfl))
  · (dsimp only [AllP]; (repeat' first | exact trivial | assumption | exact Nat.le_of_ble_eq_true rfl | apply And.intro | decide | intro _ | exact rfl))
  repeat' (first | refine tr_seq ?_ | refine tr_block ?_ | refine tr_skip ?_)
  refine tr_cond rfl (fun hc => ?_) (fun hc => ?_)
  · first | exact absurd (show false = true from hc) Bool.false_ne_true | exact absurd (show true = false from hc).symm Bool.false_ne_true
  repeat' (first | refine tr_seq ?_ | refine reg (T := tab) tOk hnt rfl ?_ ?_ | refine regD (T := tab) tOk mixedR hnt rfl (by decide +kernel) ?_ ?_ | refine tr_block ?_ | refine tr_skip ?_)
  · (dsimp only [AllP]; (repeat' first | exact trivial | assumption | exact Nat.le_of_ble_eq_true rfl | apply And.intro | decide | intro _ | exact rfl))
  repeat' (first | refine tr_seq ?_ | refine tr_block ?_ | refine tr_skip ?_)
  refine tr_cond rfl (fun hc => ?_) (fun hc => ?_)
  · first | exact absurd (show false = true from hc) Bool.false_ne_true | exact absurd (show true = false from hc).symm Bool.false_ne_true
  repeat' (first | refine tr_seq ?_ | refine reg (T := tab) tOk hnt rfl ?_ ?_ | refine regD (T := tab) tOk mixedR hnt rfl (by decide +kernel) ?_ ?_ | refine tr_block ?_ | refine tr_skip ?_)
  · (dsimp only [AllP]; (repeat' first | exact trivial | assumption | exact Nat.le_of_ble_eq_true rfl | apply And.intro | decide | intro _ | exact rfl))
  repeat' (first | refine tr_seq ?_ | refine tr_block ?_ | refine tr_skip ?_)
  refine tr_cond rfl (fun hc => ?_) (fun hc => ?_)
  · first | exact absurd (show false = true from hc) Bool.false_ne_true | exact absurd (show true = false from hc).symm Bool.false_ne_true
  repeat' (first | refine tr_seq ?_ | refine reg (T := tab) tOk hnt rfl ?_ ?_ | refine regD (T := tab) tOk mixedR hnt rfl (by decide +kernel) ?_ ?_ | refine tr_block ?_ | refine tr_skip ?_)
  · (dsimp only [AllP]; (repeat' first | exact trivial | assumption | exact Nat.le_of_ble_eq_true rfl | apply And.intro | decide | intro _ | exact rfl))
  repeat' (first | refine tr_seq ?_ | refine tr_block ?_ | refine tr_skip ?_)
  refine tr_cond rfl (fun hc => ?_) (fun hc => ?_)
  · repeat' (first | refine tr_seq ?_ | refine reg (T := tab) tOk hnt rfl ?_ ?_ | refine regD (T := tab) tOk mixedR hnt rfl (by decide +kernel) ?_ ?_ | refine tr_block ?_ | refine tr_skip ?_)
    · (dsimp only [AllP]; (repeat' first | exact trivial | assumption | exact Nat.le_of_ble_eq_true rfl | apply And.intro | decide | intro _ | exact rfl))
    repeat' (first | refine tr_seq ?_ | refine tr_block ?_ | refine tr_skip ?_)
    refine tr_loop (σ := Nat) (fun j => St.of [(1, .one (.ptr 1 0 0)), (3, .one (.own 9 0)), (41, .one (.e (eI ((strB t).size : Int)))), (42, .one (.e (eI (j : Int))))] [(1, ⟨0, .box (.es (eVal ⟨4, i, b, t⟩)), 0⟩), (9, ⟨0, .row 1 (eCells (5 :: escB (t.take j))), 0⟩)]) (fun j => j ≤ t.length) (fun j => t.length - j) (0) (le_of (ad := []) (by refine ⟨?_, ?_, ?_, ?_, trivial⟩ <;> first | exact trivial | rfl | exact ⟨rfl, rfl⟩ | exact ⟨rfl, rfl, rfl⟩ | exact ⟨rfl, rfl, rfl, rfl⟩ | exact ⟨rfl, rfl, rfl, rfl, rfl⟩ | exact congrArg (fun z : Int => E.v (.int .i64 z)) (wrap64_id (by omega) (by omega))) (memOk_box rfl rfl rfl (memOk_row rfl rfl rfl trivial))) (Nat.zero_le _) ?_
    rintro j jl
    repeat' (first | refine tr_seq ?_ | refine reg (T := tab) tOk hnt rfl ?_ ?_ | refine regD (T := tab) tOk mixedR hnt rfl (by decide +kernel) ?_ ?_ | refine tr_block ?_ | refine tr_skip ?_)
    · (dsimp only [AllP]; (repeat' first | exact trivial | assumption | exact Nat.le_of_ble_eq_true rfl | apply And.intro | decide | intro _ | exact rfl))
    repeat' (first | refine tr_seq ?_ | refine tr_block ?_ | refine tr_skip ?_)
    refine tr_cond rfl (fun hc => ?_) (fun hc => ?_)
    · simp only [condT_tt, condT_ff, condF_tt, condF_ff, notE_t, notE_f, decide_eq_true_eq, decide_eq_false_iff_not] at hc
      (try simp only [hl] at hc)
      (try simp only [condT_tt, condT_ff, condF_tt, condF_ff, notE_t, notE_f, decide_eq_true_eq, decide_eq_false_iff_not] at hc)
      have hlt : j < t.length := by omega
      have gx : (strB t).data.toList.getD (Int.toNat (j : Int)) 0 = t.getD j 0 := rfl
      have hes := escB_app (t.take j) (t.getD j 0)
      rw [← take_snocB t hlt] at hes
      have hel := escB_len (t.take j)
      rw [List.length_take] at hel
      have hcl : (eCells (5 :: escB (t.take j))).length = (escB (t.take j)).length + 1 := by rw [eCells_length, List.length_cons]
      have hap1 : eCells (5 :: escB (t.take j)) ++ [[E.v (.int .u8 (((eVal ⟨4, i, b, t⟩).getD (0 + 3) E.dflt).str.data.toList.getD (Int.toNat (j : Int)) 0).toNat)]] = eCells (5 :: (escB (t.take j) ++ [t.getD j 0])) := by
        rw [← List.cons_append, ← eCells_append]
        rfl
      have hcl1 : (eCells (5 :: (escB (t.take j) ++ [t.getD j 0]))).length = (escB (t.take j)).length + 2 := by rw [eCells_length, List.length_cons, List.length_append]; rfl
      repeat' (first | refine tr_seq ?_ | refine tr_block ?_ | refine tr_skip ?_)
      first | refine reg (T := tab) tOk hnt rfl ?_ ?_ | refine regD (T := tab) tOk mixedR hnt rfl (by decide +kernel) ?_ ?_
      · (dsimp only [AllP]; (repeat' first | exact trivial | assumption | exact Nat.le_of_ble_eq_true rfl | apply And.intro | exact eCells_len1 _ _ ‹_› | exact eCells_isByte _ _ ‹_› | (intro hh_; have hg_ := hh_; (try simp only [condT_ff, condF_tt, notE_t, notE_f, Bool.and_eq_true, ne_eq, decide_eq_true_eq, decide_eq_false_iff_not] at hg_)) | intro _ | exact rfl | omega))
      repeat' (first | refine tr_seq ?_ | refine tr_block ?_ | refine tr_skip ?_)
      first | refine reg (T := tab) tOk hnt rfl ?_ ?_ | refine regD (T := tab) tOk mixedR hnt rfl (by decide +kernel) ?_ ?_
      · (dsimp only [AllP]; (repeat' first | exact trivial | assumption | exact Nat.le_of_ble_eq_true rfl | apply And.intro | exact eCells_len1 _ _ ‹_› | exact eCells_isByte _ _ ‹_› | (intro hh_; have hg_ := hh_; (try simp only [condT_ff, condF_tt, notE_t, notE_f, Bool.and_eq_true, ne_eq, decide_eq_true_eq, decide_eq_false_iff_not] at hg_)) | intro _ | exact rfl | omega))
        all_goals first | (show (eCells _).length + 1 ≤ maxLen; unfold maxLen; omega) | (show ((eCells _).length + 1) * 1 ≤ _; omega)
      rw [hap1]
      repeat' (first | refine tr_seq ?_ | refine tr_block ?_ | refine tr_skip ?_)
      first | refine reg (T := tab) tOk hnt rfl ?_ ?_ | refine regD (T := tab) tOk mixedR hnt rfl (by decide +kernel) ?_ ?_
      · (dsimp only [AllP]; (repeat' first | exact trivial | assumption | exact Nat.le_of_ble_eq_true rfl | apply And.intro | exact eCells_len1 _ _ ‹_› | exact eCells_isByte _ _ ‹_› | (intro hh_; have hg_ := hh_; (try simp only [condT_ff, condF_tt, notE_t, notE_f, Bool.and_eq_true, ne_eq, decide_eq_true_eq, decide_eq_false_iff_not] at hg_)) | intro _ | exact rfl | omega))
      repeat' (first | refine tr_seq ?_ | refine tr_block ?_ | refine tr_skip ?_)
      refine tr_cond rfl (fun hc => ?_) (fun hc => ?_)
      · have hc : decide (((t.getD j 0).toNat : Int) = 0) = true := hc
        have hc := of_decide_eq_true hc
        have hcz : t.getD j 0 = 0 := UInt8.toNat_inj.1 (by show (t.getD j 0).toNat = 0; omega)
        rw [if_pos hcz] at hes
        have hap2 : eCells (5 :: (escB (t.take j) ++ [t.getD j 0])) ++ [[E.v (.int .u8 255)]] = eCells (5 :: escB (t.take (j + 1))) := by
          rw [hes, hcz]
          have : eCells [255] = [[E.v (.int .u8 255)]] := rfl
          rw [← this, eCells_append, List.cons_append, List.append_assoc]
          rfl
        repeat' (first | refine tr_seq ?_ | refine tr_block ?_ | refine tr_skip ?_)
        first | refine reg (T := tab) tOk hnt rfl ?_ ?_ | refine regD (T := tab) tOk mixedR hnt rfl (by decide +kernel) ?_ ?_
        · (dsimp only [AllP]; (repeat' first | exact trivial | assumption | exact Nat.le_of_ble_eq_true rfl | apply And.intro | exact eCells_len1 _ _ ‹_› | exact eCells_isByte _ _ ‹_› | (intro hh_; have hg_ := hh_; (try simp only [condT_ff, condF_tt, notE_t, notE_f, Bool.and_eq_true, ne_eq, decide_eq_true_eq, decide_eq_false_iff_not] at hg_)) | intro _ | exact rfl | omega))
          all_goals first | (show (eCells _).length + 1 ≤ maxLen; unfold maxLen; omega) | (show ((eCells _).length + 1) * 1 ≤ _; omega)
        repeat' (first | refine tr_seq ?_ | refine reg (T := tab) tOk hnt rfl ?_ ?_ | refine regD (T := tab) tOk mixedR hnt rfl (by decide +kernel) ?_ ?_ | refine tr_block ?_ | refine tr_skip ?_)
        · (dsimp only [AllP]; (repeat' first | exact trivial | assumption | exact Nat.le_of_ble_eq_true rfl | apply And.intro | decide | intro _ | exact rfl))
        refine ⟨j + 1, (by omega), by omega, le_of (ad := []) (by refine ⟨?_, ?_, ?_, ?_, trivial⟩ <;> first | exact trivial | rfl | exact ⟨rfl, rfl⟩ | exact ⟨rfl, rfl, rfl⟩ | exact ⟨rfl, rfl, rfl, rfl⟩ | exact ⟨rfl, rfl, rfl, rfl, rfl⟩ | exact congrArg (fun z : Int => E.v (.int .i64 z)) (wrap64_id (by omega) (by omega))) (memOk_box rfl rfl rfl (memOk_row rfl rfl hap2 trivial))⟩
      have hc : decide (((t.getD j 0).toNat : Int) = 0) = false := hc
      have hc := of_decide_eq_false hc
      have hcz : ¬ t.getD j 0 = 0 := fun h => hc (by rw [h]; rfl)
      rw [if_neg hcz] at hes
      rw [← hes]
      repeat' (first | refine tr_seq ?_ | refine reg (T := tab) tOk hnt rfl ?_ ?_ | refine regD (T := tab) tOk mixedR hnt rfl (by decide +kernel) ?_ ?_ | refine tr_block ?_ | refine tr_skip ?_)
      · (dsimp only [AllP]; (repeat' first | exact trivial | assumption | exact Nat.le_of_ble_eq_true rfl | apply And.intro | decide | intro _ | exact rfl))
      refine ⟨j + 1, (by omega), by omega, le_of (ad := []) (by refine ⟨?_, ?_, ?_, ?_, trivial⟩ <;> first | exact trivial | rfl | exact ⟨rfl, rfl⟩ | exact ⟨rfl, rfl, rfl⟩ | exact ⟨rfl, rfl, rfl, rfl⟩ | exact ⟨rfl, rfl, rfl, rfl, rfl⟩ | exact congrArg (fun z : Int => E.v (.int .i64 z)) (wrap64_id (by omega) (by omega))) (memOk_box rfl rfl rfl (memOk_row rfl rfl rfl trivial))⟩
    simp only [condT_tt, condT_ff, condF_tt, condF_ff, notE_t, notE_f, decide_eq_true_eq, decide_eq_false_iff_not] at hc
    (try simp only [hl] at hc)
    (try simp only [condT_tt, condT_ff, condF_tt, condF_ff, notE_t, notE_f, decide_eq_true_eq, decide_eq_false_iff_not] at hc)
    refine tr_exit ?_
    rw [List.take_of_length_le (by omega)]
    have hel := escB_len t
    have hcl : (eCells (5 :: escB t)).length = (escB t).length + 1 := by rw [eCells_length, List.length_cons]
    repeat' (first | refine tr_seq ?_ | refine tr_block ?_ | refine tr_skip ?_)
    first | refine reg (T := tab) tOk hnt rfl ?_ ?_ | refine regD (T := tab) tOk mixedR hnt rfl (by decide +kernel) ?_ ?_
    · (dsimp only [AllP]; (repeat' first | exact trivial | assumption | exact Nat.le_of_ble_eq_true rfl | apply And.intro | exact eCells_len1 _ _ ‹_› | exact eCells_isByte _ _ ‹_› | (intro hh_; have hg_ := hh_; (try simp only [condT_ff, condF_tt, notE_t, notE_f, Bool.and_eq_true, ne_eq, decide_eq_true_eq, decide_eq_false_iff_not] at hg_)) | intro _ | exact rfl | omega))
      all_goals first | (show (eCells _).length + 2 ≤ maxLen; unfold maxLen; omega) | (show ((eCells _).length + 2) * 1 ≤ _; omega)
    repeat' (first | refine tr_seq ?_ | refine tr_block ?_ | refine tr_skip ?_)
    refine tr_ret ⟨.inr rfl, _, _, rfl, by (repeat' first | exact trivial | exact Nat.le_of_ble_eq_true rfl | apply And.intro), ?_⟩
    have : eCells [0, 1] = [[E.v (.int .u8 0)], [E.v (.int .u8 1)]] := rfl
    rw [← List.cons_append]
    unfold eBytes
    rw [← eCells_append, this]
    rfl
  first | exact absurd (show false = true from hc) Bool.false_ne_true | exact absurd (show true = false from hc).symm Bool.false_ne_true
theorem one_fn (v : Val) (hc : chk v = 0) : FnD Tryd.prog 160 [.agg (.es (eVal v))] (.one (.e (eBytes (oneB v)))) := by
  obtain ⟨⟨k0, k4⟩, hl, hb⟩ := chk_parts hc
  obtain ⟨k, i, b, t⟩ := v
  dsimp only at k0 k4 hl hb
  have hk : k = 0 ∨ k = 1 ∨ k = 2 ∨ k = 3 ∨ k = 4 := by omega
  rcases hk with rfl | rfl | rfl | rfl | rfl
  · exact one0_fn i b t
  · exact one1_fn i b t (hb rfl)
  · exact one2_fn i b t
  · exact one3_fn i b t
  · exact one4_fn i b t hl
end Go.Proofs.YtphaholcndhonaaDoor
namespace Go.Proofs.YtphaholcndhonaaDoor
open Go Go.RowKit Go.Proofs.YtphaholcndhonaaDoor.Ab
set_option linter.unusedSimpArgs false
set_option linter.unusedVariables false

/-! ### strings.ReplaceAll at a byte -/
def fsF : List Val → Int
  | [] => 0
  | v :: r => if chk v ≠ 0 then chk v else fsF r
end Go.Proofs.YtphaholcndhonaaDoor
namespace Go.Proofs.YtphaholcndhonaaDoor
open Go Go.RowKit Go.Proofs.YtphaholcndhonaaDoor.Ab
set_option linter.unusedSimpArgs false
set_option linter.unusedVariables false

def clB (d : Int) (i : Nat) (l : List UInt8) : List UInt8 := l.map fun c => if dnB d i = true then flB c else c
def encB (d : Int) : Nat → List Val → List UInt8
  | _, [] => []
  | i, v :: r => clB d i (oneB v) ++ encB d (i + 1) r
def encF (r : List Val) (d : Int) : List UInt8 × Int := if 5 < r.length then ([], 1) else if fsF r ≠ 0 then ([], fsF r) else (encB d 0 r, 0)
def rB (r : List UInt8 × Int) : D := .tup [(false, .es [eBytes r.1]), (false, .es [eI r.2])]
theorem clB_len (d : Int) (i : Nat) (l : List UInt8) : (clB d i l).length = l.length := List.length_map ..
theorem clB_succ (d : Int) (i : Nat) (l : List UInt8) {j : Nat} (h : j < l.length) : clB d i (l.take (j + 1)) = clB d i (l.take j) ++ [if dnB d i = true then flB (l.getD j 0) else l.getD j 0] := by
  unfold clB
  rw [take_snocB l h, List.map_append]
  rfl
theorem oneB_len {v : Val} (h : chk v = 0) : (oneB v).length ≤ 83 := by
  obtain ⟨_, hl, _⟩ := chk_parts h
  have := escB_len v.t
  unfold oneB
  split
  · exact Nat.le_of_ble_eq_true rfl
  split
  · rw [List.length_cons, bigF_len]; decide
  split
  · rw [List.length_cons, bigF_len]; decide
  split
  · rw [List.length_cons, List.length_append]
    show _ + 2 + 1 ≤ _
    omega
  · decide
theorem fsF_all : ∀ {r : List Val}, fsF r = 0 → ∀ v ∈ r, chk v = 0
  | [], _, v, hv => nomatch hv
  | a :: r, h, v, hv => by
    rw [fsF] at h
    split at h
    · rename_i h1; exact absurd h h1
    · rename_i h1
      rcases List.mem_cons.1 hv with rfl | hv
      · exact Classical.not_not.1 h1
      · exact fsF_all h v hv
set_option maxRecDepth 10000 in
set_option maxHeartbeats 2000000 in
theorem Encode_fn (r : List Val) (d : Int) : FnG Tryd.prog 130 gK [.one (.e (eRow r)), .one (.e (eI d))] (rB (encF r d)) := by
  refine fn_introG (T := tab) tOk Tryd.func130 rfl (by kernel_rfl) (by simp [Tryd.ntmps130]) ?_
  intro X hX
  have hnt : X.nt = 48 := hX
  clear hX
  have hml : (r.map eVal).length = r.length := List.length_map ..
  unfold encF
  repeat' (first | refine tr_seq ?_ | refine reg (T := tab) tOk hnt rfl ?_ ?_ | refine regD (T := tab) tOk mixedR hnt rfl (by decide +kernel) ?_ ?_ | refine tr_block ?_ | refine tr_skip ?_)
  · (dsimp only [AllP]; (repeat' first | exact trivial | assumption | exact Nat.le_of_ble_eq_true rfl | apply And.intro | decide | intro _ | exact rfl))
  · (dsimp only [AllP]; (repeat' first | exact trivial | assumption | exact Nat.le_of_ble_eq_true rfl | apply And.intro | decide | intro _ | exact rfl))
  repeat' (first | refine tr_seq ?_ | refine tr_block ?_ | refine tr_skip ?_)
  refine tr_cond rfl (fun hc => ?_) (fun hc => ?_)
  · simp only [condT_tt, condT_ff, condF_tt, condF_ff, notE_t, notE_f, decide_eq_true_eq, decide_eq_false_iff_not] at hc
    (try simp only [hml] at hc)
    (try simp only [condT_tt, condT_ff, condF_tt, condF_ff, notE_t, notE_f, decide_eq_true_eq, decide_eq_false_iff_not] at hc)
    rw [if_pos (by omega)]
    repeat' (first | refine tr_seq ?_ | refine reg (T := tab) tOk hnt rfl ?_ ?_ | refine regD (T := tab) tOk mixedR hnt rfl (by decide +kernel) ?_ ?_ | refine tr_block ?_ | refine tr_skip ?_)
    · (dsimp only [AllP]; (repeat' first | exact trivial | assumption | exact Nat.le_of_ble_eq_true rfl | apply And.intro | decide | intro _ | exact rfl))
    refine tr_ret ⟨.inr rfl, _, _, rfl, by (repeat' first | exact trivial | exact Nat.le_of_ble_eq_true rfl | apply And.intro), ?_⟩
    exact rfl
  simp only [condT_tt, condT_ff, condF_tt, condF_ff, notE_t, notE_f, decide_eq_true_eq, decide_eq_false_iff_not] at hc
  (try simp only [hml] at hc)
  (try simp only [condT_tt, condT_ff, condF_tt, condF_ff, notE_t, notE_f, decide_eq_true_eq, decide_eq_false_iff_not] at hc)
  have hl5 : r.length ≤ 5 := by omega
  rw [if_neg (by omega)]
  repeat' (first | refine tr_seq ?_ | refine reg (T := tab) tOk hnt rfl ?_ ?_ | refine regD (T := tab) tOk mixedR hnt rfl (by decide +kernel) ?_ ?_ | refine tr_block ?_ | refine tr_skip ?_)
  · (dsimp only [AllP]; (repeat' first | exact trivial | assumption | exact Nat.le_of_ble_eq_true rfl | apply And.intro | decide | intro _ | exact rfl))
  · (dsimp only [AllP]; (repeat' first | exact trivial | assumption | exact Nat.le_of_ble_eq_true rfl | apply And.intro | decide | intro _ | exact rfl))
  repeat' (first | refine tr_seq ?_ | refine tr_block ?_ | refine tr_skip ?_)
  refine tr_loop (σ := Nat × List UInt8) (fun y => St.of [(1, .one (.e (eI d))), (6, .one (.own 44 0)), (15, .one (.e (eRow r))), (16, .one (.e (eI ((r.map eVal).length : Int)))), (17, .one (.e (eI (y.1 : Int)))), ((1000000 + 0), .one (.eptr fsE)), ((1000000 + 1), .one (.eptr acE))] [(44, ⟨0, .row 1 (eCells y.2), 0⟩)]) (fun y => y.2 ++ encB d y.1 (r.drop y.1) = encB d 0 r ∧ fsF (r.drop y.1) = fsF r ∧ y.1 ≤ r.length ∧ y.2.length ≤ 83 * y.1) (fun y => r.length - y.1) ((0, [])) (le_of (ad := [44]) (by refine ⟨?_, ?_, ?_, ?_, ?_, ?_, ?_, trivial⟩ <;> first | exact trivial | rfl | exact ⟨rfl, rfl⟩ | exact ⟨rfl, rfl, rfl⟩ | exact ⟨rfl, rfl, rfl, rfl⟩ | exact ⟨rfl, rfl, rfl, rfl, rfl⟩ | exact congrArg (fun z : Int => E.v (.int .i64 z)) (wrap64_id (by omega) (by omega))) (memOk_new rfl (by decide) trivial)) ⟨rfl, rfl, Nat.zero_le _, Nat.zero_le _⟩ ?_
  rintro ⟨i, acc⟩ ⟨ha, hi, il, hal⟩
  dsimp only at ha hi il hal ⊢
  repeat' (first | refine tr_seq ?_ | refine reg (T := tab) tOk hnt rfl ?_ ?_ | refine regD (T := tab) tOk mixedR hnt rfl (by decide +kernel) ?_ ?_ | refine tr_block ?_ | refine tr_skip ?_)
  · (dsimp only [AllP]; (repeat' first | exact trivial | assumption | exact Nat.le_of_ble_eq_true rfl | apply And.intro | decide | intro _ | exact rfl))
  repeat' (first | refine tr_seq ?_ | refine tr_block ?_ | refine tr_skip ?_)
  refine tr_cond rfl (fun hc => ?_) (fun hc => ?_)
  · simp only [condT_tt, condT_ff, condF_tt, condF_ff, notE_t, notE_f, decide_eq_true_eq, decide_eq_false_iff_not] at hc
    (try simp only [hml] at hc)
    (try simp only [condT_tt, condT_ff, condF_tt, condF_ff, notE_t, notE_f, decide_eq_true_eq, decide_eq_false_iff_not] at hc)
    have hlt : i < r.length := by omega
    have hg := rowGet r i hlt
    rw [drop_getD (d := val0) hlt, fsF] at hi
    rw [drop_getD (d := val0) hlt, encB] at ha
    repeat' (first | refine tr_seq ?_ | refine tr_block ?_ | refine tr_skip ?_)
    first | refine reg (T := tab) tOk hnt rfl ?_ ?_ | refine regD (T := tab) tOk mixedR hnt rfl (by decide +kernel) ?_ ?_
    · rw [Int.toNat_natCast, hg, hml]
      (dsimp only [AllP]; (repeat' first | exact trivial | assumption | exact Nat.le_of_ble_eq_true rfl | apply And.intro | exact eCells_len1 _ _ ‹_› | exact eCells_isByte _ _ ‹_› | (intro hh_; have hg_ := hh_; (try simp only [condT_ff, condF_tt, notE_t, notE_f, Bool.and_eq_true, ne_eq, decide_eq_true_eq, decide_eq_false_iff_not] at hg_)) | intro _ | exact rfl | omega))
    rw [Int.toNat_natCast, hg]
    have hvv : r.getD i ⟨0, 0, 0, []⟩ = r.getD i val0 := rfl
    rw [hvv]
    generalize r.getD i val0 = v at *
    have h3 := check_fn v
    have hv4 : List.take 4 (List.drop 0 (eVal v)) = eVal v := rfl
    repeat' (first | refine tr_seq ?_ | refine tr_block ?_ | refine tr_skip ?_)
    refine tr_region (lex (T := tab) tOk hnt rfl ?_ (callV rfl rfl rfl rfl rfl rfl rfl hnt rfl (h3) (lex (T := tab) tOk hnt rfl ?_ (Lex.nil _)))) ?_
    · (dsimp only [AllP]; (repeat' first | exact trivial | assumption | exact Nat.le_of_ble_eq_true rfl | apply And.intro | exact eCells_len1 _ _ ‹_› | exact eCells_isByte _ _ ‹_› | (intro hh_; have hg_ := hh_; (try simp only [condT_ff, condF_tt, notE_t, notE_f, Bool.and_eq_true, ne_eq, decide_eq_true_eq, decide_eq_false_iff_not] at hg_)) | intro _ | exact rfl | omega))
    · (dsimp only [AllP]; (repeat' first | exact trivial | assumption | exact Nat.le_of_ble_eq_true rfl | apply And.intro | exact eCells_len1 _ _ ‹_› | exact eCells_isByte _ _ ‹_› | (intro hh_; have hg_ := hh_; (try simp only [condT_ff, condF_tt, notE_t, notE_f, Bool.and_eq_true, ne_eq, decide_eq_true_eq, decide_eq_false_iff_not] at hg_)) | intro _ | exact rfl | omega))
    repeat' (first | refine tr_seq ?_ | refine reg (T := tab) tOk hnt rfl ?_ ?_ | refine regD (T := tab) tOk mixedR hnt rfl (by decide +kernel) ?_ ?_ | refine tr_block ?_ | refine tr_skip ?_)
    · (dsimp only [AllP]; (repeat' first | exact trivial | assumption | exact Nat.le_of_ble_eq_true rfl | apply And.intro | decide | intro _ | exact rfl))
    repeat' (first | refine tr_seq ?_ | refine tr_block ?_ | refine tr_skip ?_)
    refine tr_cond rfl (fun hc => ?_) (fun hc => ?_)
    · simp only [condT_tt, condT_ff, condF_tt, condF_ff, notE_t, notE_f, decide_eq_true_eq, decide_eq_false_iff_not] at hc
      rw [if_pos hc] at hi
      rw [← hi, if_pos hc]
      repeat' (first | refine tr_seq ?_ | refine reg (T := tab) tOk hnt rfl ?_ ?_ | refine regD (T := tab) tOk mixedR hnt rfl (by decide +kernel) ?_ ?_ | refine tr_block ?_ | refine tr_skip ?_)
      · (dsimp only [AllP]; (repeat' first | exact trivial | assumption | exact Nat.le_of_ble_eq_true rfl | apply And.intro | decide | intro _ | exact rfl))
      refine tr_ret ⟨.inr rfl, _, _, rfl, by (repeat' first | exact trivial | exact Nat.le_of_ble_eq_true rfl | apply And.intro), ?_⟩
      exact rfl
    simp only [condT_tt, condT_ff, condF_tt, condF_ff, notE_t, notE_f, decide_eq_true_eq, decide_eq_false_iff_not] at hc
    rw [if_neg (not_not_intro hc)] at hi
    have h4 := one_fn v hc
    have hol := oneB_len hc
    repeat' (first | refine tr_seq ?_ | refine tr_block ?_ | refine tr_skip ?_)
    refine tr_region (lex (T := tab) tOk hnt rfl ?_ (call rfl rfl rfl rfl rfl rfl rfl hnt (h4) (lex (T := tab) tOk hnt rfl ?_ (Lex.nil _)))) ?_
    · (dsimp only [AllP]; (repeat' first | exact trivial | assumption | exact Nat.le_of_ble_eq_true rfl | apply And.intro | exact eCells_len1 _ _ ‹_› | exact eCells_isByte _ _ ‹_› | (intro hh_; have hg_ := hh_; (try simp only [condT_ff, condF_tt, notE_t, notE_f, Bool.and_eq_true, ne_eq, decide_eq_true_eq, decide_eq_false_iff_not] at hg_)) | intro _ | exact rfl | omega))
    · (dsimp only [AllP]; (repeat' first | exact trivial | assumption | exact Nat.le_of_ble_eq_true rfl | apply And.intro | exact eCells_len1 _ _ ‹_› | exact eCells_isByte _ _ ‹_› | (intro hh_; have hg_ := hh_; (try simp only [condT_ff, condF_tt, notE_t, notE_f, Bool.and_eq_true, ne_eq, decide_eq_true_eq, decide_eq_false_iff_not] at hg_)) | intro _ | exact rfl | omega))
    repeat' (first | refine tr_seq ?_ | refine tr_block ?_ | refine tr_skip ?_)
    refine tr_loop (σ := Nat) (fun j => St.of [(1, .one (.e (eI d))), (6, .one (.own 44 0)), (7, .one (.e (eI (i : Int)))), (15, .one (.e (eRow r))), (16, .one (.e (eI ((r.map eVal).length : Int)))), (17, .one (.e (eI (i : Int)))), (28, .one (.e (eBytes (oneB v)))), (29, .one (.e (eI ((eCells (oneB v)).length : Int)))), (30, .one (.e (eI (j : Int)))), ((1000000 + 0), .one (.eptr fsE)), ((1000000 + 1), .one (.eptr acE))] [(44, ⟨0, .row 1 (eCells (acc ++ clB d i ((oneB v).take j))), 0⟩)]) (fun j => j ≤ (oneB v).length) (fun j => (oneB v).length - j) (0) (le_of (ad := []) (by refine ⟨?_, ?_, ?_, ?_, ?_, ?_, ?_, ?_, ?_, ?_, ?_, trivial⟩ <;> first | exact trivial | rfl | exact ⟨rfl, rfl⟩ | exact ⟨rfl, rfl, rfl⟩ | exact ⟨rfl, rfl, rfl, rfl⟩ | exact ⟨rfl, rfl, rfl, rfl, rfl⟩ | exact congrArg (fun z : Int => E.v (.int .i64 z)) (wrap64_id (by omega) (by omega))) (memOk_row rfl rfl (by rw [List.take_zero]; exact congrArg eCells (List.append_nil acc).symm) trivial)) (Nat.zero_le _) ?_
    rintro j jl
    repeat' (first | refine tr_seq ?_ | refine reg (T := tab) tOk hnt rfl ?_ ?_ | refine regD (T := tab) tOk mixedR hnt rfl (by decide +kernel) ?_ ?_ | refine tr_block ?_ | refine tr_skip ?_)
    · (dsimp only [AllP]; (repeat' first | exact trivial | assumption | exact Nat.le_of_ble_eq_true rfl | apply And.intro | decide | intro _ | exact rfl))
    repeat' (first | refine tr_seq ?_ | refine tr_block ?_ | refine tr_skip ?_)
    refine tr_cond rfl (fun hc => ?_) (fun hc => ?_)
    · have hc := of_decide_eq_true hc
      rw [eCells_length] at hc
      have hjt : j < (oneB v).length := by omega
      have hrd := rdB (oneB v) j hjt
      have hrl := rdL (oneB v) j hjt
      have hra := rdA (oneB v) j hjt
      have hrc := rdC (oneB v) j hjt
      have hel : (eCells (oneB v)).length = (oneB v).length := eCells_length _
      have hcs := clB_succ d i (oneB v) hjt
      have hrow : (eCells (acc ++ clB d i ((oneB v).take j))).length = acc.length + j := by rw [eCells_length, List.length_append, clB_len, List.length_take]; omega
      have hsh := shr_dn d i (by omega)
      repeat' (first | refine tr_seq ?_ | refine tr_block ?_ | refine tr_skip ?_)
      first | refine reg (T := tab) tOk hnt rfl ?_ ?_ | refine regD (T := tab) tOk mixedR hnt rfl (by decide +kernel) ?_ ?_
      · rw [Int.toNat_natCast, hel]
        (dsimp only [AllP]; (repeat' first | exact trivial | assumption | exact Nat.le_of_ble_eq_true rfl | apply And.intro | exact eCells_len1 _ _ ‹_› | exact eCells_isByte _ _ ‹_› | (intro hh_; have hg_ := hh_; (try simp only [condT_ff, condF_tt, notE_t, notE_f, Bool.and_eq_true, ne_eq, decide_eq_true_eq, decide_eq_false_iff_not] at hg_)) | intro _ | exact rfl | omega))
        all_goals trace_state
      rw [Int.toNat_natCast, hrd]
      repeat' (first | refine tr_seq ?_ | refine tr_block ?_ | refine tr_skip ?_)
      first | refine reg (T := tab) tOk hnt rfl ?_ ?_ | refine regD (T := tab) tOk mixedR hnt rfl (by decide +kernel) ?_ ?_
      · (dsimp only [AllP]; (repeat' first | exact trivial | assumption | exact Nat.le_of_ble_eq_true rfl | apply And.intro | exact eCells_len1 _ _ ‹_› | exact eCells_isByte _ _ ‹_› | (intro hh_; have hg_ := hh_; (try simp only [condT_ff, condF_tt, notE_t, notE_f, Bool.and_eq_true, ne_eq, decide_eq_true_eq, decide_eq_false_iff_not] at hg_)) | intro _ | exact rfl | omega))
        all_goals trace_state
      repeat' (first | refine tr_seq ?_ | refine tr_block ?_ | refine tr_skip ?_)
      refine tr_cond rfl (fun hc => ?_) (fun hc => ?_)
      · have hc : dnB d i = true := hsh.symm.trans hc
        rw [if_pos hc] at hcs
        have hap : eCells (acc ++ clB d i ((oneB v).take j)) ++ [[E.v (.int .u8 ((flB ((oneB v).getD j 0)).toNat : Int))]] = eCells (acc ++ clB d i ((oneB v).take (j + 1))) := by
          rw [hcs, ← List.append_assoc, ← eCells_append (acc ++ clB d i ((oneB v).take j))]
          rfl
        have hfx : IntKind.u8.wrap ((BitVec.ofInt IntKind.u8.bits (if IntKind.u8.signed = true then -1 else IntKind.u8.max) ^^^ BitVec.ofInt IntKind.u8.bits (((oneB v).getD j 0).toNat : Int)).toNat : Int) = ((flB ((oneB v).getD j 0)).toNat : Int) := flB_xor _
        repeat' (first | refine tr_seq ?_ | refine tr_block ?_ | refine tr_skip ?_)
        first | refine reg (T := tab) tOk hnt rfl ?_ ?_ | refine regD (T := tab) tOk mixedR hnt rfl (by decide +kernel) ?_ ?_
        · (dsimp only [AllP]; (repeat' first | exact trivial | assumption | exact Nat.le_of_ble_eq_true rfl | apply And.intro | exact eCells_len1 _ _ ‹_› | exact eCells_isByte _ _ ‹_› | (intro hh_; have hg_ := hh_; (try simp only [condT_ff, condF_tt, notE_t, notE_f, Bool.and_eq_true, ne_eq, decide_eq_true_eq, decide_eq_false_iff_not] at hg_)) | intro _ | exact rfl | omega))
        repeat' (first | refine tr_seq ?_ | refine tr_block ?_ | refine tr_skip ?_)
        first | refine reg (T := tab) tOk hnt rfl ?_ ?_ | refine regD (T := tab) tOk mixedR hnt rfl (by decide +kernel) ?_ ?_
        · rw [hfx]
          (dsimp only [AllP]; (repeat' first | exact trivial | assumption | exact Nat.le_of_ble_eq_true rfl | apply And.intro | exact eCells_len1 _ _ ‹_› | exact eCells_isByte _ _ ‹_› | (intro hh_; have hg_ := hh_; (try simp only [condT_ff, condF_tt, notE_t, notE_f, Bool.and_eq_true, ne_eq, decide_eq_true_eq, decide_eq_false_iff_not] at hg_)) | intro _ | exact rfl | omega))
          all_goals first | (show (eCells _).length + 1 ≤ maxLen; unfold maxLen; omega) | (show ((eCells _).length + 1) * 1 ≤ _; omega)
        rw [hfx, hap]
        repeat' (first | refine tr_seq ?_ | refine reg (T := tab) tOk hnt rfl ?_ ?_ | refine regD (T := tab) tOk mixedR hnt rfl (by decide +kernel) ?_ ?_ | refine tr_block ?_ | refine tr_skip ?_)
        · (dsimp only [AllP]; (repeat' first | exact trivial | assumption | exact Nat.le_of_ble_eq_true rfl | apply And.intro | decide | intro _ | exact rfl))
        refine ⟨j + 1, (by omega), by omega, le_of (ad := []) (by refine ⟨?_, ?_, ?_, ?_, ?_, ?_, ?_, ?_, ?_, ?_, ?_, trivial⟩ <;> first | exact trivial | rfl | exact ⟨rfl, rfl⟩ | exact ⟨rfl, rfl, rfl⟩ | exact ⟨rfl, rfl, rfl, rfl⟩ | exact ⟨rfl, rfl, rfl, rfl, rfl⟩ | exact congrArg (fun z : Int => E.v (.int .i64 z)) (wrap64_id (by omega) (by omega))) (memOk_row rfl rfl rfl trivial)⟩
      have hc : dnB d i = false := hsh.symm.trans hc
      rw [if_neg (by rw [hc]; exact Bool.false_ne_true)] at hcs
      have hap : eCells (acc ++ clB d i ((oneB v).take j)) ++ [[E.v (.int .u8 (((oneB v).getD j 0).toNat : Int))]] = eCells (acc ++ clB d i ((oneB v).take (j + 1))) := by
        rw [hcs, ← List.append_assoc, ← eCells_append (acc ++ clB d i ((oneB v).take j))]
        rfl
      repeat' (first | refine tr_seq ?_ | refine tr_block ?_ | refine tr_skip ?_)
      first | refine reg (T := tab) tOk hnt rfl ?_ ?_ | refine regD (T := tab) tOk mixedR hnt rfl (by decide +kernel) ?_ ?_
      · (dsimp only [AllP]; (repeat' first | exact trivial | assumption | exact Nat.le_of_ble_eq_true rfl | apply And.intro | exact eCells_len1 _ _ ‹_› | exact eCells_isByte _ _ ‹_› | (intro hh_; have hg_ := hh_; (try simp only [condT_ff, condF_tt, notE_t, notE_f, Bool.and_eq_true, ne_eq, decide_eq_true_eq, decide_eq_false_iff_not] at hg_)) | intro _ | exact rfl | omega))
        all_goals first | (show (eCells _).length + 1 ≤ maxLen; unfold maxLen; omega) | (show ((eCells _).length + 1) * 1 ≤ _; omega)
      rw [hap]
      repeat' (first | refine tr_seq ?_ | refine reg (T := tab) tOk hnt rfl ?_ ?_ | refine regD (T := tab) tOk mixedR hnt rfl (by decide +kernel) ?_ ?_ | refine tr_block ?_ | refine tr_skip ?_)
      · (dsimp only [AllP]; (repeat' first | exact trivial | assumption | exact Nat.le_of_ble_eq_true rfl | apply And.intro | decide | intro _ | exact rfl))
      refine ⟨j + 1, (by omega), by omega, le_of (ad := []) (by refine ⟨?_, ?_, ?_, ?_, ?_, ?_, ?_, ?_, ?_, ?_, ?_, trivial⟩ <;> first | exact trivial | rfl | exact ⟨rfl, rfl⟩ | exact ⟨rfl, rfl, rfl⟩ | exact ⟨rfl, rfl, rfl, rfl⟩ | exact ⟨rfl, rfl, rfl, rfl, rfl⟩ | exact congrArg (fun z : Int => E.v (.int .i64 z)) (wrap64_id (by omega) (by omega))) (memOk_row rfl rfl rfl trivial)⟩
    have hc := of_decide_eq_false hc
    rw [eCells_length] at hc
    refine tr_exit ?_
    rw [List.take_of_length_le (by omega)]
    rw [← List.append_assoc] at ha
    repeat' (first | refine tr_seq ?_ | refine reg (T := tab) tOk hnt rfl ?_ ?_ | refine regD (T := tab) tOk mixedR hnt rfl (by decide +kernel) ?_ ?_ | refine tr_block ?_ | refine tr_skip ?_)
    · (dsimp only [AllP]; (repeat' first | exact trivial | assumption | exact Nat.le_of_ble_eq_true rfl | apply And.intro | decide | intro _ | exact rfl))
    refine ⟨(i + 1, acc ++ clB d i (oneB v)), ⟨ha, hi, by dsimp only; omega, by dsimp only; rw [List.length_append, clB_len]; omega⟩, by dsimp only; omega, le_of (ad := []) (by refine ⟨?_, ?_, ?_, ?_, ?_, ?_, ?_, trivial⟩ <;> first | exact trivial | rfl | exact ⟨rfl, rfl⟩ | exact ⟨rfl, rfl, rfl⟩ | exact ⟨rfl, rfl, rfl, rfl⟩ | exact ⟨rfl, rfl, rfl, rfl, rfl⟩ | exact congrArg (fun z : Int => E.v (.int .i64 z)) (wrap64_id (by omega) (by omega))) (memOk_row rfl rfl rfl trivial)⟩
  simp only [condT_tt, condT_ff, condF_tt, condF_ff, notE_t, notE_f, decide_eq_true_eq, decide_eq_false_iff_not] at hc
  (try simp only [hml] at hc)
  (try simp only [condT_tt, condT_ff, condF_tt, condF_ff, notE_t, notE_f, decide_eq_true_eq, decide_eq_false_iff_not] at hc)
  refine tr_exit ?_
  rw [List.drop_eq_nil_of_le (by omega), fsF] at hi
  rw [List.drop_eq_nil_of_le (by omega), encB, List.append_nil] at ha
  rw [if_neg (not_not_intro hi.symm), ← ha]
  repeat' (first | refine tr_seq ?_ | refine reg (T := tab) tOk hnt rfl ?_ ?_ | refine regD (T := tab) tOk mixedR hnt rfl (by decide +kernel) ?_ ?_ | refine tr_block ?_ | refine tr_skip ?_)
  · (dsimp only [AllP]; (repeat' first | exact trivial | assumption | exact Nat.le_of_ble_eq_true rfl | apply And.intro | decide | intro _ | exact rfl))
  repeat' (first | refine tr_seq ?_ | refine tr_block ?_ | refine tr_skip ?_)
  refine tr_ret ⟨.inr rfl, _, _, rfl, by (repeat' first | exact trivial | exact Nat.le_of_ble_eq_true rfl | apply And.intro), ?_⟩
  exact rfl
end Go.Proofs.YtphaholcndhonaaDoor
