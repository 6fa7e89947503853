/- Paths in trees of slots. No condition. -/
import Derived.Test.YtphaholcndhonaaDoorTSlR
namespace Go.Proofs.YtphaholcndhonaaDoor
open Go Go.RowKit Go.Proofs.YtphaholcndhonaaDoor.Ab

def sib (n : Nat) : Nat := if n % 2 = 0 then n + 1 else n - 1
theorem sib_small : ∀ k : Fin 64, IntKind.i64.wrap ((BitVec.ofInt IntKind.i64.bits ((k.val : Nat) : Int) ^^^ BitVec.ofInt IntKind.i64.bits 1).toNat : Int) = ((sib k.val : Nat) : Int) := by decide +kernel
theorem sib_x (n : Nat) (h : n < 64) : IntKind.i64.wrap ((BitVec.ofInt IntKind.i64.bits (n : Int) ^^^ BitVec.ofInt IntKind.i64.bits 1).toNat : Int) = ((sib n : Nat) : Int) := sib_small ⟨n, h⟩
theorem sib_lt {n k : Nat} (h : n < 2 ^ (k + 1)) : sib n < 2 ^ (k + 1) := by
  unfold sib
  rw [Nat.pow_succ] at h ⊢
  split <;> omega
/-- the digests beside the way up -/
def pathL (mode : Int) : Nat → List (List UInt8) → Nat → List (List UInt8)
  | 0, _, _ => []
  | k + 1, row, i => row.getD (sib i) [] :: pathL mode k (pairsN mode row (2 ^ k)) (i / 2)
def pathR (mode : Int) (s : Nat) (row : List (List UInt8)) (i : Nat) : List UInt8 := hT mode s ((row.drop (sib (i / 2 ^ s) * 2 ^ s)).take (2 ^ s))
theorem pairsN_part (mode : Int) (row : List (List UInt8)) {m n N : Nat} (h : m + n ≤ N) : ((pairsN mode row N).drop m).take n = pairsN mode ((row.drop (2 * m)).take (2 * n)) n := by
  rw [show N = m + (N - m) by omega, pairsN_drop, pairsN_take mode _ (by omega)]
  refine pairsN_congr mode _ _ n fun i hi => ?_
  simp [List.getD, List.getElem?_take, hi]
theorem pathR_succ (mode : Int) {s k : Nat} (row : List (List UInt8)) (i : Nat) (hr : row.length = 2 ^ (k + 1)) (hi : i < 2 ^ (k + 1)) (hs : s < k) : pathR mode (s + 1) row i = pathR mode s (pairsN mode row (2 ^ k)) (i / 2) := by
  obtain ⟨d, rfl⟩ : ∃ d, k = s + (d + 1) := ⟨k - s - 1, by omega⟩
  have e1 : i / 2 ^ (s + 1) = i / 2 / 2 ^ s := by rw [Nat.pow_succ, Nat.mul_comm, Nat.div_div_eq_div_mul]
  have hq : i / 2 / 2 ^ s < 2 ^ (d + 1) := by
    rw [Nat.div_lt_iff_lt_mul (Nat.two_pow_pos s), ← Nat.pow_add, Nat.div_lt_iff_lt_mul (by decide), ← Nat.pow_succ]
    rw [show (d + 1 + s).succ = s + (d + 1) + 1 by omega]
    exact hi
  have hx := sib_lt hq
  have hb : sib (i / 2 / 2 ^ s) * 2 ^ s + 2 ^ s ≤ 2 ^ (s + (d + 1)) := by
    rw [← Nat.succ_mul, Nat.pow_add, Nat.mul_comm (2 ^ s)]
    exact Nat.mul_le_mul_right _ hx
  unfold pathR
  rw [e1, pairsN_part mode row hb, ← pairs_hT]
  · congr 2
    · rw [Nat.pow_succ]; omega
    · congr 1
      rw [Nat.pow_succ, ← Nat.mul_assoc, Nat.mul_comm]
  · rw [List.length_take, List.length_drop, hr, Nat.pow_succ 2 (s + (d + 1)), Nat.pow_succ 2 s]
    omega
theorem pathL_eq (mode : Int) : ∀ (k : Nat) (row : List (List UInt8)) (i : Nat), row.length = 2 ^ k → i < 2 ^ k → pathL mode k row i = (List.range k).map fun s => pathR mode s row i
  | 0, _, _, _, _ => rfl
  | k + 1, row, i, hr, hi => by
    rw [List.range_succ_eq_map, List.map_cons, pathL, pathL_eq mode k _ (i / 2) (pairsN_len ..) (by rw [Nat.pow_succ] at hi; omega), List.map_map]
    refine congr (congrArg _ ?_) (List.map_congr_left fun s hs => ?_)
    · unfold pathR
      rw [Nat.pow_zero, Nat.div_one, Nat.mul_one, hT]
      simp [List.getD]
    · exact (pathR_succ mode row i hr hi (List.mem_range.1 hs)).symm
def pathF (mode : Int) (l : List SlotT) (i : Int) : List (List UInt8) × Int :=
  if (leavesF mode l).2 ≠ 0 then ([], (leavesF mode l).2) else if i < 0 ∨ (l.length : Int) ≤ i then ([], 6) else (pathL mode (Nat.log2 l.length) (digL mode l) i.toNat, 0)
theorem orD (i n : Int) : (bif decide (i < 0) then true else decide (n ≤ i)) = decide (i < 0 ∨ n ≤ i) := by
  by_cases h : i < 0 <;> simp [h]
theorem pathF_eq (mode : Int) (l : List SlotT) (i : Int) : pathF mode l i = if slFault mode l ≠ 0 then ([], slFault mode l) else if i < 0 ∨ (l.length : Int) ≤ i then ([], 6) else ((List.range (Nat.log2 l.length)).map fun s => pathR mode s (digL mode l) i.toNat, 0) := by
  unfold pathF
  rw [slFault_eq]
  by_cases h : slFault mode l ≠ 0
  · rw [if_pos h, if_pos h]
  rw [if_neg h, if_neg h]
  split
  · rfl
  obtain ⟨_, _, k, _, hk⟩ := leaves_good ((slFault_eq mode l).trans (Decidable.not_not.1 h))
  rw [hk, Nat.log2_two_pow, pathL_eq mode k _ _ ((digL_len mode l).trans hk) (by omega)]
theorem strNe_self (x : ByteArray) : (!strEq x x) = false := by simp [strEq]
set_option maxRecDepth 10000 in
theorem sameLs_fn (ps : List (List UInt8)) (hb : ps.length ≤ 1000000000) : FnD Tryd.prog 43 [.one (.e (eLists ps)), .one (.e (eLists ps))] (.v (.bool true)) := by
  refine fn_intro (T := tab) tOk Tryd.func43 rfl (by kernel_rfl) (by simp [Tryd.ntmps43]) ?_
  intro X hX
  have hnt : X.nt = 28 := hX
  clear hX
  have hll : (ps.map fun p => [eBytes p]).length = ps.length := List.length_map ..
  repeat' (first | refine tr_seq ?_ | refine reg (T := tab) tOk hnt rfl ?_ ?_ | refine regD (T := tab) tOk mixedR hnt rfl (by decide +kernel) ?_ ?_ | refine tr_block ?_ | refine tr_skip ?_)
  · (dsimp only [AllP]; (repeat' first | exact trivial | assumption | exact Nat.le_of_ble_eq_true rfl | apply And.intro | decide | intro _ | exact rfl))
  · (dsimp only [AllP]; (repeat' first | exact trivial | assumption | exact Nat.le_of_ble_eq_true rfl | apply And.intro | decide | intro _ | exact rfl))
  refine tr_cond rfl (fun h => by simp at h) (fun _ => ?_)
  repeat' (first | refine tr_seq ?_ | refine reg (T := tab) tOk hnt rfl ?_ ?_ | refine regD (T := tab) tOk mixedR hnt rfl (by decide +kernel) ?_ ?_ | refine tr_block ?_ | refine tr_skip ?_)
  · (dsimp only [AllP]; (repeat' first | exact trivial | assumption | exact Nat.le_of_ble_eq_true rfl | apply And.intro | decide | intro _ | exact rfl))
  repeat' (first | refine tr_seq ?_ | refine tr_block ?_ | refine tr_skip ?_)
  refine tr_loop (σ := Nat) (fun k => St.of [(0, .one (.e (eLists ps))), (1, .one (.e (eLists ps))), (12, .v (.int .i64 ((ps.map fun p => [eBytes p]).length : Nat))), (13, .v (.int .i64 k))] []) (fun k => k ≤ ps.length) (fun k => ps.length - k) (0) (le_of (ad := []) (by refine ⟨?_, ?_, ?_, ?_, trivial⟩ <;> first | exact trivial | rfl | exact ⟨rfl, rfl⟩ | exact ⟨rfl, rfl, rfl⟩ | exact ⟨rfl, rfl, rfl, rfl⟩ | exact ⟨rfl, rfl, rfl, rfl, rfl⟩ | exact congrArg (fun z : Int => E.v (.int .i64 z)) (wrap64_id (by omega) (by omega))) trivial) (Nat.zero_le _) ?_
  intro k hk
  repeat' (first | refine tr_seq ?_ | refine reg (T := tab) tOk hnt rfl ?_ ?_ | refine regD (T := tab) tOk mixedR hnt rfl (by decide +kernel) ?_ ?_ | refine tr_block ?_ | refine tr_skip ?_)
  · (dsimp only [AllP]; (repeat' first | exact trivial | assumption | exact Nat.le_of_ble_eq_true rfl | apply And.intro | decide | intro _ | exact rfl))
  repeat' (first | refine tr_seq ?_ | refine tr_block ?_ | refine tr_skip ?_)
  refine tr_cond rfl (fun hc => ?_) (fun hc => ?_)
  · have hc : (k : Int) < ((ps.map fun p => [eBytes p]).length : Int) := of_decide_eq_true hc
    have hkl : k < ps.length := by omega
    repeat' (first | refine tr_seq ?_ | refine reg (T := tab) tOk hnt rfl ?_ ?_ | refine regD (T := tab) tOk mixedR hnt rfl (by decide +kernel) ?_ ?_ | refine tr_block ?_ | refine tr_skip ?_)
    · (dsimp only [AllP]; (repeat' first | exact trivial | assumption | exact Nat.le_of_ble_eq_true rfl | apply And.intro | exact eCells_len1 _ _ ‹_› | exact eCells_isByte _ _ ‹_› | intro _ | exact rfl | omega))
    · rw [Int.toNat_natCast, lsGet ps hkl]
      have hby : ∀ cs ∈ eCells (ps.getD k []), isByte cs := eCells_isByte _
      (dsimp only [AllP]; (repeat' first | exact trivial | assumption | exact Nat.le_of_ble_eq_true rfl | apply And.intro | exact eCells_len1 _ _ ‹_› | exact eCells_isByte _ _ ‹_› | intro _ | exact rfl | omega))
    rw [Int.toNat_natCast, lsGet ps hkl]
    refine tr_cond rfl (fun h => nomatch (strNe_self _).symm.trans h) (fun _ => ?_)
    repeat' (first | refine tr_seq ?_ | refine reg (T := tab) tOk hnt rfl ?_ ?_ | refine regD (T := tab) tOk mixedR hnt rfl (by decide +kernel) ?_ ?_ | refine tr_block ?_ | refine tr_skip ?_)
    · (dsimp only [AllP]; (repeat' first | exact trivial | assumption | exact Nat.le_of_ble_eq_true rfl | apply And.intro | decide | intro _ | exact rfl))
    refine ⟨k + 1, by omega, by omega, le_of (ad := []) (by refine ⟨?_, ?_, ?_, ?_, trivial⟩ <;> first | exact trivial | rfl | exact ⟨rfl, rfl⟩ | exact ⟨rfl, rfl, rfl⟩ | exact ⟨rfl, rfl, rfl, rfl⟩ | exact ⟨rfl, rfl, rfl, rfl, rfl⟩ | exact congrArg (fun z : Int => E.v (.int .i64 z)) (wrap64_id (by omega) (by omega))) trivial⟩
  have hc : ¬ (k : Int) < ((ps.map fun p => [eBytes p]).length : Int) := of_decide_eq_false hc
  refine tr_exit ?_
  repeat' (first | refine tr_seq ?_ | refine reg (T := tab) tOk hnt rfl ?_ ?_ | refine regD (T := tab) tOk mixedR hnt rfl (by decide +kernel) ?_ ?_ | refine tr_block ?_ | refine tr_skip ?_)
  · (dsimp only [AllP]; (repeat' first | exact trivial | assumption | exact Nat.le_of_ble_eq_true rfl | apply And.intro | decide | intro _ | exact rfl))
  exact tr_ret ⟨.inr rfl, _, _, rfl, trivial, rfl⟩
end Go.Proofs.YtphaholcndhonaaDoor
