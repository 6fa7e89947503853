/- Paths in trees of slots. No condition. -/
import Derived.Test.YtjpmghphkkhcjaaDoorTSlR
namespace Go.Proofs.YtjpmghphkkhcjaaDoor
open Go Go.RowKit Go.Proofs.YtjpmghphkkhcjaaDoor.Ab

def sib (n : Nat) : Nat := if n % 2 = 0 then n + 1 else n - 1
theorem sib_small : ∀ k : Fin 64, IntKind.i64.wrap ((BitVec.ofInt IntKind.i64.bits ((k.val : Nat) : Int) ^^^ BitVec.ofInt IntKind.i64.bits 1).toNat : Int) = ((sib k.val : Nat) : Int) := by decide +kernel
theorem sib_x (n : Nat) (h : n < 64) : IntKind.i64.wrap ((BitVec.ofInt IntKind.i64.bits (n : Int) ^^^ BitVec.ofInt IntKind.i64.bits 1).toNat : Int) = ((sib n : Nat) : Int) := sib_small ⟨n, h⟩
theorem sib_lt {n k : Nat} (h : n < 2 ^ (k + 1)) : sib n < 2 ^ (k + 1) := by
  unfold sib
  rw [Nat.pow_succ] at h ⊢
  split <;> omega
/-- the digests beside the way up -/
def pathL (mode : Int) : Nat → List (List UInt8) → Nat → List (List UInt8)
  | 0, _, _ => []
  | k + 1, row, i => row.getD (sib i) [] :: pathL mode k (pairsN mode row (2 ^ k)) (i / 2)
def pathR (mode : Int) (s : Nat) (row : List (List UInt8)) (i : Nat) : List UInt8 := hT mode s ((row.drop (sib (i / 2 ^ s) * 2 ^ s)).take (2 ^ s))
theorem pairsN_part (mode : Int) (row : List (List UInt8)) {m n N : Nat} (h : m + n ≤ N) : ((pairsN mode row N).drop m).take n = pairsN mode ((row.drop (2 * m)).take (2 * n)) n := by
  rw [show N = m + (N - m) by omega, pairsN_drop, pairsN_take mode _ (by omega)]
  refine pairsN_congr mode _ _ n fun i hi => ?_
  simp [List.getD, List.getElem?_take, hi]
theorem pathR_succ (mode : Int) {s k : Nat} (row : List (List UInt8)) (i : Nat) (hr : row.length = 2 ^ (k + 1)) (hi : i < 2 ^ (k + 1)) (hs : s < k) : pathR mode (s + 1) row i = pathR mode s (pairsN mode row (2 ^ k)) (i / 2) := by
  obtain ⟨d, rfl⟩ : ∃ d, k = s + (d + 1) := ⟨k - s - 1, by omega⟩
  have e1 : i / 2 ^ (s + 1) = i / 2 / 2 ^ s := by rw [Nat.pow_succ, Nat.mul_comm, Nat.div_div_eq_div_mul]
  have hq : i / 2 / 2 ^ s < 2 ^ (d + 1) := by
    rw [Nat.div_lt_iff_lt_mul (Nat.two_pow_pos s), ← Nat.pow_add, Nat.div_lt_iff_lt_mul (by decide), ← Nat.pow_succ]
    rw [show (d + 1 + s).succ = s + (d + 1) + 1 by omega]
    exact hi
  have hx := sib_lt hq
  have hb : sib (i / 2 / 2 ^ s) * 2 ^ s + 2 ^ s ≤ 2 ^ (s + (d + 1)) := by
    rw [← Nat.succ_mul, Nat.pow_add, Nat.mul_comm (2 ^ s)]
    exact Nat.mul_le_mul_right _ hx
  unfold pathR
  rw [e1, pairsN_part mode row hb, ← pairs_hT]
  · congr 2
    · rw [Nat.pow_succ]; omega
    · congr 1
      rw [Nat.pow_succ, ← Nat.mul_assoc, Nat.mul_comm]
  · rw [List.length_take, List.length_drop, hr, Nat.pow_succ 2 (s + (d + 1)), Nat.pow_succ 2 s]
    omega
theorem pathL_eq (mode : Int) : ∀ (k : Nat) (row : List (List UInt8)) (i : Nat), row.length = 2 ^ k → i < 2 ^ k → pathL mode k row i = (List.range k).map fun s => pathR mode s row i
  | 0, _, _, _, _ => rfl
  | k + 1, row, i, hr, hi => by
    rw [List.range_succ_eq_map, List.map_cons, pathL, pathL_eq mode k _ (i / 2) (pairsN_len ..) (by rw [Nat.pow_succ] at hi; omega), List.map_map]
    refine congr (congrArg _ ?_) (List.map_congr_left fun s hs => ?_)
    · unfold pathR
      rw [Nat.pow_zero, Nat.div_one, Nat.mul_one, hT]
      simp [List.getD]
    · exact (pathR_succ mode row i hr hi (List.mem_range.1 hs)).symm
def pathF (mode : Int) (l : List SlotT) (i : Int) : List (List UInt8) × Int :=
  if (leavesF mode l).2 ≠ 0 then ([], (leavesF mode l).2) else if i < 0 ∨ (l.length : Int) ≤ i then ([], 6) else (pathL mode (Nat.log2 l.length) (digL mode l) i.toNat, 0)
theorem orD (i n : Int) : (bif decide (i < 0) then true else decide (n ≤ i)) = decide (i < 0 ∨ n ≤ i) := by
  by_cases h : i < 0 <;> simp [h]
set_option maxRecDepth 10000 in
theorem Path_fn (mode : Int) (l : List SlotT) (i : Int) : FnG Tryd.prog 23 gK [.one (.e (eI mode)), .one (.e (eSlots l)), .one (.e (eI i))] (rLE (pathF mode l i)) := by
  refine fn_introG (T := tab) tOk Tryd.func23 rfl (by kernel_rfl) (by simp [Tryd.ntmps23]) ?_
  intro X hX
  have hnt : X.nt = 53 := hX
  clear hX
  have hlv := leavesR_fn mode l
  have hgood := @leaves_good mode l
  unfold pathF
  generalize leavesF mode l = r at *
  obtain ⟨row0, e⟩ := r
  repeat' (first | refine tr_seq ?_ | refine reg (T := tab) tOk hnt rfl ?_ ?_ | refine regD (T := tab) tOk mixedR hnt rfl (by decide +kernel) ?_ ?_ | refine tr_block ?_ | refine tr_skip ?_)
  · (dsimp only [AllP]; (repeat' first | exact trivial | assumption | exact Nat.le_of_ble_eq_true rfl | apply And.intro | decide | intro _ | exact rfl))
  repeat' (first | refine tr_seq ?_ | refine tr_block ?_ | refine tr_skip ?_)
  refine tr_region (lex (T := tab) tOk hnt rfl ?_ (callV rfl rfl rfl rfl rfl rfl rfl hnt rfl (hlv) (lex (T := tab) tOk hnt rfl ?_ (Lex.nil _)))) ?_
  · (dsimp only [AllP]; (repeat' first | exact trivial | assumption | exact Nat.le_of_ble_eq_true rfl | apply And.intro | decide | intro _ | exact rfl))
  · (dsimp only [AllP]; (repeat' first | exact trivial | assumption | exact Nat.le_of_ble_eq_true rfl | apply And.intro | decide | intro _ | exact rfl))
  repeat' (first | refine tr_seq ?_ | refine reg (T := tab) tOk hnt rfl ?_ ?_ | refine regD (T := tab) tOk mixedR hnt rfl (by decide +kernel) ?_ ?_ | refine tr_block ?_ | refine tr_skip ?_)
  · (dsimp only [AllP]; (repeat' first | exact trivial | assumption | exact Nat.le_of_ble_eq_true rfl | apply And.intro | decide | intro _ | exact rfl))
  repeat' (first | refine tr_seq ?_ | refine tr_block ?_ | refine tr_skip ?_)
  refine tr_cond rfl (fun hc => ?_) (fun hc => ?_)
  · have hc : e ≠ 0 := of_decide_eq_true ((neD' e).symm.trans hc)
    rw [if_pos hc]
    repeat' (first | refine tr_seq ?_ | refine reg (T := tab) tOk hnt rfl ?_ ?_ | refine regD (T := tab) tOk mixedR hnt rfl (by decide +kernel) ?_ ?_ | refine tr_block ?_ | refine tr_skip ?_)
    · (dsimp only [AllP]; (repeat' first | exact trivial | assumption | exact Nat.le_of_ble_eq_true rfl | apply And.intro | decide | intro _ | exact rfl))
    exact tr_ret ⟨.inr rfl, _, _, rfl, trivial, rfl⟩
  have hc : ¬ e ≠ 0 := of_decide_eq_false ((neD' e).symm.trans hc)
  rw [if_neg hc]
  have hc := Decidable.not_not.1 hc
  subst hc
  obtain ⟨hm, hrow, k, hk, hlk⟩ := hgood rfl
  cases hrow
  repeat' (first | refine tr_seq ?_ | refine reg (T := tab) tOk hnt rfl ?_ ?_ | refine regD (T := tab) tOk mixedR hnt rfl (by decide +kernel) ?_ ?_ | refine tr_block ?_ | refine tr_skip ?_)
  · (dsimp only [AllP]; (repeat' first | exact trivial | assumption | exact Nat.le_of_ble_eq_true rfl | apply And.intro | decide | intro _ | exact rfl))
  have hll : (l.map eS).length = l.length := List.length_map ..
  repeat' (first | refine tr_seq ?_ | refine tr_block ?_ | refine tr_skip ?_)
  refine tr_cond rfl (fun hc => ?_) (fun hc => ?_)
  · have hc := of_decide_eq_true ((orD i _).symm.trans hc)
    rw [hll] at hc
    rw [if_pos hc]
    repeat' (first | refine tr_seq ?_ | refine reg (T := tab) tOk hnt rfl ?_ ?_ | refine regD (T := tab) tOk mixedR hnt rfl (by decide +kernel) ?_ ?_ | refine tr_block ?_ | refine tr_skip ?_)
    · (dsimp only [AllP]; (repeat' first | exact trivial | assumption | exact Nat.le_of_ble_eq_true rfl | apply And.intro | decide | intro _ | exact rfl))
    exact tr_ret ⟨.inr rfl, _, _, rfl, trivial, rfl⟩
  have hc := of_decide_eq_false ((orD i _).symm.trans hc)
  rw [hll] at hc
  rw [if_neg hc, hlk, Nat.log2_two_pow]
  obtain ⟨i, rfl⟩ : ∃ n : Nat, i = (n : Int) := ⟨i.toNat, by omega⟩
  rw [Int.toNat_natCast]
  have hB : ∀ x ∈ digL mode l, x.length ≤ 502 := fun x hx => by
    obtain ⟨y, _, rfl⟩ := List.mem_map.1 hx
    exact leaf_len mode y
  have hlen := digL_len mode l
  generalize digL mode l = row0 at *
  clear hgood hlv
  repeat' (first | refine tr_seq ?_ | refine reg (T := tab) tOk hnt rfl ?_ ?_ | refine regD (T := tab) tOk mixedR hnt rfl (by decide +kernel) ?_ ?_ | refine tr_block ?_ | refine tr_skip ?_)
  · (dsimp only [AllP]; (repeat' first | exact trivial | assumption | exact Nat.le_of_ble_eq_true rfl | apply And.intro | decide | intro _ | exact rfl))
  repeat' (first | refine tr_seq ?_ | refine tr_block ?_ | refine tr_skip ?_)
  refine tr_loop (σ := Nat × List (List UInt8) × List (List UInt8) × Nat) (fun x => St.of [(0, .one (.e (eI mode))), (2, .one (.e (eI (x.2.2.2 : Int)))), (8, .one (.e (eLists x.2.1))), (10, .one (.own 40 0)), ((1000000 + 0), .one (.eptr kE))] [(40, ⟨0, .row 1 (x.2.2.1.map fun p => [eBytes p]), 0⟩)]) (fun x => x.1 ≤ k ∧ x.2.1.length = 2 ^ x.1 ∧ x.2.2.2 < 2 ^ x.1 ∧ x.2.2.1 ++ pathL mode x.1 x.2.1 x.2.2.2 = pathL mode k row0 i ∧ x.2.2.1.length + x.1 = k ∧ ∀ y ∈ x.2.1, y.length ≤ 512 * 2 ^ (k - x.1) - 10) (fun x => x.1) ((k, row0, [], i)) (le_of (ad := [40]) (by refine ⟨?_, ?_, ?_, ?_, ?_, trivial⟩ <;> first | exact trivial | rfl | exact ⟨rfl, rfl⟩ | exact ⟨rfl, rfl, rfl⟩ | exact ⟨rfl, rfl, rfl, rfl⟩ | exact ⟨rfl, rfl, rfl, rfl, rfl⟩ | exact congrArg (fun z : Int => E.v (.int .i64 z)) (wrap64_id (by omega) (by omega))) (memOk_new rfl (by decide) trivial)) ⟨Nat.le_refl _, by dsimp only; omega, by dsimp only; omega, rfl, by simp, fun y hy => by have := hB y hy; dsimp only; rw [Nat.sub_self]; omega⟩ ?_
  rintro ⟨j, row, out, i'⟩ ⟨h1, h2, h3, h4, h5, h6⟩
  dsimp only at h1 h2 h3 h4 h5 h6 ⊢
  have hll : (row.map fun p => [eBytes p]).length = row.length := List.length_map ..
  repeat' (first | refine tr_seq ?_ | refine reg (T := tab) tOk hnt rfl ?_ ?_ | refine regD (T := tab) tOk mixedR hnt rfl (by decide +kernel) ?_ ?_ | refine tr_block ?_ | refine tr_skip ?_)
  · (dsimp only [AllP]; (repeat' first | exact trivial | assumption | exact Nat.le_of_ble_eq_true rfl | apply And.intro | decide | intro _ | exact rfl))
  repeat' (first | refine tr_seq ?_ | refine tr_block ?_ | refine tr_skip ?_)
  refine tr_cond rfl (fun hc => ?_) (fun hc => ?_)
  · have hc : (1 : Int) < ((row.map fun p => [eBytes p]).length : Int) := of_decide_eq_true hc
    rw [hll] at hc
    match j, h1, h2, h3, h4, h5, h6 with
    | 0, h1, h2, h3, h4, h5, h6 => exact absurd hc (by rw [h2]; decide)
    | j + 1, h1, h2, h3, h4, h5, h6 =>
      have h64 : 2 ^ (j + 1) ≤ 2 ^ 6 := Nat.pow_le_pow_right (by decide) (by omega)
      have hx := sib_x i' (by omega)
      have hxl := sib_lt h3
      have hol : (out.map fun p => [eBytes p]).length ≤ 6 := by rw [List.length_map]; omega
      have hj6 : 2 ^ (k - (j + 1)) ≤ 2 ^ 6 := Nat.pow_le_pow_right (by decide) (by omega)
      have hp : 2 ^ (j + 1) = 2 ^ j + 2 ^ j := by rw [Nat.pow_succ]; omega
      have hp1 : 1 ≤ 2 ^ (k - (j + 1)) := Nat.one_le_two_pow
      have hq : 2 ^ (k - j) = 2 * 2 ^ (k - (j + 1)) := by
        rw [show k - j = k - (j + 1) + 1 by omega, Nat.pow_succ]
        omega
      have hbd : ∀ i, (row.getD i []).length ≤ 512 * 2 ^ (k - (j + 1)) - 10 := fun i => by
        rcases Nat.lt_or_ge i row.length with h | h
        · have e : row.getD i [] = row[i] := by simp [List.getD, h]
          rw [e]
          exact h6 _ (List.getElem_mem h)
        · have e : row.getD i [] = [] := by simp [List.getD, h]
          rw [e]
          exact Nat.zero_le _
      have hbl : (eCells (row.getD (sib i') [])).length ≤ 40000 := by
        rw [eCells_length]
        have := hbd (sib i')
        omega
      repeat' (first | refine tr_seq ?_ | refine reg (T := tab) tOk hnt rfl ?_ ?_ | refine regD (T := tab) tOk mixedR hnt rfl (by decide +kernel) ?_ ?_ | refine tr_block ?_ | refine tr_skip ?_)
      · rw [hx, Int.toNat_natCast, lsGet row (by omega)]
        have hL : ((sib i' : Nat) : Int) < ((row.map fun p => [eBytes p]).length : Int) := by omega
        (dsimp only [AllP]; (repeat' first | exact trivial | assumption | exact Nat.le_of_ble_eq_true rfl | apply And.intro | exact eCells_len1 _ _ ‹_› | exact eCells_isByte _ _ ‹_› | intro _ | exact rfl | omega | exact Nat.le_trans (Nat.add_le_add_right hol 1) (by decide) | exact Nat.le_trans (Nat.mul_le_mul_right _ (Nat.add_le_add_right hol 1)) (by decide) | exact Nat.le_trans (Nat.add_le_add_left hol 0) (by decide) | exact Nat.le_trans (Nat.mul_le_mul_right _ (Nat.add_le_add_left hol 0)) (by decide) | exact Nat.le_trans (Nat.add_le_add_right hbl 1) (by decide) | exact Nat.le_trans (Nat.mul_le_mul_right _ (Nat.add_le_add_right hbl 1)) (by decide) | exact Nat.le_trans (Nat.add_le_add_left hbl 0) (by decide) | exact Nat.le_trans (Nat.mul_le_mul_right _ (Nat.add_le_add_left hbl 0)) (by decide)))
      rw [hx, Int.toNat_natCast, lsGet row (by omega)]
      have hup := up_fn mode row (by omega) (fun i _ => nd_ok mode hm _ _ (by have := hbd (2 * i); have := hbd (2 * i + 1); omega))
      rw [show row.length / 2 = 2 ^ j by omega] at hup
      repeat' (first | refine tr_seq ?_ | refine tr_block ?_ | refine tr_skip ?_)
      refine tr_region (lex (T := tab) tOk hnt rfl ?_ (callV rfl rfl rfl rfl rfl rfl rfl hnt rfl (hup) (lex (T := tab) tOk hnt rfl ?_ (Lex.nil _)))) ?_
      · (dsimp only [AllP]; (repeat' first | exact trivial | assumption | exact Nat.le_of_ble_eq_true rfl | apply And.intro | decide | intro _ | exact rfl))
      · (dsimp only [AllP]; (repeat' first | exact trivial | assumption | exact Nat.le_of_ble_eq_true rfl | apply And.intro | decide | intro _ | exact rfl))
      repeat' (first | refine tr_seq ?_ | refine reg (T := tab) tOk hnt rfl ?_ ?_ | refine regD (T := tab) tOk mixedR hnt rfl (by decide +kernel) ?_ ?_ | refine tr_block ?_ | refine tr_skip ?_)
      · (dsimp only [AllP]; (repeat' first | exact trivial | assumption | exact Nat.le_of_ble_eq_true rfl | apply And.intro | decide | intro _ | exact rfl))
      refine tr_cond rfl (fun h => nomatch (show false = true from h)) (fun _ => ?_)
      repeat' (first | refine tr_seq ?_ | refine reg (T := tab) tOk hnt rfl ?_ ?_ | refine regD (T := tab) tOk mixedR hnt rfl (by decide +kernel) ?_ ?_ | refine tr_block ?_ | refine tr_skip ?_)
      · (dsimp only [AllP]; (repeat' first | exact trivial | assumption | exact Nat.le_of_ble_eq_true rfl | apply And.intro | decide | intro _ | exact rfl))
      have hw : IntKind.i64.wrap ((i' : Int).tdiv 2) = ((i' / 2 : Nat) : Int) := by
        rw [show (i' : Int).tdiv 2 = ((i' / 2 : Nat) : Int) from rfl, wrap64_id (by omega) (by omega)]
      refine ⟨(j, pairsN mode row (2 ^ j), out ++ [row.getD (sib i') []], i' / 2), ⟨by dsimp only; omega, pairsN_len .., by dsimp only; omega, ?_, ?_, fun y hy => ?_⟩, by dsimp only; omega, le_of (ad := []) ⟨rfl, congrArg (fun z : Int => E.v (.int .i64 z)) hw, rfl, ⟨rfl, rfl, rfl, rfl⟩, rfl, trivial⟩ (memOk_row rfl rfl ?_ trivial)⟩
      · dsimp only
        rw [List.append_assoc, ← h4, pathL]
        rfl
      · dsimp only
        rw [List.length_append]
        show out.length + 1 + j = k
        omega
      · obtain ⟨i, _, rfl⟩ := List.mem_map.1 hy
        have := nd_len mode (row.getD (2 * i) []) (row.getD (2 * i + 1) []) (hbd _) (hbd _) (by omega)
        dsimp only
        rw [hq]
        unfold nd at this
        omega
      · dsimp only
        rw [List.map_append]
        rfl
  have hc : ¬ (1 : Int) < ((row.map fun p => [eBytes p]).length : Int) := of_decide_eq_false hc
  rw [hll] at hc
  have hj0 : j = 0 := by
    match j, h2 with
    | 0, _ => rfl
    | j + 1, h2 =>
      have : 1 < 2 ^ (j + 1) := Nat.one_lt_two_pow (by omega)
      exact absurd (show (1 : Int) < (row.length : Int) by omega) hc
  subst hj0
  rw [pathL, List.append_nil] at h4
  subst h4
  refine tr_exit ?_
  repeat' (first | refine tr_seq ?_ | refine reg (T := tab) tOk hnt rfl ?_ ?_ | refine regD (T := tab) tOk mixedR hnt rfl (by decide +kernel) ?_ ?_ | refine tr_block ?_ | refine tr_skip ?_)
  · (dsimp only [AllP]; (repeat' first | exact trivial | assumption | exact Nat.le_of_ble_eq_true rfl | apply And.intro | decide | intro _ | exact rfl))
  exact tr_ret ⟨.inr rfl, _, _, rfl, trivial, rfl⟩
theorem pathF_eq (mode : Int) (l : List SlotT) (i : Int) : pathF mode l i = if slFault mode l ≠ 0 then ([], slFault mode l) else if i < 0 ∨ (l.length : Int) ≤ i then ([], 6) else ((List.range (Nat.log2 l.length)).map fun s => pathR mode s (digL mode l) i.toNat, 0) := by
  unfold pathF
  rw [slFault_eq]
  by_cases h : slFault mode l ≠ 0
  · rw [if_pos h, if_pos h]
  rw [if_neg h, if_neg h]
  split
  · rfl
  obtain ⟨_, _, k, _, hk⟩ := leaves_good ((slFault_eq mode l).trans (Decidable.not_not.1 h))
  rw [hk, Nat.log2_two_pow, pathL_eq mode k _ _ ((digL_len mode l).trans hk) (by omega)]
set_option maxRecDepth 10000 in
theorem PathOf_fn (mode : Int) (l : List SlotT) (i : Int) : FnD Tryd.prog 24 [.one (.e (eI mode)), .one (.e (eSlots l)), .one (.e (eI i))] (rLE (pathF mode l i)) := by
  refine fn_intro (T := tab) tOk Tryd.func24 rfl (by kernel_rfl) (by simp [Tryd.ntmps24]) ?_
  intro X hX
  have hnt : X.nt = 50 := hX
  clear hX
  have hgood := @leaves_good mode l
  rw [pathF_eq]
  rw [slFault_eq] at hgood
  have hll : (l.map eS).length = l.length := List.length_map ..
  repeat' (first | refine tr_seq ?_ | refine reg (T := tab) tOk hnt rfl ?_ ?_ | refine regD (T := tab) tOk mixedR hnt rfl (by decide +kernel) ?_ ?_ | refine tr_block ?_ | refine tr_skip ?_)
  · (dsimp only [AllP]; (repeat' first | exact trivial | assumption | exact Nat.le_of_ble_eq_true rfl | apply And.intro | decide | intro _ | exact rfl))
  repeat' (first | refine tr_seq ?_ | refine tr_block ?_ | refine tr_skip ?_)
  refine tr_region (lex (T := tab) tOk hnt rfl ?_ (call rfl rfl rfl rfl rfl rfl rfl hnt (slFault_fn mode l) (lex (T := tab) tOk hnt rfl ?_ (Lex.nil _)))) ?_
  · (dsimp only [AllP]; (repeat' first | exact trivial | assumption | exact Nat.le_of_ble_eq_true rfl | apply And.intro | decide | intro _ | exact rfl))
  · (dsimp only [AllP]; (repeat' first | exact trivial | assumption | exact Nat.le_of_ble_eq_true rfl | apply And.intro | decide | intro _ | exact rfl))
  generalize slFault mode l = e at *
  repeat' (first | refine tr_seq ?_ | refine reg (T := tab) tOk hnt rfl ?_ ?_ | refine regD (T := tab) tOk mixedR hnt rfl (by decide +kernel) ?_ ?_ | refine tr_block ?_ | refine tr_skip ?_)
  · (dsimp only [AllP]; (repeat' first | exact trivial | assumption | exact Nat.le_of_ble_eq_true rfl | apply And.intro | decide | intro _ | exact rfl))
  repeat' (first | refine tr_seq ?_ | refine tr_block ?_ | refine tr_skip ?_)
  refine tr_cond rfl (fun hc => ?_) (fun hc => ?_)
  · have hc : e ≠ 0 := of_decide_eq_true ((neD' e).symm.trans hc)
    rw [if_pos hc]
    repeat' (first | refine tr_seq ?_ | refine reg (T := tab) tOk hnt rfl ?_ ?_ | refine regD (T := tab) tOk mixedR hnt rfl (by decide +kernel) ?_ ?_ | refine tr_block ?_ | refine tr_skip ?_)
    · (dsimp only [AllP]; (repeat' first | exact trivial | assumption | exact Nat.le_of_ble_eq_true rfl | apply And.intro | decide | intro _ | exact rfl))
    exact tr_ret ⟨.inr rfl, _, _, rfl, trivial, rfl⟩
  have hc : ¬ e ≠ 0 := of_decide_eq_false ((neD' e).symm.trans hc)
  rw [if_neg hc]
  have hc := Decidable.not_not.1 hc
  subst hc
  obtain ⟨hm, hrow, k, hk, hlk⟩ := hgood rfl
  repeat' (first | refine tr_seq ?_ | refine reg (T := tab) tOk hnt rfl ?_ ?_ | refine regD (T := tab) tOk mixedR hnt rfl (by decide +kernel) ?_ ?_ | refine tr_block ?_ | refine tr_skip ?_)
  · (dsimp only [AllP]; (repeat' first | exact trivial | assumption | exact Nat.le_of_ble_eq_true rfl | apply And.intro | decide | intro _ | exact rfl))
  repeat' (first | refine tr_seq ?_ | refine tr_block ?_ | refine tr_skip ?_)
  refine tr_cond rfl (fun hc => ?_) (fun hc => ?_)
  · have hc := of_decide_eq_true ((orD i _).symm.trans hc)
    rw [hll] at hc
    rw [if_pos hc]
    repeat' (first | refine tr_seq ?_ | refine reg (T := tab) tOk hnt rfl ?_ ?_ | refine regD (T := tab) tOk mixedR hnt rfl (by decide +kernel) ?_ ?_ | refine tr_block ?_ | refine tr_skip ?_)
    · (dsimp only [AllP]; (repeat' first | exact trivial | assumption | exact Nat.le_of_ble_eq_true rfl | apply And.intro | decide | intro _ | exact rfl))
    exact tr_ret ⟨.inr rfl, _, _, rfl, trivial, rfl⟩
  have hc := of_decide_eq_false ((orD i _).symm.trans hc)
  rw [hll] at hc
  rw [if_neg hc, hlk, Nat.log2_two_pow]
  obtain ⟨i, rfl⟩ : ∃ n : Nat, i = (n : Int) := ⟨i.toNat, by omega⟩
  rw [Int.toNat_natCast]
  have hlen := digL_len mode l
  repeat' (first | refine tr_seq ?_ | refine reg (T := tab) tOk hnt rfl ?_ ?_ | refine regD (T := tab) tOk mixedR hnt rfl (by decide +kernel) ?_ ?_ | refine tr_block ?_ | refine tr_skip ?_)
  · (dsimp only [AllP]; (repeat' first | exact trivial | assumption | exact Nat.le_of_ble_eq_true rfl | apply And.intro | decide | intro _ | exact rfl))
  · (dsimp only [AllP]; (repeat' first | exact trivial | assumption | exact Nat.le_of_ble_eq_true rfl | apply And.intro | decide | intro _ | exact rfl))
  repeat' (first | refine tr_seq ?_ | refine tr_block ?_ | refine tr_skip ?_)
  refine tr_loop (σ := Nat) (fun s => St.of [(0, .one (.e (eI mode))), (1, .one (.e (eSlots l))), (2, .one (.e (eI (i : Int)))), (9, .one (.own 48 0)), (10, .one (.e (eI ((2 ^ s : Nat) : Int))))] [(48, ⟨0, .row 1 (((List.range s).map fun s => pathR mode s (digL mode l) i).map fun p => [eBytes p]), 0⟩)]) (fun s => s ≤ k) (fun s => k - s) (0) (le_of (ad := [48]) (by refine ⟨?_, ?_, ?_, ?_, ?_, trivial⟩ <;> first | exact trivial | rfl | exact ⟨rfl, rfl⟩ | exact ⟨rfl, rfl, rfl⟩ | exact ⟨rfl, rfl, rfl, rfl⟩ | exact ⟨rfl, rfl, rfl, rfl, rfl⟩ | exact congrArg (fun z : Int => E.v (.int .i64 z)) (wrap64_id (by omega) (by omega))) (memOk_new rfl (by decide) trivial)) (Nat.zero_le _) ?_
  intro s hs
  have h64 : 2 ^ k ≤ 2 ^ 6 := Nat.pow_le_pow_right (by decide) hk
  repeat' (first | refine tr_seq ?_ | refine reg (T := tab) tOk hnt rfl ?_ ?_ | refine regD (T := tab) tOk mixedR hnt rfl (by decide +kernel) ?_ ?_ | refine tr_block ?_ | refine tr_skip ?_)
  · (dsimp only [AllP]; (repeat' first | exact trivial | assumption | exact Nat.le_of_ble_eq_true rfl | apply And.intro | decide | intro _ | exact rfl))
  repeat' (first | refine tr_seq ?_ | refine tr_block ?_ | refine tr_skip ?_)
  refine tr_cond rfl (fun hc => ?_) (fun hc => ?_)
  · have hc : ((2 ^ s : Nat) : Int) < ((l.map eS).length : Int) := of_decide_eq_true hc
    rw [hll, hlk] at hc
    have hsk : s < k := (Nat.pow_lt_pow_iff_right (a := 2) (by decide)).1 (by omega)
    obtain ⟨d, rfl⟩ : ∃ d, k = s + (d + 1) := ⟨k - s - 1, by omega⟩
    have hq : i / 2 ^ s < 2 ^ (d + 1) := by
      rw [Nat.div_lt_iff_lt_mul (Nat.two_pow_pos s), ← Nat.pow_add, Nat.add_comm]
      omega
    have hx := sib_lt hq
    have hb : sib (i / 2 ^ s) * 2 ^ s + 2 ^ s ≤ 2 ^ (s + (d + 1)) := by
      rw [← Nat.succ_mul, Nat.pow_add, Nat.mul_comm (2 ^ s)]
      exact Nat.mul_le_mul_right _ hx
    have hd1 : 2 ^ (d + 1) ≤ 2 ^ 6 := Nat.pow_le_pow_right (by decide) (by omega)
    have hs1 : 1 ≤ 2 ^ s := Nat.one_le_two_pow
    have hi64 : i / 2 ^ s ≤ i := Nat.div_le_self ..
    have e1 : IntKind.i64.wrap ((i : Int).tdiv ((2 ^ s : Nat) : Int)) = ((i / 2 ^ s : Nat) : Int) := by
      rw [show (i : Int).tdiv ((2 ^ s : Nat) : Int) = ((i / 2 ^ s : Nat) : Int) from rfl]
      generalize i / 2 ^ s = Q at *
      exact wrap64_id (by omega) (by omega)
    have e2 := sib_x (i / 2 ^ s) (by omega)
    have hps : pathR mode s (digL mode l) i = hT mode s (((digL mode l).drop (sib (i / 2 ^ s) * 2 ^ s)).take (2 ^ s)) := rfl
    have hm : ((sib (i / 2 ^ s) : Nat) : Int) * ((2 ^ s : Nat) : Int) = ((sib (i / 2 ^ s) * 2 ^ s : Nat) : Int) := (Int.natCast_mul ..).symm
    generalize sib (i / 2 ^ s) * 2 ^ s = P at *
    have e3 : IntKind.i64.wrap (((sib (i / 2 ^ s) : Nat) : Int) * ((2 ^ s : Nat) : Int)) = (P : Int) := by
      rw [hm, wrap64_id (by omega) (by omega)]
    have e4 : IntKind.i64.wrap ((P : Int) + ((2 ^ s : Nat) : Int)) = ((P + 2 ^ s : Nat) : Int) := by
      rw [← Int.natCast_add, wrap64_id (by omega) (by omega)]
    have hro := rootOf_fn mode s ((l.drop P).take (2 ^ s)) (by omega) (by rw [List.length_take, List.length_drop]; omega)
    rw [← digL_take, ← digL_drop, ← hps] at hro
    have eT : eSlots ((l.drop P).take (2 ^ s)) = .sl (List.take (Int.toNat (IntKind.i64.wrap ((P : Int) + ((2 ^ s : Nat) : Int))) - Int.toNat (P : Int)) (List.drop (Int.toNat (P : Int)) (l.map eS))) := by
      rw [e4, Int.toNat_natCast, Int.toNat_natCast, Nat.add_sub_cancel_left, eSlots, List.map_take, List.map_drop]
    rw [eT] at hro
    repeat' (first | refine tr_seq ?_ | refine reg (T := tab) tOk hnt rfl ?_ ?_ | refine regD (T := tab) tOk mixedR hnt rfl (by decide +kernel) ?_ ?_ | refine tr_block ?_ | refine tr_skip ?_)
    · have h0 : ((2 ^ s : Nat) : Int) ≠ 0 := by omega
      (dsimp only [AllP]; (repeat' first | exact trivial | assumption | exact Nat.le_of_ble_eq_true rfl | apply And.intro | exact eCells_len1 _ _ ‹_› | exact eCells_isByte _ _ ‹_› | intro _ | exact rfl | omega))
    rw [e1, e2, e3]
    have hol : (((List.range s).map fun s => pathR mode s (digL mode l) i).map fun p => [eBytes p]).length ≤ 6 := by rw [List.length_map, List.length_map, List.length_range]; omega
    repeat' (first | refine tr_seq ?_ | refine tr_block ?_ | refine tr_skip ?_)
    refine tr_region (lex (T := tab) tOk hnt rfl ?_ (call rfl rfl rfl rfl rfl rfl rfl hnt (hro) (lex (T := tab) tOk hnt rfl ?_ (Lex.nil _)))) ?_
    · have he : ∀ cs ∈ l.map eS, cs.length = 3 := fun cs h => by
        obtain ⟨x, _, rfl⟩ := List.mem_map.1 h
        rfl
      have hP0 : (0 : Int) ≤ (P : Int) := by omega
      have hP1 : (P : Int) ≤ IntKind.i64.wrap ((P : Int) + ((2 ^ s : Nat) : Int)) := by omega
      have hP2 : IntKind.i64.wrap ((P : Int) + ((2 ^ s : Nat) : Int)) ≤ ((l.map eS).length : Int) := by omega
      (dsimp only [AllP]; (repeat' first | exact trivial | assumption | exact Nat.le_of_ble_eq_true rfl | apply And.intro | exact eCells_len1 _ _ ‹_› | exact eCells_isByte _ _ ‹_› | intro _ | exact rfl | omega))
    · (dsimp only [AllP]; (repeat' first | exact trivial | assumption | exact Nat.le_of_ble_eq_true rfl | apply And.intro | exact eCells_len1 _ _ ‹_› | exact eCells_isByte _ _ ‹_› | intro _ | exact rfl | omega | exact Nat.le_trans (Nat.add_le_add_right hol 1) (by decide) | exact Nat.le_trans (Nat.mul_le_mul_right _ (Nat.add_le_add_right hol 1)) (by decide) | exact Nat.le_trans (Nat.add_le_add_left hol 0) (by decide) | exact Nat.le_trans (Nat.mul_le_mul_right _ (Nat.add_le_add_left hol 0)) (by decide)))
    repeat' (first | refine tr_seq ?_ | refine reg (T := tab) tOk hnt rfl ?_ ?_ | refine regD (T := tab) tOk mixedR hnt rfl (by decide +kernel) ?_ ?_ | refine tr_block ?_ | refine tr_skip ?_)
    · (dsimp only [AllP]; (repeat' first | exact trivial | assumption | exact Nat.le_of_ble_eq_true rfl | apply And.intro | decide | intro _ | exact rfl))
    have hw : IntKind.i64.wrap (((2 ^ s : Nat) : Int) * 2) = ((2 ^ (s + 1) : Nat) : Int) := by
      rw [wrap64_id (by omega) (by omega), Nat.pow_succ, Int.natCast_mul]
      rfl
    refine ⟨s + 1, by omega, by omega, le_of (ad := []) ⟨rfl, rfl, rfl, ⟨rfl, rfl, rfl, rfl⟩, congrArg (fun z : Int => E.v (.int .i64 z)) hw, trivial⟩ (memOk_row rfl rfl ?_ trivial)⟩
    rw [List.range_succ, List.map_append, List.map_append]
    rfl
  have hc : ¬ ((2 ^ s : Nat) : Int) < ((l.map eS).length : Int) := of_decide_eq_false hc
  rw [hll, hlk] at hc
  have hsk : s = k := by
    have := (Nat.pow_le_pow_iff_right (a := 2) (by decide) (n := k) (m := s)).1 (by omega)
    omega
  subst hsk
  refine tr_exit ?_
  repeat' (first | refine tr_seq ?_ | refine reg (T := tab) tOk hnt rfl ?_ ?_ | refine regD (T := tab) tOk mixedR hnt rfl (by decide +kernel) ?_ ?_ | refine tr_block ?_ | refine tr_skip ?_)
  · (dsimp only [AllP]; (repeat' first | exact trivial | assumption | exact Nat.le_of_ble_eq_true rfl | apply And.intro | decide | intro _ | exact rfl))
  exact tr_ret ⟨.inr rfl, _, _, rfl, trivial, rfl⟩
theorem strNe_self (x : ByteArray) : (!strEq x x) = false := by simp [strEq]
set_option maxRecDepth 10000 in
theorem sameLs_fn (ps : List (List UInt8)) (hb : ps.length ≤ 1000000000) : FnD Tryd.prog 25 [.one (.e (eLists ps)), .one (.e (eLists ps))] (.v (.bool true)) := by
  refine fn_intro (T := tab) tOk Tryd.func25 rfl (by kernel_rfl) (by simp [Tryd.ntmps25]) ?_
  intro X hX
  have hnt : X.nt = 28 := hX
  clear hX
  have hll : (ps.map fun p => [eBytes p]).length = ps.length := List.length_map ..
  repeat' (first | refine tr_seq ?_ | refine reg (T := tab) tOk hnt rfl ?_ ?_ | refine regD (T := tab) tOk mixedR hnt rfl (by decide +kernel) ?_ ?_ | refine tr_block ?_ | refine tr_skip ?_)
  · (dsimp only [AllP]; (repeat' first | exact trivial | assumption | exact Nat.le_of_ble_eq_true rfl | apply And.intro | decide | intro _ | exact rfl))
  · (dsimp only [AllP]; (repeat' first | exact trivial | assumption | exact Nat.le_of_ble_eq_true rfl | apply And.intro | decide | intro _ | exact rfl))
  refine tr_cond rfl (fun h => by simp at h) (fun _ => ?_)
  repeat' (first | refine tr_seq ?_ | refine reg (T := tab) tOk hnt rfl ?_ ?_ | refine regD (T := tab) tOk mixedR hnt rfl (by decide +kernel) ?_ ?_ | refine tr_block ?_ | refine tr_skip ?_)
  · (dsimp only [AllP]; (repeat' first | exact trivial | assumption | exact Nat.le_of_ble_eq_true rfl | apply And.intro | decide | intro _ | exact rfl))
  repeat' (first | refine tr_seq ?_ | refine tr_block ?_ | refine tr_skip ?_)
  refine tr_loop (σ := Nat) (fun k => St.of [(0, .one (.e (eLists ps))), (1, .one (.e (eLists ps))), (12, .v (.int .i64 ((ps.map fun p => [eBytes p]).length : Nat))), (13, .v (.int .i64 k))] []) (fun k => k ≤ ps.length) (fun k => ps.length - k) (0) (le_of (ad := []) (by refine ⟨?_, ?_, ?_, ?_, trivial⟩ <;> first | exact trivial | rfl | exact ⟨rfl, rfl⟩ | exact ⟨rfl, rfl, rfl⟩ | exact ⟨rfl, rfl, rfl, rfl⟩ | exact ⟨rfl, rfl, rfl, rfl, rfl⟩ | exact congrArg (fun z : Int => E.v (.int .i64 z)) (wrap64_id (by omega) (by omega))) trivial) (Nat.zero_le _) ?_
  intro k hk
  repeat' (first | refine tr_seq ?_ | refine reg (T := tab) tOk hnt rfl ?_ ?_ | refine regD (T := tab) tOk mixedR hnt rfl (by decide +kernel) ?_ ?_ | refine tr_block ?_ | refine tr_skip ?_)
  · (dsimp only [AllP]; (repeat' first | exact trivial | assumption | exact Nat.le_of_ble_eq_true rfl | apply And.intro | decide | intro _ | exact rfl))
  repeat' (first | refine tr_seq ?_ | refine tr_block ?_ | refine tr_skip ?_)
  refine tr_cond rfl (fun hc => ?_) (fun hc => ?_)
  · have hc : (k : Int) < ((ps.map fun p => [eBytes p]).length : Int) := of_decide_eq_true hc
    have hkl : k < ps.length := by omega
    repeat' (first | refine tr_seq ?_ | refine reg (T := tab) tOk hnt rfl ?_ ?_ | refine regD (T := tab) tOk mixedR hnt rfl (by decide +kernel) ?_ ?_ | refine tr_block ?_ | refine tr_skip ?_)
    · (dsimp only [AllP]; (repeat' first | exact trivial | assumption | exact Nat.le_of_ble_eq_true rfl | apply And.intro | exact eCells_len1 _ _ ‹_› | exact eCells_isByte _ _ ‹_› | intro _ | exact rfl | omega))
    · rw [Int.toNat_natCast, lsGet ps hkl]
      have hby : ∀ cs ∈ eCells (ps.getD k []), isByte cs := eCells_isByte _
      (dsimp only [AllP]; (repeat' first | exact trivial | assumption | exact Nat.le_of_ble_eq_true rfl | apply And.intro | exact eCells_len1 _ _ ‹_› | exact eCells_isByte _ _ ‹_› | intro _ | exact rfl | omega))
    rw [Int.toNat_natCast, lsGet ps hkl]
    refine tr_cond rfl (fun h => nomatch (strNe_self _).symm.trans h) (fun _ => ?_)
    repeat' (first | refine tr_seq ?_ | refine reg (T := tab) tOk hnt rfl ?_ ?_ | refine regD (T := tab) tOk mixedR hnt rfl (by decide +kernel) ?_ ?_ | refine tr_block ?_ | refine tr_skip ?_)
    · (dsimp only [AllP]; (repeat' first | exact trivial | assumption | exact Nat.le_of_ble_eq_true rfl | apply And.intro | decide | intro _ | exact rfl))
    refine ⟨k + 1, by omega, by omega, le_of (ad := []) (by refine ⟨?_, ?_, ?_, ?_, trivial⟩ <;> first | exact trivial | rfl | exact ⟨rfl, rfl⟩ | exact ⟨rfl, rfl, rfl⟩ | exact ⟨rfl, rfl, rfl, rfl⟩ | exact ⟨rfl, rfl, rfl, rfl, rfl⟩ | exact congrArg (fun z : Int => E.v (.int .i64 z)) (wrap64_id (by omega) (by omega))) trivial⟩
  have hc : ¬ (k : Int) < ((ps.map fun p => [eBytes p]).length : Int) := of_decide_eq_false hc
  refine tr_exit ?_
  repeat' (first | refine tr_seq ?_ | refine reg (T := tab) tOk hnt rfl ?_ ?_ | refine regD (T := tab) tOk mixedR hnt rfl (by decide +kernel) ?_ ?_ | refine tr_block ?_ | refine tr_skip ?_)
  · (dsimp only [AllP]; (repeat' first | exact trivial | assumption | exact Nat.le_of_ble_eq_true rfl | apply And.intro | decide | intro _ | exact rfl))
  exact tr_ret ⟨.inr rfl, _, _, rfl, trivial, rfl⟩
set_option maxRecDepth 10000 in
theorem paths_fn (mode : Int) (l : List SlotT) (i : Int) : FnG Tryd.prog 7 gK [.one (.e (eI mode)), .one (.e (eSlots l)), .one (.e (eI i))] (.v (.bool true)) := by
  refine fn_introG (T := tab) tOk Tryd.func7 rfl (by kernel_rfl) (by simp [Tryd.ntmps7]) ?_
  intro X hX
  have hnt : X.nt = 33 := hX
  clear hX
  have h1 := Path_fn mode l i
  have h2 := PathOf_fn mode l i
  have h3 : (pathF mode l i).1.length ≤ 1000000000 := by
    rw [pathF_eq]
    split
    · exact Nat.zero_le _
    split
    · exact Nat.zero_le _
    rename_i h _
    obtain ⟨_, _, k, hk, hlk⟩ := leaves_good ((slFault_eq mode l).trans (Decidable.not_not.1 h))
    rw [hlk, Nat.log2_two_pow]
    simp
    omega
  generalize pathF mode l i = r at *
  obtain ⟨b, e⟩ := r
  repeat' (first | refine tr_seq ?_ | refine reg (T := tab) tOk hnt rfl ?_ ?_ | refine regD (T := tab) tOk mixedR hnt rfl (by decide +kernel) ?_ ?_ | refine tr_block ?_ | refine tr_skip ?_)
  · (dsimp only [AllP]; (repeat' first | exact trivial | assumption | exact Nat.le_of_ble_eq_true rfl | apply And.intro | decide | intro _ | exact rfl))
  repeat' (first | refine tr_seq ?_ | refine tr_block ?_ | refine tr_skip ?_)
  refine tr_region (lex (T := tab) tOk hnt rfl ?_ (callV rfl rfl rfl rfl rfl rfl rfl hnt rfl (h1) (lex (T := tab) tOk hnt rfl ?_ (Lex.nil _)))) ?_
  · (dsimp only [AllP]; (repeat' first | exact trivial | assumption | exact Nat.le_of_ble_eq_true rfl | apply And.intro | decide | intro _ | exact rfl))
  · (dsimp only [AllP]; (repeat' first | exact trivial | assumption | exact Nat.le_of_ble_eq_true rfl | apply And.intro | decide | intro _ | exact rfl))
  repeat' (first | refine tr_seq ?_ | refine tr_block ?_ | refine tr_skip ?_)
  refine tr_region (lex (T := tab) tOk hnt rfl ?_ (call rfl rfl rfl rfl rfl rfl rfl hnt (h2) (lex (T := tab) tOk hnt rfl ?_ (Lex.nil _)))) ?_
  · (dsimp only [AllP]; (repeat' first | exact trivial | assumption | exact Nat.le_of_ble_eq_true rfl | apply And.intro | decide | intro _ | exact rfl))
  · (dsimp only [AllP]; (repeat' first | exact trivial | assumption | exact Nat.le_of_ble_eq_true rfl | apply And.intro | decide | intro _ | exact rfl))
  repeat' (first | refine tr_seq ?_ | refine tr_block ?_ | refine tr_skip ?_)
  refine tr_region (lex (T := tab) tOk hnt rfl ?_ (callG rfl rfl rfl rfl rfl rfl hnt rfl (fun hq => ?_) (fun hq => sameLs_fn b h3) (lex (T := tab) tOk hnt rfl ?_ (Lex.nil _)))) ?_
  · (dsimp only [AllP]; (repeat' first | exact trivial | assumption | exact Nat.le_of_ble_eq_true rfl | apply And.intro | decide | intro _ | exact rfl))
  · exact ⟨hq, hq⟩
  · exact ⟨trivial, fun h => h⟩
  refine tr_ret ⟨.inr rfl, _, _, rfl, by trivial, ?_⟩
  simp
  rfl
end Go.Proofs.YtjpmghphkkhcjaaDoor
