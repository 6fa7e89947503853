/- table.Rows and the document's RowsOf: their parts. No condition. -/
import Derived.Test.YtcjeeoimjkhijaaDoorTTj
namespace Go.Proofs.YtcjeeoimjkhijaaDoor
open Go Go.RowKit Go.Proofs.YtcjeeoimjkhijaaDoor.Ab
set_option linter.unusedSimpArgs false
set_option linter.unusedVariables false

/-- the order of two numbers: -1, 0, 1 -/
def ordI (a b : Int) : Int := if a < b then -1 else if b < a then 1 else 0
set_option maxRecDepth 10000 in
set_option maxHeartbeats 2000000 in
theorem bitsOrder_fn (a b : Int) : FnD Tryd.prog 80 [.one (.e (.v (.int .u64 a))), .one (.e (.v (.int .u64 b)))] (.one (.e (eI (ordI a b)))) := by
  refine fn_intro (T := tab) tOk Tryd.func80 rfl (by kernel_rfl) (by simp [Tryd.ntmps80]) ?_
  intro X hX
  have hnt : X.nt = 11 := hX
  clear hX
  unfold ordI
  repeat' (first | refine tr_seq ?_ | refine reg (T := tab) tOk hnt rfl ?_ ?_ | refine regD (T := tab) tOk mixedR hnt rfl (by decide +kernel) ?_ ?_ | refine tr_block ?_ | refine tr_skip ?_)
  · (dsimp only [AllP]; (repeat' first | exact trivial | assumption | exact Nat.le_of_ble_eq_true rfl | apply And.intro | decide | intro _ | exact rfl))
  · (dsimp only [AllP]; (repeat' first | exact trivial | assumption | exact Nat.le_of_ble_eq_true rfl | apply And.intro | decide | intro _ | exact rfl))
  repeat' (first | refine tr_seq ?_ | refine tr_block ?_ | refine tr_skip ?_)
  refine tr_cond rfl (fun hc => ?_) (fun hc => ?_)
  · simp only [condT_tt, condT_ff, condF_tt, condF_ff, notE_t, notE_f, decide_eq_true_eq, decide_eq_false_iff_not] at hc
    rw [if_pos hc]
    repeat' (first | refine tr_seq ?_ | refine reg (T := tab) tOk hnt rfl ?_ ?_ | refine regD (T := tab) tOk mixedR hnt rfl (by decide +kernel) ?_ ?_ | refine tr_block ?_ | refine tr_skip ?_)
    · (dsimp only [AllP]; (repeat' first | exact trivial | assumption | exact Nat.le_of_ble_eq_true rfl | apply And.intro | decide | intro _ | exact rfl))
    exact tr_ret ⟨.inr rfl, _, _, rfl, trivial, rfl⟩
  simp only [condT_tt, condT_ff, condF_tt, condF_ff, notE_t, notE_f, decide_eq_true_eq, decide_eq_false_iff_not] at hc
  rw [if_neg hc]
  repeat' (first | refine tr_seq ?_ | refine reg (T := tab) tOk hnt rfl ?_ ?_ | refine regD (T := tab) tOk mixedR hnt rfl (by decide +kernel) ?_ ?_ | refine tr_block ?_ | refine tr_skip ?_)
  · (dsimp only [AllP]; (repeat' first | exact trivial | assumption | exact Nat.le_of_ble_eq_true rfl | apply And.intro | decide | intro _ | exact rfl))
  repeat' (first | refine tr_seq ?_ | refine tr_block ?_ | refine tr_skip ?_)
  refine tr_cond rfl (fun hc => ?_) (fun hc => ?_)
  · simp only [condT_tt, condT_ff, condF_tt, condF_ff, notE_t, notE_f, decide_eq_true_eq, decide_eq_false_iff_not] at hc
    rw [if_pos hc]
    repeat' (first | refine tr_seq ?_ | refine reg (T := tab) tOk hnt rfl ?_ ?_ | refine regD (T := tab) tOk mixedR hnt rfl (by decide +kernel) ?_ ?_ | refine tr_block ?_ | refine tr_skip ?_)
    · (dsimp only [AllP]; (repeat' first | exact trivial | assumption | exact Nat.le_of_ble_eq_true rfl | apply And.intro | decide | intro _ | exact rfl))
    exact tr_ret ⟨.inr rfl, _, _, rfl, trivial, rfl⟩
  simp only [condT_tt, condT_ff, condF_tt, condF_ff, notE_t, notE_f, decide_eq_true_eq, decide_eq_false_iff_not] at hc
  rw [if_neg hc]
  repeat' (first | refine tr_seq ?_ | refine reg (T := tab) tOk hnt rfl ?_ ?_ | refine regD (T := tab) tOk mixedR hnt rfl (by decide +kernel) ?_ ?_ | refine tr_block ?_ | refine tr_skip ?_)
  · (dsimp only [AllP]; (repeat' first | exact trivial | assumption | exact Nat.le_of_ble_eq_true rfl | apply And.intro | decide | intro _ | exact rfl))
  exact tr_ret ⟨.inr rfl, _, _, rfl, trivial, rfl⟩
theorem biased (i : Int) (h1 : -9223372036854775808 ≤ i) (h2 : i ≤ 9223372036854775807) : IntKind.u64.wrap (IntKind.u64.wrap i + 9223372036854775808) = i + 9223372036854775808 := by
  have hw : ∀ n : Int, IntKind.u64.wrap n = n % 18446744073709551616 := fun n => by
    rw [q_wrap, BitVec.toNat_ofInt]
    omega
  rw [hw, hw]
  omega
/-- a row's key: its first value's number -/
def kyR (r : List Val) : Int := (r.getD 0 val0).i
theorem ordI_add (a b c : Int) : ordI (a + c) (b + c) = ordI a b := by
  unfold ordI
  by_cases h1 : a < b
  · rw [if_pos h1, if_pos (by omega)]
  · rw [if_neg h1, if_neg (by omega)]
    by_cases h2 : b < a
    · rw [if_pos h2, if_pos (by omega)]
    · rw [if_neg h2, if_neg (by omega)]
set_option maxRecDepth 10000 in
set_option maxHeartbeats 2000000 in
theorem order_fn (u v : Val) (r s : List Val) (hu : u.ok) (hv : v.ok) : FnD Tryd.prog 79 [.one (.e (eRow (u :: r))), .one (.e (eRow (v :: s)))] (.one (.e (eI (ordI u.i v.i)))) := by
  refine fn_intro (T := tab) tOk Tryd.func79 rfl (by kernel_rfl) (by simp [Tryd.ntmps79]) ?_
  intro X hX
  have hnt : X.nt = 18 := hX
  clear hX
  have h1 := bitsOrder_fn (u.i + 9223372036854775808) (v.i + 9223372036854775808)
  rw [ordI_add] at h1
  have hu2 := biased u.i hu.2.1 hu.2.2
  have hv2 := biased v.i hv.2.1 hv.2.2
  rw [← hu2, ← hv2] at h1
  repeat' (first | refine tr_seq ?_ | refine reg (T := tab) tOk hnt rfl ?_ ?_ | refine regD (T := tab) tOk mixedR hnt rfl (by decide +kernel) ?_ ?_ | refine tr_block ?_ | refine tr_skip ?_)
  · (dsimp only [AllP]; (repeat' first | exact trivial | assumption | exact Nat.le_of_ble_eq_true rfl | apply And.intro | decide | intro _ | exact rfl))
  repeat' (first | refine tr_seq ?_ | refine tr_block ?_ | refine tr_skip ?_)
  repeat' (first | refine tr_seq ?_ | refine tr_block ?_ | refine tr_skip ?_)
  refine tr_draw (T := tab) tOk hnt mixedR (lexD (T := tab) rfl ?_ (callD rfl rfl rfl rfl rfl rfl rfl rfl (h1) (lexD (T := tab) rfl ?_ (.nil _)))) (by decide +kernel) ?_
  · (dsimp only [AllP]; (repeat' first | exact trivial | assumption | exact Nat.le_of_ble_eq_true rfl | apply And.intro | exact rfl | (intro _) | exact Int.natCast_pos.2 (Nat.succ_pos _) | exact Int.le_refl _))
  · (dsimp only [AllP]; (repeat' first | exact trivial | assumption | exact Nat.le_of_ble_eq_true rfl | apply And.intro | exact eCells_len1 _ _ ‹_› | exact eCells_isByte _ _ ‹_› | (intro hh_; have hg_ := hh_; (try simp only [condT_ff, condF_tt, notE_t, notE_f, Bool.and_eq_true, ne_eq, decide_eq_true_eq, decide_eq_false_iff_not] at hg_)) | intro _ | exact rfl | omega))
  repeat' (first | refine tr_seq ?_ | refine tr_block ?_ | refine tr_skip ?_)
  exact tr_ret ⟨.inr rfl, _, _, rfl, trivial, rfl⟩
theorem order_fn' (r s : List Val) (hr : ∃ v q, r = v :: q ∧ v.ok) (hs : ∃ v q, s = v :: q ∧ v.ok) : FnD Tryd.prog 79 [.one (.e (eRow r)), .one (.e (eRow s))] (.one (.e (eI (ordI (kyR r) (kyR s))))) := by
  obtain ⟨u, r, rfl, hu⟩ := hr
  obtain ⟨v, s, rfl, hv⟩ := hs
  exact order_fn u v r s hu hv
theorem ordA (a b : Int) (i j : Nat) : (bif decide (ordI a b < 0) then true else bif decide (ordI a b = 0) then decide ((j : Int) < (i : Int)) else false) = (decide (a < b) || (decide (a = b) && decide (j < i))) := by
  unfold ordI
  have hij : decide ((j : Int) < (i : Int)) = decide (j < i) := by rw [decide_eq_decide]; omega
  rw [hij]
  by_cases h1 : a < b
  · rw [if_pos h1]; simp [h1]
  · rw [if_neg h1]
    by_cases h2 : b < a
    · rw [if_pos h2]; simp [h1, show ¬ a = b by omega]
    · rw [if_neg h2]; simp [show a = b by omega]
theorem setOne (L : List (List E)) (k : Nat) (x : E) (hk : k < L.length) (h1 : ∀ cs ∈ L, cs.length = 1) : setEl L k 0 1 [x] = L.set k [x] := by
  have : L.getD k [] ∈ L := memD hk
  have h := h1 _ this
  unfold setEl
  rw [List.drop_eq_nil_of_le (by omega), List.take_zero, List.nil_append, List.append_nil]
def eRows (l : List (List Val)) : E := .sl (l.map fun r => [eRow r])
/-- stands row j ahead of row i? -/
def ahd (l : List (List Val)) (i j : Nat) : Bool := decide (kyR (l.getD j []) < kyR (l.getD i [])) || (decide (kyR (l.getD j []) = kyR (l.getD i [])) && decide (j < i))
def cntA (l : List (List Val)) (i : Nat) : Nat → Nat
  | 0 => 0
  | j + 1 => cntA l i j + (if ahd l i j = true then 1 else 0)
def rkF (l : List (List Val)) : Nat → List (List Val)
  | 0 => List.replicate l.length []
  | i + 1 => (rkF l i).set (cntA l i l.length) (l.getD i [])
theorem rkF_len (l : List (List Val)) : ∀ i, (rkF l i).length = l.length
  | 0 => List.length_replicate
  | i + 1 => by rw [rkF, List.length_set, rkF_len l i]
theorem cntA_le (l : List (List Val)) (i : Nat) : ∀ j, cntA l i j ≤ j
  | 0 => Nat.le_refl _
  | j + 1 => by
    have := cntA_le l i j
    rw [cntA]
    split <;> omega
theorem cntA_lt (l : List (List Val)) (i : Nat) : ∀ j, i < j → cntA l i j < j
  | 0, h => absurd h (Nat.not_lt_zero _)
  | j + 1, h => by
    rw [cntA]
    by_cases hij : i = j
    · subst hij
      have h0 : ahd l i i = false := by
        unfold ahd
        rw [decide_eq_false (Int.lt_irrefl _), decide_eq_false (Nat.lt_irrefl _)]
        simp
      have := cntA_le l i i
      rw [h0, if_neg Bool.false_ne_true]
      omega
    · have := cntA_lt l i j (by omega)
      split <;> omega
theorem rowsGet (l : List (List Val)) (i : Nat) (h : i < l.length) : (l.map fun r => [eRow r]).getD i [] = [eRow (l.getD i [])] := by
  rw [List.getD_eq_getElem?_getD, List.getElem?_map, List.getElem?_eq_getElem h, List.getD_eq_getElem?_getD, List.getElem?_eq_getElem h]
  rfl
set_option maxRecDepth 10000 in
set_option maxHeartbeats 2000000 in
theorem ranked_fn (l : List (List Val)) (hl : l.length ≤ 1000) (hk : ∀ r ∈ l, ∃ v s, r = v :: s ∧ v.ok) : FnD Tryd.prog 78 [.one (.e (eRows l)), .one (.clo 79 [])] (.one (.e (eRows (rkF l l.length)))) := by
  refine FnD.len ⟨_, _, Tryd.func78, rfl, by kernel_rfl⟩ 0 rfl fun hl0 => ?_
  refine fn_intro (T := tab) tOk Tryd.func78 rfl (by kernel_rfl) (by simp [Tryd.ntmps78]) ?_
  intro X hX
  have hnt : X.nt = 53 := hX
  clear hX
  have hml : (l.map fun r => [eRow r]).length = l.length := List.length_map ..
  have b1 : (l.map fun r => [eRow r]).length * 24 ≤ 140737488355328 := by omega
  repeat' (first | refine tr_seq ?_ | refine reg (T := tab) tOk hnt rfl ?_ ?_ | refine regD (T := tab) tOk mixedR hnt rfl (by decide +kernel) ?_ ?_ | refine tr_block ?_ | refine tr_skip ?_)
  · (dsimp only [AllP]; (repeat' first | exact trivial | assumption | exact Nat.le_of_ble_eq_true rfl | apply And.intro | decide | intro _ | exact rfl))
  · (dsimp only [AllP]; (repeat' first | exact trivial | assumption | exact Nat.le_of_ble_eq_true rfl | apply And.intro | exact eCells_len1 _ _ ‹_› | exact eCells_isByte _ _ ‹_› | (intro hh_; have hg_ := hh_; (try simp only [condT_ff, condF_tt, notE_t, notE_f, Bool.and_eq_true, ne_eq, decide_eq_true_eq, decide_eq_false_iff_not] at hg_)) | intro _ | exact rfl | omega))
  repeat' (first | refine tr_seq ?_ | refine reg (T := tab) tOk hnt rfl ?_ ?_ | refine regD (T := tab) tOk mixedR hnt rfl (by decide +kernel) ?_ ?_ | refine tr_block ?_ | refine tr_skip ?_)
  · (dsimp only [AllP]; (repeat' first | exact trivial | assumption | exact Nat.le_of_ble_eq_true rfl | apply And.intro | decide | intro _ | exact rfl))
  rw [hml]
  repeat' (first | refine tr_seq ?_ | refine tr_block ?_ | refine tr_skip ?_)
  refine tr_loop (σ := Nat) (fun i => St.of [(0, .one (.e (eRows l))), (1, .one (.clo 79 [])), (5, .one (.own 14 0)), (15, .one (.e (eRows l))), (16, .one (.e (eI (l.length : Int)))), (17, .one (.e (eI (i : Int))))] [(14, ⟨0, .row 1 ((rkF l i).map fun r => [eRow r]), 0⟩)]) (fun i => i ≤ l.length) (fun i => l.length - i) (0) (le_of (ad := []) (by refine ⟨?_, ?_, ?_, ?_, ?_, ?_, trivial⟩ <;> first | exact trivial | rfl | exact ⟨rfl, rfl⟩ | exact ⟨rfl, rfl, rfl⟩ | exact ⟨rfl, rfl, rfl, rfl⟩ | exact ⟨rfl, rfl, rfl, rfl, rfl⟩ | exact congrArg (fun z : Int => E.v (.int .i64 z)) (wrap64_id (by omega) (by omega))) (memOk_row rfl rfl (by show List.replicate l.length _ = (List.replicate l.length _).map _; rw [List.map_replicate]; rfl) trivial)) (Nat.zero_le _) ?_
  rintro i il
  repeat' (first | refine tr_seq ?_ | refine reg (T := tab) tOk hnt rfl ?_ ?_ | refine regD (T := tab) tOk mixedR hnt rfl (by decide +kernel) ?_ ?_ | refine tr_block ?_ | refine tr_skip ?_)
  · (dsimp only [AllP]; (repeat' first | exact trivial | assumption | exact Nat.le_of_ble_eq_true rfl | apply And.intro | decide | intro _ | exact rfl))
  repeat' (first | refine tr_seq ?_ | refine tr_block ?_ | refine tr_skip ?_)
  refine tr_cond rfl (fun hc => ?_) (fun hc => ?_)
  · simp only [condT_tt, condT_ff, condF_tt, condF_ff, notE_t, notE_f, decide_eq_true_eq, decide_eq_false_iff_not] at hc
    have hlt : i < l.length := by omega
    have hg := rowsGet l i hlt
    repeat' (first | refine tr_seq ?_ | refine tr_block ?_ | refine tr_skip ?_)
    first | refine reg (T := tab) tOk hnt rfl ?_ ?_ | refine regD (T := tab) tOk mixedR hnt rfl (by decide +kernel) ?_ ?_
    · rw [Int.toNat_natCast, hg, hml]
      (dsimp only [AllP]; (repeat' first | exact trivial | assumption | exact Nat.le_of_ble_eq_true rfl | apply And.intro | exact eCells_len1 _ _ ‹_› | exact eCells_isByte _ _ ‹_› | (intro hh_; have hg_ := hh_; (try simp only [condT_ff, condF_tt, notE_t, notE_f, Bool.and_eq_true, ne_eq, decide_eq_true_eq, decide_eq_false_iff_not] at hg_)) | intro _ | exact rfl | omega))
    rw [Int.toNat_natCast, hg]
    have hki := hk _ (memD (d := []) hlt)
    repeat' (first | refine tr_seq ?_ | refine reg (T := tab) tOk hnt rfl ?_ ?_ | refine regD (T := tab) tOk mixedR hnt rfl (by decide +kernel) ?_ ?_ | refine tr_block ?_ | refine tr_skip ?_)
    · (dsimp only [AllP]; (repeat' first | exact trivial | assumption | exact Nat.le_of_ble_eq_true rfl | apply And.intro | decide | intro _ | exact rfl))
    · (dsimp only [AllP]; (repeat' first | exact trivial | assumption | exact Nat.le_of_ble_eq_true rfl | apply And.intro | decide | intro _ | exact rfl))
    rw [hml]
    repeat' (first | refine tr_seq ?_ | refine tr_block ?_ | refine tr_skip ?_)
    refine tr_loop (σ := Nat × Nat) (fun y => St.of [(0, .one (.e (eRows l))), (1, .one (.clo 79 [])), (5, .one (.own 14 0)), (6, .one (.e (eI (i : Int)))), (7, .one (.e (eRow (l.getD i [])))), (8, .one (.e (eI (y.2 : Int)))), (15, .one (.e (eRows l))), (16, .one (.e (eI (l.length : Int)))), (17, .one (.e (eI (i : Int)))), (22, .one (.e (eRows l))), (23, .one (.e (eI (l.length : Int)))), (24, .one (.e (eI (y.1 : Int))))] [(14, ⟨0, .row 1 ((rkF l i).map fun r => [eRow r]), 0⟩)]) (fun y => y.2 = cntA l i y.1 ∧ y.1 ≤ l.length) (fun y => l.length - y.1) ((0, 0)) (le_of (ad := []) (by refine ⟨?_, ?_, ?_, ?_, ?_, ?_, ?_, ?_, ?_, ?_, ?_, ?_, trivial⟩ <;> first | exact trivial | rfl | exact ⟨rfl, rfl⟩ | exact ⟨rfl, rfl, rfl⟩ | exact ⟨rfl, rfl, rfl, rfl⟩ | exact ⟨rfl, rfl, rfl, rfl, rfl⟩ | exact congrArg (fun z : Int => E.v (.int .i64 z)) (wrap64_id (by omega) (by omega))) (memOk_row rfl rfl rfl trivial)) ⟨rfl, Nat.zero_le _⟩ ?_
    rintro ⟨j, n⟩ ⟨hn, jl⟩
    dsimp only at hn jl ⊢
    repeat' (first | refine tr_seq ?_ | refine reg (T := tab) tOk hnt rfl ?_ ?_ | refine regD (T := tab) tOk mixedR hnt rfl (by decide +kernel) ?_ ?_ | refine tr_block ?_ | refine tr_skip ?_)
    · (dsimp only [AllP]; (repeat' first | exact trivial | assumption | exact Nat.le_of_ble_eq_true rfl | apply And.intro | decide | intro _ | exact rfl))
    repeat' (first | refine tr_seq ?_ | refine tr_block ?_ | refine tr_skip ?_)
    refine tr_cond rfl (fun hc => ?_) (fun hc => ?_)
    · simp only [condT_tt, condT_ff, condF_tt, condF_ff, notE_t, notE_f, decide_eq_true_eq, decide_eq_false_iff_not] at hc
      have hjt : j < l.length := by omega
      have hg2 := rowsGet l j hjt
      repeat' (first | refine tr_seq ?_ | refine tr_block ?_ | refine tr_skip ?_)
      first | refine reg (T := tab) tOk hnt rfl ?_ ?_ | refine regD (T := tab) tOk mixedR hnt rfl (by decide +kernel) ?_ ?_
      · rw [Int.toNat_natCast, hg2, hml]
        (dsimp only [AllP]; (repeat' first | exact trivial | assumption | exact Nat.le_of_ble_eq_true rfl | apply And.intro | exact eCells_len1 _ _ ‹_› | exact eCells_isByte _ _ ‹_› | (intro hh_; have hg_ := hh_; (try simp only [condT_ff, condF_tt, notE_t, notE_f, Bool.and_eq_true, ne_eq, decide_eq_true_eq, decide_eq_false_iff_not] at hg_)) | intro _ | exact rfl | omega))
      rw [Int.toNat_natCast, hg2]
      have hkj := hk _ (memD (d := []) hjt)
      have ho := order_fn' _ _ hkj hki
      have hca : cntA l i (j + 1) = cntA l i j + (if ahd l i j = true then 1 else 0) := rfl
      have hcl := cntA_le l i j
      rw [← hn] at hca hcl
      unfold ahd at hca
      generalize l.getD j [] = b at *
      repeat' (first | refine tr_seq ?_ | refine tr_block ?_ | refine tr_skip ?_)
      refine tr_region (lex (T := tab) tOk hnt rfl ?_ (callC rfl rfl rfl rfl rfl rfl rfl hnt (ho) (lex (T := tab) tOk hnt rfl ?_ (Lex.nil _)))) ?_
      · (dsimp only [AllP]; (repeat' first | exact trivial | assumption | exact Nat.le_of_ble_eq_true rfl | apply And.intro | decide | intro _ | exact rfl))
      · (dsimp only [AllP]; (repeat' first | exact trivial | assumption | exact Nat.le_of_ble_eq_true rfl | apply And.intro | decide | intro _ | exact rfl))
      repeat' (first | refine tr_seq ?_ | refine tr_block ?_ | refine tr_skip ?_)
      first | refine reg (T := tab) tOk hnt rfl ?_ ?_ | refine regD (T := tab) tOk mixedR hnt rfl (by decide +kernel) ?_ ?_
      · (dsimp only [AllP]; (repeat' first | exact trivial | assumption | exact Nat.le_of_ble_eq_true rfl | apply And.intro | exact eCells_len1 _ _ ‹_› | exact eCells_isByte _ _ ‹_› | (intro hh_; have hg_ := hh_; (try simp only [condT_ff, condF_tt, notE_t, notE_f, Bool.and_eq_true, ne_eq, decide_eq_true_eq, decide_eq_false_iff_not] at hg_)) | intro _ | exact rfl | omega))
      repeat' (first | refine tr_seq ?_ | refine tr_block ?_ | refine tr_skip ?_)
      refine tr_cond rfl (fun hc => ?_) (fun hc => ?_)
      · have hc : (bif decide (ordI (kyR b) (kyR (l.getD i [])) < 0) then true else bif decide (ordI (kyR b) (kyR (l.getD i [])) = 0) then decide ((j : Int) < (i : Int)) else false) = true := hc
        rw [ordA] at hc
        rw [if_pos hc] at hca
        repeat' (first | refine tr_seq ?_ | refine reg (T := tab) tOk hnt rfl ?_ ?_ | refine regD (T := tab) tOk mixedR hnt rfl (by decide +kernel) ?_ ?_ | refine tr_block ?_ | refine tr_skip ?_)
        · (dsimp only [AllP]; (repeat' first | exact trivial | assumption | exact Nat.le_of_ble_eq_true rfl | apply And.intro | decide | intro _ | exact rfl))
        · (dsimp only [AllP]; (repeat' first | exact trivial | assumption | exact Nat.le_of_ble_eq_true rfl | apply And.intro | decide | intro _ | exact rfl))
        refine ⟨(j + 1, n + 1), ⟨hca.symm, by dsimp only; omega⟩, by dsimp only; omega, le_of (ad := []) (by refine ⟨?_, ?_, ?_, ?_, ?_, ?_, ?_, ?_, ?_, ?_, ?_, ?_, trivial⟩ <;> first | exact trivial | rfl | exact ⟨rfl, rfl⟩ | exact ⟨rfl, rfl, rfl⟩ | exact ⟨rfl, rfl, rfl, rfl⟩ | exact ⟨rfl, rfl, rfl, rfl, rfl⟩ | exact congrArg (fun z : Int => E.v (.int .i64 z)) (wrap64_id (by omega) (by omega))) (memOk_row rfl rfl rfl trivial)⟩
      have hc : (bif decide (ordI (kyR b) (kyR (l.getD i [])) < 0) then true else bif decide (ordI (kyR b) (kyR (l.getD i [])) = 0) then decide ((j : Int) < (i : Int)) else false) = false := hc
      rw [ordA] at hc
      rw [if_neg (by rw [hc]; exact Bool.false_ne_true)] at hca
      repeat' (first | refine tr_seq ?_ | refine reg (T := tab) tOk hnt rfl ?_ ?_ | refine regD (T := tab) tOk mixedR hnt rfl (by decide +kernel) ?_ ?_ | refine tr_block ?_ | refine tr_skip ?_)
      · (dsimp only [AllP]; (repeat' first | exact trivial | assumption | exact Nat.le_of_ble_eq_true rfl | apply And.intro | decide | intro _ | exact rfl))
      refine ⟨(j + 1, n), ⟨hca.symm, by dsimp only; omega⟩, by dsimp only; omega, le_of (ad := []) (by refine ⟨?_, ?_, ?_, ?_, ?_, ?_, ?_, ?_, ?_, ?_, ?_, ?_, trivial⟩ <;> first | exact trivial | rfl | exact ⟨rfl, rfl⟩ | exact ⟨rfl, rfl, rfl⟩ | exact ⟨rfl, rfl, rfl, rfl⟩ | exact ⟨rfl, rfl, rfl, rfl, rfl⟩ | exact congrArg (fun z : Int => E.v (.int .i64 z)) (wrap64_id (by omega) (by omega))) (memOk_row rfl rfl rfl trivial)⟩
    simp only [condT_tt, condT_ff, condF_tt, condF_ff, notE_t, notE_f, decide_eq_true_eq, decide_eq_false_iff_not] at hc
    refine tr_exit ?_
    obtain rfl : j = l.length := by omega
    have hlt2 := cntA_lt l i l.length hlt
    have hln := rkF_len l i
    have hml2 : ((rkF l i).map fun r => [eRow r]).length = l.length := by rw [List.length_map, hln]
    subst hn
    have h13 : ((cntA l i l.length : Nat) : Int) < (((rkF l i).map fun r => [eRow r]).length : Int) := by rw [hml2]; omega
    have h14 : ((cntA l i l.length : Nat) : Int).toNat < ((rkF l i).map fun r => [eRow r]).length := by rw [hml2]; exact hlt2
    have h15 : 0 ≤ ((cntA l i l.length : Nat) : Int) := Int.natCast_nonneg _
    have hse : setEl ((rkF l i).map fun r => [eRow r]) ((cntA l i l.length : Nat) : Int).toNat 0 1 [E.sl ((l.getD i []).map eVal)] = (rkF l (i + 1)).map fun r => [eRow r] := by
      rw [Int.toNat_natCast, rkF, List.map_set]
      exact setOne _ _ _ (by rw [hml2]; exact hlt2) (fun cs hcs => by obtain ⟨r, _, rfl⟩ := List.mem_map.1 hcs; rfl)
    repeat' (first | refine tr_seq ?_ | refine reg (T := tab) tOk hnt rfl ?_ ?_ | refine regD (T := tab) tOk mixedR hnt rfl (by decide +kernel) ?_ ?_ | refine tr_block ?_ | refine tr_skip ?_)
    · (dsimp only [AllP]; (repeat' first | exact trivial | assumption | exact Nat.le_of_ble_eq_true rfl | apply And.intro | decide | intro _ | exact rfl))
    · (dsimp only [AllP]; (repeat' first | exact trivial | assumption | exact Nat.le_of_ble_eq_true rfl | apply And.intro | exact eCells_len1 _ _ ‹_› | exact eCells_isByte _ _ ‹_› | (intro hh_; have hg_ := hh_; (try simp only [condT_ff, condF_tt, notE_t, notE_f, Bool.and_eq_true, ne_eq, decide_eq_true_eq, decide_eq_false_iff_not] at hg_)) | intro _ | exact rfl | omega))
    refine ⟨i + 1, (by omega), by omega, le_of (ad := []) (by refine ⟨?_, ?_, ?_, ?_, ?_, ?_, trivial⟩ <;> first | exact trivial | rfl | exact ⟨rfl, rfl⟩ | exact ⟨rfl, rfl, rfl⟩ | exact ⟨rfl, rfl, rfl, rfl⟩ | exact ⟨rfl, rfl, rfl, rfl, rfl⟩ | exact congrArg (fun z : Int => E.v (.int .i64 z)) (wrap64_id (by omega) (by omega))) (memOk_row rfl rfl hse trivial)⟩
  simp only [condT_tt, condT_ff, condF_tt, condF_ff, notE_t, notE_f, decide_eq_true_eq, decide_eq_false_iff_not] at hc
  refine tr_exit ?_
  obtain rfl : i = l.length := by omega
  repeat' (first | refine tr_seq ?_ | refine reg (T := tab) tOk hnt rfl ?_ ?_ | refine regD (T := tab) tOk mixedR hnt rfl (by decide +kernel) ?_ ?_ | refine tr_block ?_ | refine tr_skip ?_)
  · (dsimp only [AllP]; (repeat' first | exact trivial | assumption | exact Nat.le_of_ble_eq_true rfl | apply And.intro | decide | intro _ | exact rfl))
  repeat' (first | refine tr_seq ?_ | refine tr_block ?_ | refine tr_skip ?_)
  exact tr_ret ⟨.inr rfl, _, _, rfl, trivial, rfl⟩
end Go.Proofs.YtcjeeoimjkhijaaDoor
namespace Go.Proofs.YtcjeeoimjkhijaaDoor
open Go Go.RowKit Go.Proofs.YtcjeeoimjkhijaaDoor.Ab
set_option linter.unusedSimpArgs false
set_option linter.unusedVariables false

set_option maxRecDepth 10000 in
set_option maxHeartbeats 2000000 in
theorem sameRows_fn (r : List (List Val)) : FnD Tryd.prog 18 [.one (.e (eRows r)), .one (.e (eRows r))] (.v (.bool true)) := by
  refine FnD.len ⟨_, _, Tryd.func18, rfl, by kernel_rfl⟩ 0 rfl fun hl0 => ?_
  refine fn_intro (T := tab) tOk Tryd.func18 rfl (by kernel_rfl) (by simp [Tryd.ntmps18]) ?_
  intro X hX
  have hnt : X.nt = 27 := hX
  clear hX
  have hml : (r.map fun r => [eRow r]).length = r.length := List.length_map ..
  unfold maxLen at hl0
  repeat' (first | refine tr_seq ?_ | refine reg (T := tab) tOk hnt rfl ?_ ?_ | refine regD (T := tab) tOk mixedR hnt rfl (by decide +kernel) ?_ ?_ | refine tr_block ?_ | refine tr_skip ?_)
  · (dsimp only [AllP]; (repeat' first | exact trivial | assumption | exact Nat.le_of_ble_eq_true rfl | apply And.intro | decide | intro _ | exact rfl))
  · (dsimp only [AllP]; (repeat' first | exact trivial | assumption | exact Nat.le_of_ble_eq_true rfl | apply And.intro | decide | intro _ | exact rfl))
  repeat' (first | refine tr_seq ?_ | refine tr_block ?_ | refine tr_skip ?_)
  refine tr_cond rfl (fun hc => ?_) (fun hc => ?_)
  · simp only [condT_tt, condT_ff, condF_tt, condF_ff, notE_t, notE_f, decide_eq_true_eq, decide_eq_false_iff_not] at hc
    exact (hc trivial).elim
  simp only [condT_tt, condT_ff, condF_tt, condF_ff, notE_t, notE_f, decide_eq_true_eq, decide_eq_false_iff_not] at hc
  repeat' (first | refine tr_seq ?_ | refine reg (T := tab) tOk hnt rfl ?_ ?_ | refine regD (T := tab) tOk mixedR hnt rfl (by decide +kernel) ?_ ?_ | refine tr_block ?_ | refine tr_skip ?_)
  · (dsimp only [AllP]; (repeat' first | exact trivial | assumption | exact Nat.le_of_ble_eq_true rfl | apply And.intro | decide | intro _ | exact rfl))
  repeat' (first | refine tr_seq ?_ | refine tr_block ?_ | refine tr_skip ?_)
  refine tr_loop (σ := Nat) (fun i => St.of [(0, .one (.e (eRows r))), (1, .one (.e (eRows r))), (12, .one (.e (eI ((r.map fun r => [eRow r]).length : Int)))), (13, .one (.e (eI (i : Int))))] []) (fun i => i ≤ r.length) (fun i => r.length - i) (0) (le_of (ad := []) (by refine ⟨?_, ?_, ?_, ?_, trivial⟩ <;> first | exact trivial | rfl | exact ⟨rfl, rfl⟩ | exact ⟨rfl, rfl, rfl⟩ | exact ⟨rfl, rfl, rfl, rfl⟩ | exact ⟨rfl, rfl, rfl, rfl, rfl⟩ | exact congrArg (fun z : Int => E.v (.int .i64 z)) (wrap64_id (by omega) (by omega))) trivial) (Nat.zero_le _) ?_
  rintro i il
  repeat' (first | refine tr_seq ?_ | refine reg (T := tab) tOk hnt rfl ?_ ?_ | refine regD (T := tab) tOk mixedR hnt rfl (by decide +kernel) ?_ ?_ | refine tr_block ?_ | refine tr_skip ?_)
  · (dsimp only [AllP]; (repeat' first | exact trivial | assumption | exact Nat.le_of_ble_eq_true rfl | apply And.intro | decide | intro _ | exact rfl))
  repeat' (first | refine tr_seq ?_ | refine tr_block ?_ | refine tr_skip ?_)
  refine tr_cond rfl (fun hc => ?_) (fun hc => ?_)
  · simp only [condT_tt, condT_ff, condF_tt, condF_ff, notE_t, notE_f, decide_eq_true_eq, decide_eq_false_iff_not] at hc
    (try simp only [hml] at hc)
    (try simp only [condT_tt, condT_ff, condF_tt, condF_ff, notE_t, notE_f, decide_eq_true_eq, decide_eq_false_iff_not] at hc)
    have hlt : i < r.length := by omega
    have hg := rowsGet r i hlt
    have h1 := sameRow_fn (r.getD i [])
    have hx : E.sl (((r.map fun r => [eRow r]).getD (i : Int).toNat []).getD 0 E.dflt).xs = eRow (r.getD i []) := by rw [Int.toNat_natCast, hg]; rfl
    rw [← hx] at h1
    repeat' (first | refine tr_seq ?_ | refine tr_block ?_ | refine tr_skip ?_)
    first | refine reg (T := tab) tOk hnt rfl ?_ ?_ | refine regD (T := tab) tOk mixedR hnt rfl (by decide +kernel) ?_ ?_
    · (dsimp only [AllP]; (repeat' first | exact trivial | assumption | exact Nat.le_of_ble_eq_true rfl | apply And.intro | exact eCells_len1 _ _ ‹_› | exact eCells_isByte _ _ ‹_› | (intro hh_; have hg_ := hh_; (try simp only [condT_ff, condF_tt, notE_t, notE_f, Bool.and_eq_true, ne_eq, decide_eq_true_eq, decide_eq_false_iff_not] at hg_)) | intro _ | exact rfl | omega))
    repeat' (first | refine tr_seq ?_ | refine tr_block ?_ | refine tr_skip ?_)
    refine tr_draw (T := tab) tOk hnt mixedR (lexD (T := tab) rfl ?_ (callD rfl rfl rfl rfl rfl rfl rfl rfl (h1) (lexD (T := tab) rfl ?_ (.nil _)))) (by decide +kernel) ?_
    · rw [Int.toNat_natCast, hg, hml]
      (dsimp only [AllP]; (repeat' first | exact trivial | assumption | exact Nat.le_of_ble_eq_true rfl | apply And.intro | exact eCells_len1 _ _ ‹_› | exact eCells_isByte _ _ ‹_› | (intro hh_; have hg_ := hh_; (try simp only [condT_ff, condF_tt, notE_t, notE_f, Bool.and_eq_true, ne_eq, decide_eq_true_eq, decide_eq_false_iff_not] at hg_)) | intro _ | exact rfl | omega))
    · (dsimp only [AllP]; (repeat' first | exact trivial | assumption | exact Nat.le_of_ble_eq_true rfl | apply And.intro | exact eCells_len1 _ _ ‹_› | exact eCells_isByte _ _ ‹_› | (intro hh_; have hg_ := hh_; (try simp only [condT_ff, condF_tt, notE_t, notE_f, Bool.and_eq_true, ne_eq, decide_eq_true_eq, decide_eq_false_iff_not] at hg_)) | intro _ | exact rfl | omega))
    repeat' (first | refine tr_seq ?_ | refine tr_block ?_ | refine tr_skip ?_)
    refine tr_cond rfl (fun hc => ?_) (fun hc => ?_)
    · exact absurd (show false = true from hc) Bool.false_ne_true
    repeat' (first | refine tr_seq ?_ | refine reg (T := tab) tOk hnt rfl ?_ ?_ | refine regD (T := tab) tOk mixedR hnt rfl (by decide +kernel) ?_ ?_ | refine tr_block ?_ | refine tr_skip ?_)
    · (dsimp only [AllP]; (repeat' first | exact trivial | assumption | exact Nat.le_of_ble_eq_true rfl | apply And.intro | decide | intro _ | exact rfl))
    refine ⟨i + 1, (by omega), by omega, le_of (ad := []) (by refine ⟨?_, ?_, ?_, ?_, trivial⟩ <;> first | exact trivial | rfl | exact ⟨rfl, rfl⟩ | exact ⟨rfl, rfl, rfl⟩ | exact ⟨rfl, rfl, rfl, rfl⟩ | exact ⟨rfl, rfl, rfl, rfl, rfl⟩ | exact congrArg (fun z : Int => E.v (.int .i64 z)) (wrap64_id (by omega) (by omega))) trivial⟩
  simp only [condT_tt, condT_ff, condF_tt, condF_ff, notE_t, notE_f, decide_eq_true_eq, decide_eq_false_iff_not] at hc
  (try simp only [hml] at hc)
  (try simp only [condT_tt, condT_ff, condF_tt, condF_ff, notE_t, notE_f, decide_eq_true_eq, decide_eq_false_iff_not] at hc)
  refine tr_exit ?_
  repeat' (first | refine tr_seq ?_ | refine reg (T := tab) tOk hnt rfl ?_ ?_ | refine regD (T := tab) tOk mixedR hnt rfl (by decide +kernel) ?_ ?_ | refine tr_block ?_ | refine tr_skip ?_)
  · (dsimp only [AllP]; (repeat' first | exact trivial | assumption | exact Nat.le_of_ble_eq_true rfl | apply And.intro | decide | intro _ | exact rfl))
  exact tr_ret ⟨.inr rfl, _, _, rfl, trivial, rfl⟩
end Go.Proofs.YtcjeeoimjkhijaaDoor
namespace Go.Proofs.YtcjeeoimjkhijaaDoor
open Go Go.RowKit Go.Proofs.YtcjeeoimjkhijaaDoor.Ab
set_option linter.unusedSimpArgs false
set_option linter.unusedVariables false

def flR (d : List Cel) : List (List Val) := (d.filter fun c => c.f).map Cel.r
theorem flR_len (d : List Cel) : (flR d).length ≤ d.length := by
  unfold flR
  rw [List.length_map]
  exact List.length_filter_le ..
theorem flR_app (p : List Cel) (c : Cel) : flR (p ++ [c]) = flR p ++ (if c.f = true then [c.r] else []) := by
  unfold flR
  rw [List.filter_append, List.map_append]
  by_cases h : c.f = true
  · rw [if_pos h, List.filter_cons_of_pos h]; rfl
  · rw [if_neg h, List.filter_cons_of_neg h]; rfl
def rkA (d : List Cel) : List (List Val) := rkF (flR d) (flR d).length
def rwA : List (List Cel) → List Bool → List (List Val)
  | d :: ds, o :: os => (if o = true then rkA d else []) ++ rwA ds os
  | _, _ => []
theorem rwA_nil (o : List Bool) : rwA [] o = [] := rfl
def eRs (l : List (List Val)) : List (List E) := l.map fun r => [eRow r]
set_option maxRecDepth 10000 in
set_option maxHeartbeats 2000000 in
theorem rowsOf_fn (t : Tbl) (o : List Bool) (h : t.ok) (ho : o.length = 2) (hz : tabF t = 0) : FnD Tryd.prog 47 [.agg (.es (eTab t)), .agg (.es (o.map eBl))] (.one (.e (eRows (rwA t.d o)))) := by
  refine fn_intro (T := tab) tOk Tryd.func47 rfl (by kernel_rfl) (by simp [Tryd.ntmps47]) ?_
  intro X hX
  have hnt : X.nt = 39 := hX
  clear hX
  have h19 := tabLen h
  have hd := tabDr h
  have f19 : 0 + 19 ≤ (Cs.es (eTab t)).len := by show 0 + 19 ≤ (eTab t).length; omega
  have f16 : 0 + 3 + 16 ≤ (Cs.es (eTab t)).len := f19
  obtain ⟨p1, p2, p3, p4, p5⟩ := tabF_parts hz
  have h2 := h.h2
  repeat' (first | refine tr_seq ?_ | refine reg (T := tab) tOk hnt rfl ?_ ?_ | refine regD (T := tab) tOk mixedR hnt rfl (by decide +kernel) ?_ ?_ | refine tr_block ?_ | refine tr_skip ?_)
  · (dsimp only [AllP]; (repeat' first | exact trivial | assumption | exact Nat.le_of_ble_eq_true rfl | apply And.intro | decide | intro _ | exact rfl))
  · (dsimp only [AllP]; (repeat' first | exact trivial | assumption | exact Nat.le_of_ble_eq_true rfl | apply And.intro | decide | intro _ | exact rfl))
  · (dsimp only [AllP]; (repeat' first | exact trivial | assumption | exact Nat.le_of_ble_eq_true rfl | apply And.intro | decide | intro _ | exact rfl))
  rw [hd]
  repeat' (first | refine tr_seq ?_ | refine tr_block ?_ | refine tr_skip ?_)
  refine tr_loop (σ := Nat × List (List Val)) (fun y => St.of [(3, .one (.ptr 3 0 0)), (5, .one (.own 36 0)), (12, .agg (.es (t.d.map eDr).flatten)), (13, .one (.e (eI (y.1 : Int))))] [(3, ⟨0, .box (.es (o.map eBl)), 0⟩), (36, ⟨0, .row 1 (eRs y.2), 0⟩)]) (fun y => y.2 ++ rwA (t.d.drop y.1) (o.drop y.1) = rwA t.d o ∧ y.1 ≤ 2 ∧ y.2.length ≤ 4 * y.1) (fun y => 2 - y.1) ((0, [])) (le_of (ad := [36]) (by refine ⟨?_, ?_, ?_, ?_, trivial⟩ <;> first | exact trivial | rfl | exact ⟨rfl, rfl⟩ | exact ⟨rfl, rfl, rfl⟩ | exact ⟨rfl, rfl, rfl, rfl⟩ | exact ⟨rfl, rfl, rfl, rfl, rfl⟩ | exact congrArg (fun z : Int => E.v (.int .i64 z)) (wrap64_id (by omega) (by omega))) (memOk_box rfl rfl rfl (memOk_new rfl (by decide) trivial))) ⟨rfl, Nat.zero_le _, Nat.zero_le _⟩ ?_
  rintro ⟨i, acc⟩ ⟨hi, il, hal⟩
  dsimp only at hi il hal ⊢
  repeat' (first | refine tr_seq ?_ | refine reg (T := tab) tOk hnt rfl ?_ ?_ | refine regD (T := tab) tOk mixedR hnt rfl (by decide +kernel) ?_ ?_ | refine tr_block ?_ | refine tr_skip ?_)
  · (dsimp only [AllP]; (repeat' first | exact trivial | assumption | exact Nat.le_of_ble_eq_true rfl | apply And.intro | decide | intro _ | exact rfl))
  repeat' (first | refine tr_seq ?_ | refine tr_block ?_ | refine tr_skip ?_)
  refine tr_cond rfl (fun hc => ?_) (fun hc => ?_)
  · simp only [condT_tt, condT_ff, condF_tt, condF_ff, notE_t, notE_f, decide_eq_true_eq, decide_eq_false_iff_not] at hc
    have hlt : i < t.d.length := by omega
    have hob : (o.map eBl).getD (0 + (i : Int).toNat * 1) E.dflt = eBl (o.getD i false) := by
      rw [show 0 + (i : Int).toNat * 1 = i by omega, List.getD_eq_getElem?_getD, List.getElem?_map, List.getElem?_eq_getElem (by omega), List.getD_eq_getElem?_getD, List.getElem?_eq_getElem (by omega)]
      rfl
    have hol : 0 + (i : Int).toNat * 1 + 1 ≤ (Cs.es (o.map eBl)).len := by show _ ≤ (o.map eBl).length; rw [List.length_map, ho]; omega
    have hA : ∀ z, D0.isA z (.e (eBl (o.getD i false))) → D0.isA z ((Cs.es (o.map eBl)).at (0 + (i : Int).toNat * 1)) := by
      intro z hz
      show D0.isA _ (.e ((o.map eBl).getD _ _))
      rw [hob]
      exact hz
    rw [drop_getD (d := []) hlt, drop_getD (d := false) (show i < o.length by omega), rwA] at hi
    have hm := memD (d := []) hlt
    have h4 := h.h4 _ hm
    have hkk := celF_kOk p4 (p5 _ hm).1
    have hvs := h.vs _ hm
    have hg : List.take 8 (List.drop ((i : Int).toNat * 8) (t.d.map eDr).flatten) = eDr (t.d.getD i []) := drGet h.h4 i hlt
    have h8 := drLen _ h4
    have e8 : (Cs.es (List.take 8 (List.drop ((i : Int).toNat * 8) (t.d.map eDr).flatten))).len = 8 := by rw [hg]; exact h8
    have l8 : i * 8 + 8 ≤ (Cs.es (t.d.map eDr).flatten).len := by rw [← hd]; show _ ≤ (List.take 16 _).length; rw [List.length_take, List.length_drop, h19]; omega
    repeat' (first | refine tr_seq ?_ | refine tr_block ?_ | refine tr_skip ?_)
    first | refine reg (T := tab) tOk hnt rfl ?_ ?_ | refine regD (T := tab) tOk mixedR hnt rfl (by decide +kernel) ?_ ?_
    · (dsimp only [AllP]; (repeat' first | exact trivial | assumption | exact Nat.le_of_ble_eq_true rfl | apply And.intro | exact eCells_len1 _ _ ‹_› | exact eCells_isByte _ _ ‹_› | (intro hh_; have hg_ := hh_; (try simp only [condT_ff, condF_tt, notE_t, notE_f, Bool.and_eq_true, ne_eq, decide_eq_true_eq, decide_eq_false_iff_not] at hg_)) | intro _ | exact rfl | omega))
    rw [hg]
    generalize t.d.getD i [] = e at *
    generalize o.getD i false = b at *
    repeat' (first | refine tr_seq ?_ | refine tr_block ?_ | refine tr_skip ?_)
    first | refine reg (T := tab) tOk hnt rfl ?_ ?_ | refine regD (T := tab) tOk mixedR hnt rfl (by decide +kernel) ?_ ?_
    · (dsimp only [AllP]; (repeat' first | exact trivial | assumption | exact Nat.le_of_ble_eq_true rfl | apply And.intro | exact eCells_len1 _ _ ‹_› | exact eCells_isByte _ _ ‹_› | (intro hh_; have hg_ := hh_; (try simp only [condT_ff, condF_tt, notE_t, notE_f, Bool.and_eq_true, ne_eq, decide_eq_true_eq, decide_eq_false_iff_not] at hg_)) | intro _ | exact rfl | omega))
      all_goals first | exact hA _ rfl | trace_state
    rw [hob]
    repeat' (first | refine tr_seq ?_ | refine tr_block ?_ | refine tr_skip ?_)
    refine tr_cond rfl (fun hc => ?_) (fun hc => ?_)
    · have hc : (!b) = true := hc
      rw [Bool.not_eq_true'] at hc
      rw [if_neg (by rw [hc]; exact Bool.false_ne_true), List.nil_append] at hi
      refine tr_exit ?_
      repeat' (first | refine tr_seq ?_ | refine reg (T := tab) tOk hnt rfl ?_ ?_ | refine regD (T := tab) tOk mixedR hnt rfl (by decide +kernel) ?_ ?_ | refine tr_block ?_ | refine tr_skip ?_)
      · (dsimp only [AllP]; (repeat' first | exact trivial | assumption | exact Nat.le_of_ble_eq_true rfl | apply And.intro | decide | intro _ | exact rfl))
      refine ⟨(i + 1, acc), ⟨hi, by dsimp only; omega, by dsimp only; omega⟩, by dsimp only; omega, le_of (ad := []) (by refine ⟨?_, ?_, ?_, ?_, trivial⟩ <;> first | exact trivial | rfl | exact ⟨rfl, rfl⟩ | exact ⟨rfl, rfl, rfl⟩ | exact ⟨rfl, rfl, rfl, rfl⟩ | exact ⟨rfl, rfl, rfl, rfl, rfl⟩ | exact congrArg (fun z : Int => E.v (.int .i64 z)) (wrap64_id (by omega) (by omega))) (memOk_box rfl rfl rfl (memOk_row rfl rfl rfl trivial))⟩
    have hc : (!b) = false := hc
    rw [Bool.not_eq_false'] at hc
    rw [if_pos hc] at hi
    have f8 : 0 + 8 ≤ (Cs.es (eDr e)).len := by show 0 + 8 ≤ (eDr e).length; omega
    repeat' (first | refine tr_seq ?_ | refine reg (T := tab) tOk hnt rfl ?_ ?_ | refine regD (T := tab) tOk mixedR hnt rfl (by decide +kernel) ?_ ?_ | refine tr_block ?_ | refine tr_skip ?_)
    · (dsimp only [AllP]; (repeat' first | exact trivial | assumption | exact Nat.le_of_ble_eq_true rfl | apply And.intro | decide | intro _ | exact rfl))
    · (dsimp only [AllP]; (repeat' first | exact trivial | assumption | exact Nat.le_of_ble_eq_true rfl | apply And.intro | exact eCells_len1 _ _ ‹_› | exact eCells_isByte _ _ ‹_› | (intro hh_; have hg_ := hh_; (try simp only [condT_ff, condF_tt, notE_t, notE_f, Bool.and_eq_true, ne_eq, decide_eq_true_eq, decide_eq_false_iff_not] at hg_)) | intro _ | exact rfl | omega))
    rw [show List.take 8 (List.drop 0 (eDr e)) = eDr e from List.take_of_length_le (Nat.le_of_eq h8)]
    repeat' (first | refine tr_seq ?_ | refine tr_block ?_ | refine tr_skip ?_)
    refine tr_loop (σ := Nat) (fun j => St.of [(3, .one (.ptr 3 0 0)), (5, .one (.own 36 0)), (8, .one (.own 31 0)), (12, .agg (.es (t.d.map eDr).flatten)), (13, .one (.e (eI (i : Int)))), (21, .agg (.es (eDr e))), (22, .one (.e (eI (j : Int))))] [(3, ⟨0, .box (.es (o.map eBl)), 0⟩), (31, ⟨0, .row 1 (eRs (flR (e.take j))), 0⟩), (36, ⟨0, .row 1 (eRs acc), 0⟩)]) (fun j => j ≤ e.length) (fun j => e.length - j) (0) (le_of (ad := [31]) (by refine ⟨?_, ?_, ?_, ?_, ?_, ?_, ?_, trivial⟩ <;> first | exact trivial | rfl | exact ⟨rfl, rfl⟩ | exact ⟨rfl, rfl, rfl⟩ | exact ⟨rfl, rfl, rfl, rfl⟩ | exact ⟨rfl, rfl, rfl, rfl, rfl⟩ | exact congrArg (fun z : Int => E.v (.int .i64 z)) (wrap64_id (by omega) (by omega))) (memOk_box rfl rfl rfl (memOk_new rfl (by decide) (memOk_row rfl rfl rfl trivial)))) (Nat.zero_le _) ?_
    rintro j jl
    repeat' (first | refine tr_seq ?_ | refine reg (T := tab) tOk hnt rfl ?_ ?_ | refine regD (T := tab) tOk mixedR hnt rfl (by decide +kernel) ?_ ?_ | refine tr_block ?_ | refine tr_skip ?_)
    · (dsimp only [AllP]; (repeat' first | exact trivial | assumption | exact Nat.le_of_ble_eq_true rfl | apply And.intro | decide | intro _ | exact rfl))
    repeat' (first | refine tr_seq ?_ | refine tr_block ?_ | refine tr_skip ?_)
    refine tr_cond rfl (fun hc => ?_) (fun hc => ?_)
    · simp only [condT_tt, condT_ff, condF_tt, condF_ff, notE_t, notE_f, decide_eq_true_eq, decide_eq_false_iff_not] at hc
      have hjt : j < e.length := by omega
      have hg2 : List.take 2 (List.drop ((j : Int).toNat * 2) (eDr e)) = eCel (e.getD j cel0) := flatGet eCel 2 cel0 (fun _ => rfl) e j hjt
      have e2 : (Cs.es (List.take 2 (List.drop ((j : Int).toNat * 2) (eDr e)))).len = 2 := congrArg List.length hg2
      have l2 : j * 2 + 2 ≤ (Cs.es (eDr e)).len := by show _ ≤ (eDr e).length; omega
      have hfa := flR_app (e.take j) (e.getD j cel0)
      rw [← take_succ hjt] at hfa
      have hfl := flR_len (e.take j)
      rw [List.length_take] at hfl
      repeat' (first | refine tr_seq ?_ | refine tr_block ?_ | refine tr_skip ?_)
      first | refine reg (T := tab) tOk hnt rfl ?_ ?_ | refine regD (T := tab) tOk mixedR hnt rfl (by decide +kernel) ?_ ?_
      · (dsimp only [AllP]; (repeat' first | exact trivial | assumption | exact Nat.le_of_ble_eq_true rfl | apply And.intro | exact eCells_len1 _ _ ‹_› | exact eCells_isByte _ _ ‹_› | (intro hh_; have hg_ := hh_; (try simp only [condT_ff, condF_tt, notE_t, notE_f, Bool.and_eq_true, ne_eq, decide_eq_true_eq, decide_eq_false_iff_not] at hg_)) | intro _ | exact rfl | omega))
      rw [hg2]
      generalize e.getD j cel0 = x at *
      repeat' (first | refine tr_seq ?_ | refine tr_block ?_ | refine tr_skip ?_)
      first | refine reg (T := tab) tOk hnt rfl ?_ ?_ | refine regD (T := tab) tOk mixedR hnt rfl (by decide +kernel) ?_ ?_
      · (dsimp only [AllP]; (repeat' first | exact trivial | assumption | exact Nat.le_of_ble_eq_true rfl | apply And.intro | exact eCells_len1 _ _ ‹_› | exact eCells_isByte _ _ ‹_› | (intro hh_; have hg_ := hh_; (try simp only [condT_ff, condF_tt, notE_t, notE_f, Bool.and_eq_true, ne_eq, decide_eq_true_eq, decide_eq_false_iff_not] at hg_)) | intro _ | exact rfl | omega))
      repeat' (first | refine tr_seq ?_ | refine tr_block ?_ | refine tr_skip ?_)
      refine tr_cond rfl (fun hc => ?_) (fun hc => ?_)
      · have hc : x.f = true := hc
        rw [if_pos hc] at hfa
        have hlr : (eRs (flR (e.take j))).length = (flR (e.take j)).length := List.length_map ..
        have q1 : (eRs (flR (e.take j))).length + 1 ≤ maxLen := by unfold maxLen; omega
        have q2 : ((eRs (flR (e.take j))).length + 1) * 24 ≤ 140737488355328 := by omega
        have hap : eRs (flR (e.take j)) ++ [[eRow x.r]] = eRs (flR (e.take (j + 1))) := by rw [hfa]; unfold eRs; rw [List.map_append]; rfl
        repeat' (first | refine tr_seq ?_ | refine tr_block ?_ | refine tr_skip ?_)
        first | refine reg (T := tab) tOk hnt rfl ?_ ?_ | refine regD (T := tab) tOk mixedR hnt rfl (by decide +kernel) ?_ ?_
        · (dsimp only [AllP]; (repeat' first | exact trivial | assumption | exact Nat.le_of_ble_eq_true rfl | apply And.intro | exact eCells_len1 _ _ ‹_› | exact eCells_isByte _ _ ‹_› | (intro hh_; have hg_ := hh_; (try simp only [condT_ff, condF_tt, notE_t, notE_f, Bool.and_eq_true, ne_eq, decide_eq_true_eq, decide_eq_false_iff_not] at hg_)) | intro _ | exact rfl | omega))
          all_goals trace_state
        repeat' (first | refine tr_seq ?_ | refine reg (T := tab) tOk hnt rfl ?_ ?_ | refine regD (T := tab) tOk mixedR hnt rfl (by decide +kernel) ?_ ?_ | refine tr_block ?_ | refine tr_skip ?_)
        · (dsimp only [AllP]; (repeat' first | exact trivial | assumption | exact Nat.le_of_ble_eq_true rfl | apply And.intro | decide | intro _ | exact rfl))
        refine ⟨j + 1, (by omega), by omega, le_of (ad := []) (by refine ⟨?_, ?_, ?_, ?_, ?_, ?_, ?_, trivial⟩ <;> first | exact trivial | rfl | exact ⟨rfl, rfl⟩ | exact ⟨rfl, rfl, rfl⟩ | exact ⟨rfl, rfl, rfl, rfl⟩ | exact ⟨rfl, rfl, rfl, rfl, rfl⟩ | exact congrArg (fun z : Int => E.v (.int .i64 z)) (wrap64_id (by omega) (by omega))) (memOk_box rfl rfl rfl (memOk_row rfl rfl hap (memOk_row rfl rfl rfl trivial)))⟩
      have hc : x.f = false := hc
      rw [if_neg (by rw [hc]; exact Bool.false_ne_true), List.append_nil] at hfa
      repeat' (first | refine tr_seq ?_ | refine reg (T := tab) tOk hnt rfl ?_ ?_ | refine regD (T := tab) tOk mixedR hnt rfl (by decide +kernel) ?_ ?_ | refine tr_block ?_ | refine tr_skip ?_)
      · (dsimp only [AllP]; (repeat' first | exact trivial | assumption | exact Nat.le_of_ble_eq_true rfl | apply And.intro | decide | intro _ | exact rfl))
      rw [← hfa]
      refine ⟨j + 1, (by omega), by omega, le_of (ad := []) (by refine ⟨?_, ?_, ?_, ?_, ?_, ?_, ?_, trivial⟩ <;> first | exact trivial | rfl | exact ⟨rfl, rfl⟩ | exact ⟨rfl, rfl, rfl⟩ | exact ⟨rfl, rfl, rfl, rfl⟩ | exact ⟨rfl, rfl, rfl, rfl, rfl⟩ | exact congrArg (fun z : Int => E.v (.int .i64 z)) (wrap64_id (by omega) (by omega))) (memOk_box rfl rfl rfl (memOk_row rfl rfl rfl (memOk_row rfl rfl rfl trivial)))⟩
    simp only [condT_tt, condT_ff, condF_tt, condF_ff, notE_t, notE_f, decide_eq_true_eq, decide_eq_false_iff_not] at hc
    refine tr_exit ?_
    rw [List.take_of_length_le (by omega)]
    have hfl := flR_len e
    have hrk := ranked_fn (flR e) (by omega) (fun r hr => by
      unfold flR at hr
      obtain ⟨c, hcm, rfl⟩ := List.mem_map.1 hr
      obtain ⟨hc1, hc2⟩ := List.mem_filter.1 hcm
      obtain ⟨k1, _⟩ := hkk c hc1 hc2
      cases hcr : c.r with
      | nil => exact absurd hcr k1
      | cons v s => exact ⟨v, s, rfl, (hvs c hc1 v (by rw [hcr]; exact List.mem_cons_self)).1⟩)
    have hkl : (rkF (flR e) (flR e).length).length ≤ 4 := by rw [rkF_len]; omega
    have hal2 : (eRs acc).length = acc.length := List.length_map ..
    have hbl : ((rkF (flR e) (flR e).length).map fun r => [eRow r]).length = (rkF (flR e) (flR e).length).length := List.length_map ..
    have s1 : (eRs acc).length + ((rkF (flR e) (flR e).length).map fun r => [eRow r]).length ≤ maxLen := by unfold maxLen; omega
    have s2 : ((eRs acc).length + ((rkF (flR e) (flR e).length).map fun r => [eRow r]).length) * 24 ≤ 140737488355328 := by omega
    have s3 : ∀ cs ∈ (rkF (flR e) (flR e).length).map fun r => [eRow r], cs.length = 1 := by
      intro cs hcs
      obtain ⟨r, _, rfl⟩ := List.mem_map.1 hcs
      rfl
    repeat' (first | refine tr_seq ?_ | refine tr_block ?_ | refine tr_skip ?_)
    refine tr_region (lex (T := tab) tOk hnt rfl ?_ (callU rfl rfl rfl rfl rfl rfl rfl hnt (hrk) (lex (T := tab) tOk hnt rfl ?_ (Lex.nil _)))) ?_
    · (dsimp only [AllP]; (repeat' first | exact trivial | assumption | exact Nat.le_of_ble_eq_true rfl | apply And.intro | exact eCells_len1 _ _ ‹_› | exact eCells_isByte _ _ ‹_› | (intro hh_; have hg_ := hh_; (try simp only [condT_ff, condF_tt, notE_t, notE_f, Bool.and_eq_true, ne_eq, decide_eq_true_eq, decide_eq_false_iff_not] at hg_)) | intro _ | exact rfl | omega))
    · (dsimp only [AllP]; (repeat' first | exact trivial | assumption | exact Nat.le_of_ble_eq_true rfl | apply And.intro | exact eCells_len1 _ _ ‹_› | exact eCells_isByte _ _ ‹_› | (intro hh_; have hg_ := hh_; (try simp only [condT_ff, condF_tt, notE_t, notE_f, Bool.and_eq_true, ne_eq, decide_eq_true_eq, decide_eq_false_iff_not] at hg_)) | intro _ | exact rfl | omega))
    have hap : eRs acc ++ ((rkF (flR e) (flR e).length).map fun r => [eRow r]) = eRs (acc ++ rkA e) := by unfold eRs rkA; rw [List.map_append]
    repeat' (first | refine tr_seq ?_ | refine reg (T := tab) tOk hnt rfl ?_ ?_ | refine regD (T := tab) tOk mixedR hnt rfl (by decide +kernel) ?_ ?_ | refine tr_block ?_ | refine tr_skip ?_)
    · (dsimp only [AllP]; (repeat' first | exact trivial | assumption | exact Nat.le_of_ble_eq_true rfl | apply And.intro | decide | intro _ | exact rfl))
    rw [← List.append_assoc] at hi
    refine ⟨(i + 1, acc ++ rkA e), ⟨hi, by dsimp only; omega, by dsimp only; rw [List.length_append]; unfold rkA; omega⟩, by dsimp only; omega, le_of (ad := []) (by refine ⟨?_, ?_, ?_, ?_, trivial⟩ <;> first | exact trivial | rfl | exact ⟨rfl, rfl⟩ | exact ⟨rfl, rfl, rfl⟩ | exact ⟨rfl, rfl, rfl, rfl⟩ | exact ⟨rfl, rfl, rfl, rfl, rfl⟩ | exact congrArg (fun z : Int => E.v (.int .i64 z)) (wrap64_id (by omega) (by omega))) (memOk_box rfl rfl rfl (memOk_row rfl rfl hap trivial))⟩
  simp only [condT_tt, condT_ff, condF_tt, condF_ff, notE_t, notE_f, decide_eq_true_eq, decide_eq_false_iff_not] at hc
  refine tr_exit ?_
  have : i = 2 := by omega
  subst this
  rw [List.drop_eq_nil_of_le (by omega), rwA_nil, List.append_nil] at hi
  rw [← hi]
  repeat' (first | refine tr_seq ?_ | refine reg (T := tab) tOk hnt rfl ?_ ?_ | refine regD (T := tab) tOk mixedR hnt rfl (by decide +kernel) ?_ ?_ | refine tr_block ?_ | refine tr_skip ?_)
  · (dsimp only [AllP]; (repeat' first | exact trivial | assumption | exact Nat.le_of_ble_eq_true rfl | apply And.intro | decide | intro _ | exact rfl))
  repeat' (first | refine tr_seq ?_ | refine tr_block ?_ | refine tr_skip ?_)
  exact tr_ret ⟨.inr rfl, _, _, rfl, trivial, rfl⟩
def rRs (r : List (List Val) × Int) : D := .tup [(false, .es [eRows r.1]), (false, .es [eI r.2])]
def rowsAF (t : Tbl) (o : List Bool) : List (List Val) × Int := if tabF t ≠ 0 then ([], tabF t) else (rwA t.d o, 0)
set_option maxRecDepth 10000 in
set_option maxHeartbeats 2000000 in
theorem RowsOf_fn (t : Tbl) (o : List Bool) (h : t.ok) (ho : o.length = 2) : FnG Tryd.prog 17 gK [.agg (.es (eTab t)), .agg (.es (o.map eBl))] (rRs (rowsAF t o)) := by
  refine fn_introG (T := tab) tOk Tryd.func17 rfl (by kernel_rfl) (by simp [Tryd.ntmps17]) ?_
  intro X hX
  have hnt : X.nt = 15 := hX
  clear hX
  have h19 := tabLen h
  have f19 : 0 + 19 ≤ (Cs.es (eTab t)).len := by show 0 + 19 ≤ (eTab t).length; omega
  have hol : (o.map eBl).length = 2 := by rw [List.length_map, ho]
  have f2 : 0 + 2 ≤ (Cs.es (o.map eBl)).len := by show _ ≤ (o.map eBl).length; omega
  have h1 := tableFault_fn t h
  have h2 := fun hz => rowsOf_fn t o h ho hz
  have oAll : List.take 2 (List.drop 0 (o.map eBl)) = o.map eBl := List.take_of_length_le (Nat.le_of_eq hol)
  unfold rowsAF
  rw [← tabAll h] at h1 h2
  rw [← oAll] at h2
  generalize tabF t = e at *
  repeat' (first | refine tr_seq ?_ | refine reg (T := tab) tOk hnt rfl ?_ ?_ | refine regD (T := tab) tOk mixedR hnt rfl (by decide +kernel) ?_ ?_ | refine tr_block ?_ | refine tr_skip ?_)
  · (dsimp only [AllP]; (repeat' first | exact trivial | assumption | exact Nat.le_of_ble_eq_true rfl | apply And.intro | decide | intro _ | exact rfl))
  repeat' (first | refine tr_seq ?_ | refine tr_block ?_ | refine tr_skip ?_)
  refine tr_region (lex (T := tab) tOk hnt rfl ?_ (callV rfl rfl rfl rfl rfl rfl rfl hnt rfl (h1) (lex (T := tab) tOk hnt rfl ?_ (Lex.nil _)))) ?_
  · (dsimp only [AllP]; (repeat' first | exact trivial | assumption | exact Nat.le_of_ble_eq_true rfl | apply And.intro | exact eCells_len1 _ _ ‹_› | exact eCells_isByte _ _ ‹_› | (intro hh_; have hg_ := hh_; (try simp only [condT_ff, condF_tt, notE_t, notE_f, Bool.and_eq_true, ne_eq, decide_eq_true_eq, decide_eq_false_iff_not] at hg_)) | intro _ | exact rfl | omega))
  · (dsimp only [AllP]; (repeat' first | exact trivial | assumption | exact Nat.le_of_ble_eq_true rfl | apply And.intro | decide | intro _ | exact rfl))
  repeat' (first | refine tr_seq ?_ | refine reg (T := tab) tOk hnt rfl ?_ ?_ | refine regD (T := tab) tOk mixedR hnt rfl (by decide +kernel) ?_ ?_ | refine tr_block ?_ | refine tr_skip ?_)
  · (dsimp only [AllP]; (repeat' first | exact trivial | assumption | exact Nat.le_of_ble_eq_true rfl | apply And.intro | decide | intro _ | exact rfl))
  repeat' (first | refine tr_seq ?_ | refine tr_block ?_ | refine tr_skip ?_)
  refine tr_cond rfl (fun hc => ?_) (fun hc => ?_)
  · simp only [condT_tt, condT_ff, condF_tt, condF_ff, notE_t, notE_f, decide_eq_true_eq, decide_eq_false_iff_not] at hc
    rw [if_pos hc]
    repeat' (first | refine tr_seq ?_ | refine reg (T := tab) tOk hnt rfl ?_ ?_ | refine regD (T := tab) tOk mixedR hnt rfl (by decide +kernel) ?_ ?_ | refine tr_block ?_ | refine tr_skip ?_)
    · (dsimp only [AllP]; (repeat' first | exact trivial | assumption | exact Nat.le_of_ble_eq_true rfl | apply And.intro | decide | intro _ | exact rfl))
    repeat' (first | refine tr_seq ?_ | refine tr_block ?_ | refine tr_skip ?_)
    refine tr_ret ⟨.inr rfl, _, _, rfl, by (repeat' first | exact trivial | exact Nat.le_of_ble_eq_true rfl | apply And.intro), ?_⟩
    exact rfl
  simp only [condT_tt, condT_ff, condF_tt, condF_ff, notE_t, notE_f, decide_eq_true_eq, decide_eq_false_iff_not] at hc
  rw [if_neg (not_not_intro hc)]
  have h2 := h2 hc
  repeat' (first | refine tr_seq ?_ | refine tr_block ?_ | refine tr_skip ?_)
  refine tr_region (lex (T := tab) tOk hnt rfl ?_ (call rfl rfl rfl rfl rfl rfl rfl hnt (h2) (lex (T := tab) tOk hnt rfl ?_ (Lex.nil _)))) ?_
  · (dsimp only [AllP]; (repeat' first | exact trivial | assumption | exact Nat.le_of_ble_eq_true rfl | apply And.intro | exact eCells_len1 _ _ ‹_› | exact eCells_isByte _ _ ‹_› | (intro hh_; have hg_ := hh_; (try simp only [condT_ff, condF_tt, notE_t, notE_f, Bool.and_eq_true, ne_eq, decide_eq_true_eq, decide_eq_false_iff_not] at hg_)) | intro _ | exact rfl | omega))
  · (dsimp only [AllP]; (repeat' first | exact trivial | assumption | exact Nat.le_of_ble_eq_true rfl | apply And.intro | decide | intro _ | exact rfl))
  repeat' (first | refine tr_seq ?_ | refine tr_block ?_ | refine tr_skip ?_)
  refine tr_ret ⟨.inr rfl, _, _, rfl, by (repeat' first | exact trivial | exact Nat.le_of_ble_eq_true rfl | apply And.intro), ?_⟩
  exact rfl
end Go.Proofs.YtcjeeoimjkhijaaDoor
namespace Go.Proofs.YtcjeeoimjkhijaaDoor
open Go Go.RowKit Go.Proofs.YtcjeeoimjkhijaaDoor.Ab
set_option linter.unusedSimpArgs false
set_option linter.unusedVariables false

/-! ### rows put in one by one -/
/-- row x goes down among those ahead of it (the last first) -/
def bubF : List (List Val) → List Val → List (List Val) → List (List Val)
  | [], x, v => x :: v
  | y :: u, x, v => if kyR x < kyR y then bubF u x (y :: v) else (y :: u).reverse ++ x :: v
def iS (l : List (List Val)) : List (List Val) := l.foldl (fun s x => bubF s.reverse x []) []
theorem bubF_len : ∀ (u : List (List Val)) (x : List Val) (v : List (List Val)), (bubF u x v).length = u.length + 1 + v.length
  | [], x, v => by rw [bubF, List.length_cons, List.length_nil]; omega
  | y :: u, x, v => by
    rw [bubF]
    split
    · rw [bubF_len u x (y :: v), List.length_cons, List.length_cons]; omega
    · rw [List.length_append, List.length_reverse, List.length_cons, List.length_cons]; omega
theorem iS_app (l : List (List Val)) (x : List Val) : iS (l ++ [x]) = bubF (iS l).reverse x [] := by
  unfold iS
  rw [List.foldl_append]
  rfl
theorem iS_len (l : List (List Val)) : (iS l).length = l.length := by
  suffices h : ∀ (l s : List (List Val)), (l.foldl (fun s x => bubF s.reverse x []) s).length = s.length + l.length by
    have := h l []
    unfold iS
    rw [this, List.length_nil, Nat.zero_add]
  intro l
  induction l with
  | nil => intro s; rfl
  | cons a l ih => intro s; rw [List.foldl_cons, ih, bubF_len, List.length_reverse, List.length_cons, List.length_nil]; omega
theorem triI {A B : Int} (h : A ≠ B) : (A < B ∧ ¬ B < A ∧ ¬ A = B ∧ ¬ B = A) ∨ (B < A ∧ ¬ A < B ∧ ¬ A = B ∧ ¬ B = A) := by omega
theorem iS_rk (l : List (List Val)) (hn : l.length ≤ 4) (hd : l.Pairwise fun a b => kyR a ≠ kyR b) : iS l = rkF l l.length := by
  match l, hn, hd with
  | [], _, _ => rfl
  | [a], _, _ => simp [iS, bubF, rkF, cntA, ahd]
  | [a, b], _, hd =>
    simp only [List.pairwise_cons, List.mem_cons, List.not_mem_nil, or_false, forall_eq] at hd
    rcases triI hd.1 with ⟨a1, a2, a3, a4⟩ | ⟨a1, a2, a3, a4⟩ <;> simp [iS, bubF, rkF, cntA, ahd, a1, a2, a3, a4]
  | [a, b, c], _, hd =>
    simp only [List.pairwise_cons, List.mem_cons, List.not_mem_nil, or_false, forall_eq_or_imp, forall_eq] at hd
    obtain ⟨⟨d1, d2⟩, d3, _⟩ := hd
    rcases triI d1 with ⟨a1, a2, a3, a4⟩ | ⟨a1, a2, a3, a4⟩ <;> rcases triI d2 with ⟨b1, b2, b3, b4⟩ | ⟨b1, b2, b3, b4⟩ <;> rcases triI d3 with ⟨c1, c2, c3, c4⟩ | ⟨c1, c2, c3, c4⟩ <;>
      first
      | (exfalso; omega)
      | simp [iS, bubF, rkF, cntA, ahd, a1, a2, a3, a4, b1, b2, b3, b4, c1, c2, c3, c4]
  | [a, b, c, d], _, hd =>
    simp only [List.pairwise_cons, List.mem_cons, List.not_mem_nil, or_false, forall_eq_or_imp, forall_eq] at hd
    obtain ⟨⟨d1, d2, d3⟩, ⟨d4, d5⟩, d6, _⟩ := hd
    rcases triI d1 with ⟨a1, a2, a3, a4⟩ | ⟨a1, a2, a3, a4⟩ <;> rcases triI d2 with ⟨b1, b2, b3, b4⟩ | ⟨b1, b2, b3, b4⟩ <;> rcases triI d3 with ⟨c1, c2, c3, c4⟩ | ⟨c1, c2, c3, c4⟩ <;>
    rcases triI d4 with ⟨e1, e2, e3, e4⟩ | ⟨e1, e2, e3, e4⟩ <;> rcases triI d5 with ⟨f1, f2, f3, f4⟩ | ⟨f1, f2, f3, f4⟩ <;> rcases triI d6 with ⟨g1, g2, g3, g4⟩ | ⟨g1, g2, g3, g4⟩ <;>
      first
      | (exfalso; clear d1 d2 d3 d4 d5 d6; omega)
      | simp [iS, bubF, rkF, cntA, ahd, a1, a2, a3, a4, b1, b2, b3, b4, c1, c2, c3, c4, e1, e2, e3, e4, f1, f2, f3, f4, g1, g2, g3, g4]
  | a :: b :: c :: d :: e :: l, hn, _ => exact absurd hn (by simp)
theorem kF_dist : ∀ {d p : List Cel}, kF p d = 0 → (∀ c ∈ p, c.f = true → ∀ x ∈ flR d, key c ≠ kyR x) ∧ (flR d).Pairwise fun a b => kyR a ≠ kyR b
  | [], p, _ => ⟨fun c _ _ x hx => (nomatch hx), List.Pairwise.nil⟩
  | c :: r, p, h => by
    rw [kF] at h
    split at h
    · cases h
    rename_i hn
    obtain ⟨h1, h2⟩ := kF_dist h
    have hfl : flR (c :: r) = (if c.f = true then [c.r] else []) ++ flR r := by
      unfold flR
      by_cases hf : c.f = true
      · rw [if_pos hf, List.filter_cons_of_pos hf]; rfl
      · rw [if_neg hf, List.filter_cons_of_neg hf]; rfl
    rw [hfl]
    by_cases hf : c.f = true
    · rw [if_pos hf]
      have hc := h1 c (List.mem_append_right _ (List.mem_cons_self ..)) hf
      refine ⟨fun b hb hbf x hx => ?_, List.pairwise_cons.2 ⟨fun x hx => hc x hx, h2⟩⟩
      rcases List.mem_cons.1 hx with rfl | hx
      · intro e
        refine hn ⟨hf, ?_⟩
        unfold hasK
        rw [List.any_eq_true]
        exact ⟨b, hb, by rw [hbf, Bool.true_and, decide_eq_true_eq]; exact e⟩
      · exact h1 b (List.mem_append_left _ hb) hbf x hx
    · rw [if_neg hf, List.nil_append]
      exact ⟨fun b hb hbf x hx => h1 b (List.mem_append_left _ hb) hbf x hx, h2⟩
end Go.Proofs.YtcjeeoimjkhijaaDoor
namespace Go.Proofs.YtcjeeoimjkhijaaDoor
open Go Go.RowKit Go.Proofs.YtcjeeoimjkhijaaDoor.Ab
set_option linter.unusedSimpArgs false
set_option linter.unusedVariables false

theorem eRsLen (l : List (List Val)) : (eRs l).length = l.length := List.length_map ..
theorem eRsGet (l : List (List Val)) (i : Nat) (x : List Val) (h : l[i]? = some x) : (eRs l).getD i [] = [eRow x] := by
  unfold eRs
  rw [List.getD_eq_getElem?_getD, List.getElem?_map, h]
  rfl
theorem bubAt (acc u v : List (List Val)) (x y : List Val) : (acc ++ (y :: u).reverse ++ x :: v)[acc.length + u.length + 1]? = some x ∧ (acc ++ (y :: u).reverse ++ x :: v)[acc.length + u.length]? = some y := by
  have e : acc ++ (y :: u).reverse ++ x :: v = (acc ++ u.reverse) ++ y :: x :: v := by simp
  have hl : (acc ++ u.reverse).length = acc.length + u.length := by simp
  rw [e]
  constructor
  · rw [List.getElem?_append_right (by omega), hl, show acc.length + u.length + 1 - (acc.length + u.length) = 1 by omega]; rfl
  · rw [List.getElem?_append_right (by omega), hl, Nat.sub_self]; rfl
theorem bubSet (acc u v : List (List Val)) (x y : List Val) : setEl (setEl (eRs (acc ++ (y :: u).reverse ++ x :: v)) (acc.length + u.length + 1) 0 1 [eRow y]) (acc.length + u.length) 0 1 [eRow x] = eRs (acc ++ u.reverse ++ x :: y :: v) := by
  have h1 : ∀ (l : List (List Val)), ∀ cs ∈ eRs l, cs.length = 1 := by
    intro l cs hcs
    obtain ⟨r, _, rfl⟩ := List.mem_map.1 hcs
    rfl
  have e : acc ++ (y :: u).reverse ++ x :: v = (acc ++ u.reverse) ++ y :: x :: v := by simp
  have hl : (acc ++ u.reverse).length = acc.length + u.length := by simp
  rw [e, setOne _ _ _ (by rw [eRsLen, List.length_append, hl, List.length_cons, List.length_cons]; omega) (h1 _)]
  have e1 : (eRs (acc ++ u.reverse ++ y :: x :: v)).set (acc.length + u.length + 1) [eRow y] = eRs (acc ++ u.reverse ++ y :: y :: v) := by
    unfold eRs
    rw [← List.map_set (f := fun r => [eRow r]) (a := y), List.set_append_right _ _ (by omega), hl, show acc.length + u.length + 1 - (acc.length + u.length) = 1 by omega]
    rfl
  rw [e1, setOne _ _ _ (by rw [eRsLen, List.length_append, hl, List.length_cons, List.length_cons]; omega) (h1 _)]
  unfold eRs
  rw [← List.map_set (f := fun r => [eRow r]) (a := x), List.set_append_right _ _ (by omega), hl, Nat.sub_self]
  rfl
theorem celF_row {c : List Colm} (hc : c.length ≤ 5) : ∀ {d : List Cel}, celF c d = 0 → ∀ x ∈ d, x.f = true → x.r.length ≤ 1000
  | [], _, x, hx, _ => nomatch hx
  | y :: r, h, x, hx, hf => by
    rw [celF] at h
    split at h
    · rename_i hy
      split at h
      · exact absurd h (by decide)
      · rcases List.mem_cons.1 hx with rfl | hx
        · rw [hy] at hf; cases hf
        · exact celF_row hc h x hx hf
    · split at h
      · rename_i h1; exact absurd h h1
      · rename_i h1
        rcases List.mem_cons.1 hx with rfl | hx
        · have := rowF_len (Classical.not_not.1 h1); omega
        · exact celF_row hc h x hx hf
theorem bubF_mem : ∀ (u : List (List Val)) (x : List Val) (v : List (List Val)) (z : List Val), z ∈ bubF u x v ↔ z ∈ u ∨ z = x ∨ z ∈ v
  | [], x, v, z => by rw [bubF, List.mem_cons]; simp
  | y :: u, x, v, z => by
    rw [bubF]
    split
    · rw [bubF_mem u x (y :: v) z, List.mem_cons, List.mem_cons]
      exact ⟨fun h => h.elim (fun h => .inl (.inr h)) fun h => h.elim (fun h => .inr (.inl h)) fun h => h.elim (fun h => .inl (.inl h)) fun h => .inr (.inr h), fun h => h.elim (fun h => h.elim (fun h => .inr (.inr (.inl h))) .inl) fun h => h.elim (fun h => .inr (.inl h)) fun h => .inr (.inr (.inr h))⟩
    · rw [List.mem_append, List.mem_reverse, List.mem_cons, List.mem_cons]
theorem iS_mem (l : List (List Val)) (z : List Val) : z ∈ iS l ↔ z ∈ l := by
  suffices h : ∀ (l s : List (List Val)), z ∈ l.foldl (fun s x => bubF s.reverse x []) s ↔ z ∈ s ∨ z ∈ l by
    have := h l []
    unfold iS
    rw [this]
    simp
  intro l
  induction l with
  | nil => intro s; simp
  | cons a l ih =>
    intro s
    rw [List.foldl_cons, ih, bubF_mem, List.mem_reverse, List.mem_cons]
    constructor
    · rintro ((h | h | h) | h)
      · exact .inl h
      · exact .inr (.inl h)
      · cases h
      · exact .inr (.inr h)
    · rintro (h | h | h)
      · exact .inl (.inl h)
      · exact .inl (.inr (.inl h))
      · exact .inr h
set_option maxRecDepth 10000 in
set_option maxHeartbeats 2000000 in
theorem Rows_fn (t : Tbl) (o : List Bool) (h : t.ok) (ho : o.length = 2) : FnG Tryd.prog 16 gK [.agg (.es (eTab t)), .agg (.es (o.map eBl))] (rRs (rowsAF t o)) := by
  refine fn_introG (T := tab) tOk Tryd.func16 rfl (by kernel_rfl) (by simp [Tryd.ntmps16]) ?_
  intro X hX
  have hnt : X.nt = 91 := hX
  clear hX
  have h19 := tabLen h
  have hd := tabDr h
  have f19 : 0 + 19 ≤ (Cs.es (eTab t)).len := by show 0 + 19 ≤ (eTab t).length; omega
  have f16 : 0 + 3 + 16 ≤ (Cs.es (eTab t)).len := f19
  have h2 := h.h2
  have h1 := tabCheck_fn t h
  unfold rowsAF
  rw [← tabAll h] at h1
  repeat' (first | refine tr_seq ?_ | refine reg (T := tab) tOk hnt rfl ?_ ?_ | refine regD (T := tab) tOk mixedR hnt rfl (by decide +kernel) ?_ ?_ | refine tr_block ?_ | refine tr_skip ?_)
  · (dsimp only [AllP]; (repeat' first | exact trivial | assumption | exact Nat.le_of_ble_eq_true rfl | apply And.intro | decide | intro _ | exact rfl))
  repeat' (first | refine tr_seq ?_ | refine tr_block ?_ | refine tr_skip ?_)
  refine tr_region (lex (T := tab) tOk hnt rfl ?_ (callV rfl rfl rfl rfl rfl rfl rfl hnt rfl (h1) (lex (T := tab) tOk hnt rfl ?_ (Lex.nil _)))) ?_
  · (dsimp only [AllP]; (repeat' first | exact trivial | assumption | exact Nat.le_of_ble_eq_true rfl | apply And.intro | exact eCells_len1 _ _ ‹_› | exact eCells_isByte _ _ ‹_› | (intro hh_; have hg_ := hh_; (try simp only [condT_ff, condF_tt, notE_t, notE_f, Bool.and_eq_true, ne_eq, decide_eq_true_eq, decide_eq_false_iff_not] at hg_)) | intro _ | exact rfl | omega))
  · (dsimp only [AllP]; (repeat' first | exact trivial | assumption | exact Nat.le_of_ble_eq_true rfl | apply And.intro | decide | intro _ | exact rfl))
  repeat' (first | refine tr_seq ?_ | refine reg (T := tab) tOk hnt rfl ?_ ?_ | refine regD (T := tab) tOk mixedR hnt rfl (by decide +kernel) ?_ ?_ | refine tr_block ?_ | refine tr_skip ?_)
  · (dsimp only [AllP]; (repeat' first | exact trivial | assumption | exact Nat.le_of_ble_eq_true rfl | apply And.intro | decide | intro _ | exact rfl))
  repeat' (first | refine tr_seq ?_ | refine tr_block ?_ | refine tr_skip ?_)
  refine tr_cond rfl (fun hc => ?_) (fun hc => ?_)
  · simp only [condT_tt, condT_ff, condF_tt, condF_ff, notE_t, notE_f, decide_eq_true_eq, decide_eq_false_iff_not] at hc
    rw [if_pos hc]
    repeat' (first | refine tr_seq ?_ | refine reg (T := tab) tOk hnt rfl ?_ ?_ | refine regD (T := tab) tOk mixedR hnt rfl (by decide +kernel) ?_ ?_ | refine tr_block ?_ | refine tr_skip ?_)
    · (dsimp only [AllP]; (repeat' first | exact trivial | assumption | exact Nat.le_of_ble_eq_true rfl | apply And.intro | decide | intro _ | exact rfl))
    repeat' (first | refine tr_seq ?_ | refine tr_block ?_ | refine tr_skip ?_)
    refine tr_ret ⟨.inr rfl, _, _, rfl, by (repeat' first | exact trivial | exact Nat.le_of_ble_eq_true rfl | apply And.intro), ?_⟩
    exact rfl
  simp only [condT_tt, condT_ff, condF_tt, condF_ff, notE_t, notE_f, decide_eq_true_eq, decide_eq_false_iff_not] at hc
  rw [if_neg (not_not_intro hc)]
  obtain ⟨p1, p2, p3, p4, p5⟩ := tabF_parts hc
  repeat' (first | refine tr_seq ?_ | refine reg (T := tab) tOk hnt rfl ?_ ?_ | refine regD (T := tab) tOk mixedR hnt rfl (by decide +kernel) ?_ ?_ | refine tr_block ?_ | refine tr_skip ?_)
  · (dsimp only [AllP]; (repeat' first | exact trivial | assumption | exact Nat.le_of_ble_eq_true rfl | apply And.intro | decide | intro _ | exact rfl))
  · (dsimp only [AllP]; (repeat' first | exact trivial | assumption | exact Nat.le_of_ble_eq_true rfl | apply And.intro | decide | intro _ | exact rfl))
  rw [hd]
  repeat' (first | refine tr_seq ?_ | refine tr_block ?_ | refine tr_skip ?_)
  refine tr_loop (σ := Nat × List (List Val)) (fun y => St.of [(3, .one (.ptr 3 0 0)), (7, .one (.own 45 0)), (20, .agg (.es (t.d.map eDr).flatten)), (21, .one (.e (eI (y.1 : Int))))] [(3, ⟨0, .box (.es (o.map eBl)), 0⟩), (45, ⟨0, .row 1 (eRs y.2), 0⟩)]) (fun y => y.2 ++ rwA (t.d.drop y.1) (o.drop y.1) = rwA t.d o ∧ y.1 ≤ 2 ∧ y.2.length ≤ 4 * y.1) (fun y => 2 - y.1) ((0, [])) (le_of (ad := [45]) (by refine ⟨?_, ?_, ?_, ?_, trivial⟩ <;> first | exact trivial | rfl | exact ⟨rfl, rfl⟩ | exact ⟨rfl, rfl, rfl⟩ | exact ⟨rfl, rfl, rfl, rfl⟩ | exact ⟨rfl, rfl, rfl, rfl, rfl⟩ | exact congrArg (fun z : Int => E.v (.int .i64 z)) (wrap64_id (by omega) (by omega))) (memOk_box rfl rfl rfl (memOk_new rfl (by decide) trivial))) ⟨rfl, Nat.zero_le _, Nat.zero_le _⟩ ?_
  rintro ⟨i, acc⟩ ⟨hi, il, hal⟩
  dsimp only at hi il hal ⊢
  repeat' (first | refine tr_seq ?_ | refine reg (T := tab) tOk hnt rfl ?_ ?_ | refine regD (T := tab) tOk mixedR hnt rfl (by decide +kernel) ?_ ?_ | refine tr_block ?_ | refine tr_skip ?_)
  · (dsimp only [AllP]; (repeat' first | exact trivial | assumption | exact Nat.le_of_ble_eq_true rfl | apply And.intro | decide | intro _ | exact rfl))
  repeat' (first | refine tr_seq ?_ | refine tr_block ?_ | refine tr_skip ?_)
  refine tr_cond rfl (fun hc => ?_) (fun hc => ?_)
  · simp only [condT_tt, condT_ff, condF_tt, condF_ff, notE_t, notE_f, decide_eq_true_eq, decide_eq_false_iff_not] at hc
    have hlt : i < t.d.length := by omega
    have hob : (o.map eBl).getD (0 + (i : Int).toNat * 1) E.dflt = eBl (o.getD i false) := by
      rw [show 0 + (i : Int).toNat * 1 = i by omega, List.getD_eq_getElem?_getD, List.getElem?_map, List.getElem?_eq_getElem (by omega), List.getD_eq_getElem?_getD, List.getElem?_eq_getElem (by omega)]
      rfl
    have hol : 0 + (i : Int).toNat * 1 + 1 ≤ (Cs.es (o.map eBl)).len := by show _ ≤ (o.map eBl).length; rw [List.length_map, ho]; omega
    have hA : ∀ z, D0.isA z (.e (eBl (o.getD i false))) → D0.isA z ((Cs.es (o.map eBl)).at (0 + (i : Int).toNat * 1)) := by
      intro z hz
      show D0.isA _ (.e ((o.map eBl).getD _ _))
      rw [hob]
      exact hz
    rw [drop_getD (d := []) hlt, drop_getD (d := false) (show i < o.length by omega), rwA] at hi
    have hm := memD (d := []) hlt
    have h4 := h.h4 _ hm
    have hkk := celF_kOk p4 (p5 _ hm).1
    have hdist := (kF_dist (p5 _ hm).2).2
    have hvs := h.vs _ hm
    have hg : List.take 8 (List.drop ((i : Int).toNat * 8) (t.d.map eDr).flatten) = eDr (t.d.getD i []) := drGet h.h4 i hlt
    have h8 := drLen _ h4
    have e8 : (Cs.es (List.take 8 (List.drop ((i : Int).toNat * 8) (t.d.map eDr).flatten))).len = 8 := by rw [hg]; exact h8
    have l8 : i * 8 + 8 ≤ (Cs.es (t.d.map eDr).flatten).len := by rw [← hd]; show _ ≤ (List.take 16 _).length; rw [List.length_take, List.length_drop, h19]; omega
    repeat' (first | refine tr_seq ?_ | refine tr_block ?_ | refine tr_skip ?_)
    first | refine reg (T := tab) tOk hnt rfl ?_ ?_ | refine regD (T := tab) tOk mixedR hnt rfl (by decide +kernel) ?_ ?_
    · (dsimp only [AllP]; (repeat' first | exact trivial | assumption | exact Nat.le_of_ble_eq_true rfl | apply And.intro | exact eCells_len1 _ _ ‹_› | exact eCells_isByte _ _ ‹_› | (intro hh_; have hg_ := hh_; (try simp only [condT_ff, condF_tt, notE_t, notE_f, Bool.and_eq_true, ne_eq, decide_eq_true_eq, decide_eq_false_iff_not] at hg_)) | intro _ | exact rfl | omega))
    rw [hg]
    generalize t.d.getD i [] = e at *
    generalize o.getD i false = b at *
    have f8 : 0 + 8 ≤ (Cs.es (eDr e)).len := by show 0 + 8 ≤ (eDr e).length; omega
    repeat' (first | refine tr_seq ?_ | refine reg (T := tab) tOk hnt rfl ?_ ?_ | refine regD (T := tab) tOk mixedR hnt rfl (by decide +kernel) ?_ ?_ | refine tr_block ?_ | refine tr_skip ?_)
    · (dsimp only [AllP]; (repeat' first | exact trivial | assumption | exact Nat.le_of_ble_eq_true rfl | apply And.intro | decide | intro _ | exact rfl))
    · (dsimp only [AllP]; (repeat' first | exact trivial | assumption | exact Nat.le_of_ble_eq_true rfl | apply And.intro | decide | intro _ | exact rfl))
    rw [show List.take 8 (List.drop 0 (eDr e)) = eDr e from List.take_of_length_le (Nat.le_of_eq h8)]
    rw [eRsLen]
    repeat' (first | refine tr_seq ?_ | refine tr_block ?_ | refine tr_skip ?_)
    refine tr_loop (σ := Nat) (fun j => St.of [(3, .one (.ptr 3 0 0)), (7, .one (.own 45 0)), (8, .one (.e (eI (i : Int)))), (10, .one (.e (eI (acc.length : Int)))), (20, .agg (.es (t.d.map eDr).flatten)), (21, .one (.e (eI (i : Int)))), (27, .agg (.es (eDr e))), (28, .one (.e (eI (j : Int))))] [(3, ⟨0, .box (.es (o.map eBl)), 0⟩), (45, ⟨0, .row 1 (eRs (acc ++ if b = true then iS (flR (e.take j)) else [])), 0⟩)]) (fun j => j ≤ e.length) (fun j => e.length - j) (0) (le_of (ad := []) (by refine ⟨?_, ?_, ?_, ?_, ?_, ?_, ?_, ?_, trivial⟩ <;> first | exact trivial | rfl | exact ⟨rfl, rfl⟩ | exact ⟨rfl, rfl, rfl⟩ | exact ⟨rfl, rfl, rfl, rfl⟩ | exact ⟨rfl, rfl, rfl, rfl, rfl⟩ | exact congrArg (fun z : Int => E.v (.int .i64 z)) (wrap64_id (by omega) (by omega))) (memOk_box rfl rfl rfl (memOk_row rfl rfl (by split <;> exact congrArg eRs (List.append_nil acc).symm) trivial))) (Nat.zero_le _) ?_
    rintro j jl
    repeat' (first | refine tr_seq ?_ | refine reg (T := tab) tOk hnt rfl ?_ ?_ | refine regD (T := tab) tOk mixedR hnt rfl (by decide +kernel) ?_ ?_ | refine tr_block ?_ | refine tr_skip ?_)
    · (dsimp only [AllP]; (repeat' first | exact trivial | assumption | exact Nat.le_of_ble_eq_true rfl | apply And.intro | decide | intro _ | exact rfl))
    repeat' (first | refine tr_seq ?_ | refine tr_block ?_ | refine tr_skip ?_)
    refine tr_cond rfl (fun hc => ?_) (fun hc => ?_)
    · simp only [condT_tt, condT_ff, condF_tt, condF_ff, notE_t, notE_f, decide_eq_true_eq, decide_eq_false_iff_not] at hc
      have hjt : j < e.length := by omega
      have hg2 : List.take 2 (List.drop ((j : Int).toNat * 2) (eDr e)) = eCel (e.getD j cel0) := flatGet eCel 2 cel0 (fun _ => rfl) e j hjt
      have e2 : (Cs.es (List.take 2 (List.drop ((j : Int).toNat * 2) (eDr e)))).len = 2 := congrArg List.length hg2
      have l2 : j * 2 + 2 ≤ (Cs.es (eDr e)).len := by show _ ≤ (eDr e).length; omega
      have hfa := flR_app (e.take j) (e.getD j cel0)
      rw [← take_succ hjt] at hfa
      have hfl := flR_len (e.take j)
      rw [List.length_take] at hfl
      have hxm := memD (d := cel0) hjt
      have hkx := hkk _ hxm
      have hcf := celF_row (colsF_len p3) (p5 _ hm).1 _ hxm
      repeat' (first | refine tr_seq ?_ | refine tr_block ?_ | refine tr_skip ?_)
      first | refine reg (T := tab) tOk hnt rfl ?_ ?_ | refine regD (T := tab) tOk mixedR hnt rfl (by decide +kernel) ?_ ?_
      · (dsimp only [AllP]; (repeat' first | exact trivial | assumption | exact Nat.le_of_ble_eq_true rfl | apply And.intro | exact eCells_len1 _ _ ‹_› | exact eCells_isByte _ _ ‹_› | (intro hh_; have hg_ := hh_; (try simp only [condT_ff, condF_tt, notE_t, notE_f, Bool.and_eq_true, ne_eq, decide_eq_true_eq, decide_eq_false_iff_not] at hg_)) | intro _ | exact rfl | omega))
      rw [hg2]
      generalize e.getD j cel0 = x at *
      repeat' (first | refine tr_seq ?_ | refine tr_block ?_ | refine tr_skip ?_)
      first | refine reg (T := tab) tOk hnt rfl ?_ ?_ | refine regD (T := tab) tOk mixedR hnt rfl (by decide +kernel) ?_ ?_
      · (dsimp only [AllP]; (repeat' first | exact trivial | assumption | exact Nat.le_of_ble_eq_true rfl | apply And.intro | exact eCells_len1 _ _ ‹_› | exact eCells_isByte _ _ ‹_› | (intro hh_; have hg_ := hh_; (try simp only [condT_ff, condF_tt, notE_t, notE_f, Bool.and_eq_true, ne_eq, decide_eq_true_eq, decide_eq_false_iff_not] at hg_)) | intro _ | exact rfl | omega))
        all_goals first | exact hA _ rfl | trace_state
      rw [hob]
      repeat' (first | refine tr_seq ?_ | refine tr_block ?_ | refine tr_skip ?_)
      refine tr_cond rfl (fun hc => ?_) (fun hc => ?_)
      · have hc : (bif !b then true else !x.f) = true := hc
        have hs : (if b = true then iS (flR (e.take j)) else []) = if b = true then iS (flR (e.take (j + 1))) else [] := by
          cases b
          · rfl
          · have hf : x.f = false := by
              cases hx : x.f with
              | false => rfl
              | true => rw [hx] at hc; exact absurd (show false = true from hc) (by decide)
            rw [hfa, hf, if_neg Bool.false_ne_true, List.append_nil]
        refine tr_exit ?_
        repeat' (first | refine tr_seq ?_ | refine reg (T := tab) tOk hnt rfl ?_ ?_ | refine regD (T := tab) tOk mixedR hnt rfl (by decide +kernel) ?_ ?_ | refine tr_block ?_ | refine tr_skip ?_)
        · (dsimp only [AllP]; (repeat' first | exact trivial | assumption | exact Nat.le_of_ble_eq_true rfl | apply And.intro | decide | intro _ | exact rfl))
        refine ⟨j + 1, (by omega), by omega, le_of (ad := []) (by refine ⟨?_, ?_, ?_, ?_, ?_, ?_, ?_, ?_, trivial⟩ <;> first | exact trivial | rfl | exact ⟨rfl, rfl⟩ | exact ⟨rfl, rfl, rfl⟩ | exact ⟨rfl, rfl, rfl, rfl⟩ | exact ⟨rfl, rfl, rfl, rfl, rfl⟩ | exact congrArg (fun z : Int => E.v (.int .i64 z)) (wrap64_id (by omega) (by omega))) (memOk_box rfl rfl rfl (memOk_row rfl rfl (congrArg (fun z => eRs (acc ++ z)) hs) trivial))⟩
      have hc : (bif !b then true else !x.f) = false := hc
      have hb : b = true := by
        cases b
        · exact absurd (show true = false from hc) (by decide)
        · rfl
      subst hb
      have hf : x.f = true := by
        cases hx : x.f with
        | true => rfl
        | false => rw [hx] at hc; exact absurd (show true = false from hc) (by decide)
      rw [if_pos hf] at hfa
      rw [if_pos rfl]
      have hrow := row_fn x.r (hcf hf)
      have hil : (iS (flR (e.take j))).length = (flR (e.take j)).length := iS_len _
      have hal1 : (eRs (acc ++ iS (flR (e.take j)))).length = acc.length + (flR (e.take j)).length := by rw [eRsLen, List.length_append, hil]
      have q1 : (eRs (acc ++ iS (flR (e.take j)))).length + [[eRow x.r]].length ≤ maxLen := by unfold maxLen; rw [hal1]; show _ + 1 ≤ _; omega
      have q2 : ((eRs (acc ++ iS (flR (e.take j)))).length + [[eRow x.r]].length) * 24 ≤ 140737488355328 := by rw [hal1]; show (_ + 1) * _ ≤ _; omega
      repeat' (first | refine tr_seq ?_ | refine tr_block ?_ | refine tr_skip ?_)
      refine tr_region (lex (T := tab) tOk hnt rfl ?_ (call rfl rfl rfl rfl rfl rfl rfl hnt (hrow) (lex (T := tab) tOk hnt rfl ?_ (Lex.nil _)))) ?_
      · (dsimp only [AllP]; (repeat' first | exact trivial | assumption | exact Nat.le_of_ble_eq_true rfl | apply And.intro | exact eCells_len1 _ _ ‹_› | exact eCells_isByte _ _ ‹_› | (intro hh_; have hg_ := hh_; (try simp only [condT_ff, condF_tt, notE_t, notE_f, Bool.and_eq_true, ne_eq, decide_eq_true_eq, decide_eq_false_iff_not] at hg_)) | intro _ | exact rfl | omega))
      · (dsimp only [AllP]; (repeat' first | exact trivial | assumption | exact Nat.le_of_ble_eq_true rfl | apply And.intro | exact eCells_len1 _ _ ‹_› | exact eCells_isByte _ _ ‹_› | (intro hh_; have hg_ := hh_; (try simp only [condT_ff, condF_tt, notE_t, notE_f, Bool.and_eq_true, ne_eq, decide_eq_true_eq, decide_eq_false_iff_not] at hg_)) | intro _ | exact rfl | omega))
        all_goals trace_state
      have hap : eRs (acc ++ iS (flR (e.take j))) ++ [[eRow x.r]] = eRs (acc ++ iS (flR (e.take j)) ++ [x.r]) := by unfold eRs; rw [List.map_append (l₂ := [x.r])]; rfl
      rw [hap]
      have hal2 : (eRs (acc ++ iS (flR (e.take j)) ++ [x.r])).length = acc.length + (flR (e.take j)).length + 1 := by rw [eRsLen, List.length_append, List.length_append, hil]; rfl
      repeat' (first | refine tr_seq ?_ | refine reg (T := tab) tOk hnt rfl ?_ ?_ | refine regD (T := tab) tOk mixedR hnt rfl (by decide +kernel) ?_ ?_ | refine tr_block ?_ | refine tr_skip ?_)
      · (dsimp only [AllP]; (repeat' first | exact trivial | assumption | exact Nat.le_of_ble_eq_true rfl | apply And.intro | decide | intro _ | exact rfl))
      have hjv : IntKind.i64.wrap (((eRs (acc ++ iS (flR (e.take j)) ++ [x.r])).length : Int) - 1) = ((acc.length + (iS (flR (e.take j))).reverse.length : Nat) : Int) := by
        rw [wrap64_id (by rw [hal2]; omega) (by rw [hal2]; omega), hal2, List.length_reverse, hil]
        omega
      rw [hjv]
      obtain ⟨hk1, _⟩ := hkx hf
      obtain ⟨w, s, hxw⟩ : ∃ w s, x.r = w :: s := by
        cases hq : x.r with
        | nil => exact absurd hq hk1
        | cons w s => exact ⟨w, s, rfl⟩
      have hbl : ∀ u v : List (List Val), bubF u x.r v = bubF (iS (flR (e.take j))).reverse x.r [] → u.length + v.length = (iS (flR (e.take j))).length := fun u v hu => by
        have h1 := bubF_len u x.r v
        rw [hu, bubF_len, List.length_reverse, List.length_nil] at h1
        omega
      have hne0 : ∀ r ∈ (iS (flR (e.take j))).reverse, ∃ v s, r = v :: s := by
        intro r hr
        rw [List.mem_reverse, iS_mem] at hr
        unfold flR at hr
        obtain ⟨c, hcm, rfl⟩ := List.mem_map.1 hr
        obtain ⟨hc1, hc2⟩ := List.mem_filter.1 hcm
        obtain ⟨k1, _⟩ := hkk c (List.mem_of_mem_take hc1) hc2
        cases hcr : c.r with
        | nil => exact absurd hcr k1
        | cons v s => exact ⟨v, s, rfl⟩
      repeat' (first | refine tr_seq ?_ | refine tr_block ?_ | refine tr_skip ?_)
      refine tr_loop (σ := List (List Val) × List (List Val)) (fun y => St.of [(3, .one (.ptr 3 0 0)), (7, .one (.own 45 0)), (8, .one (.e (eI (i : Int)))), (10, .one (.e (eI (acc.length : Int)))), (13, .one (.e (eI ((acc.length + y.1.length : Nat) : Int)))), (20, .agg (.es (t.d.map eDr).flatten)), (21, .one (.e (eI (i : Int)))), (27, .agg (.es (eDr e))), (28, .one (.e (eI (j : Int))))] [(3, ⟨0, .box (.es (o.map eBl)), 0⟩), (45, ⟨0, .row 1 (eRs (acc ++ y.1.reverse ++ x.r :: y.2)), 0⟩)]) (fun y => bubF y.1 x.r y.2 = bubF (iS (flR (e.take j))).reverse x.r [] ∧ (∀ r ∈ y.1, ∃ v s, r = v :: s)) (fun y => y.1.length) (((iS (flR (e.take j))).reverse, [])) (le_of (ad := []) (by refine ⟨?_, ?_, ?_, ?_, ?_, ?_, ?_, ?_, ?_, trivial⟩ <;> first | exact trivial | rfl | exact ⟨rfl, rfl⟩ | exact ⟨rfl, rfl, rfl⟩ | exact ⟨rfl, rfl, rfl, rfl⟩ | exact ⟨rfl, rfl, rfl, rfl, rfl⟩ | exact congrArg (fun z : Int => E.v (.int .i64 z)) (wrap64_id (by omega) (by omega))) (memOk_box rfl rfl rfl (memOk_row rfl rfl (by dsimp only; rw [List.reverse_reverse]) trivial))) ⟨rfl, hne0⟩ ?_
      rintro ⟨u, v⟩ ⟨hu, hur⟩
      dsimp only at hu hur ⊢
      have hlen := hbl u v hu
      cases u with
      | nil =>
        repeat' (first | refine tr_seq ?_ | refine tr_block ?_ | refine tr_skip ?_)
        first | refine reg (T := tab) tOk hnt rfl ?_ ?_ | refine regD (T := tab) tOk mixedR hnt rfl (by decide +kernel) ?_ ?_
        · (dsimp only [AllP]; (repeat' first | exact trivial | exact Nat.le_of_ble_eq_true rfl | apply And.intro | exact rfl | (intro hh; exfalso; have hh2 := of_decide_eq_true hh; dsimp only [List.length_nil] at hh2; omega)))
          all_goals trace_state
        rw [show decide ((acc.length : Int) < ((acc.length + ([] : List (List Val)).length : Nat) : Int)) = false from decide_eq_false (by rw [List.length_nil]; omega)]
        repeat' (first | refine tr_seq ?_ | refine tr_block ?_ | refine tr_skip ?_)
        refine tr_cond rfl (fun hc => ?_) (fun hc => ?_)
        · exact absurd (show false = true from hc) Bool.false_ne_true
        refine tr_exit ?_
        repeat' (first | refine tr_seq ?_ | refine reg (T := tab) tOk hnt rfl ?_ ?_ | refine regD (T := tab) tOk mixedR hnt rfl (by decide +kernel) ?_ ?_ | refine tr_block ?_ | refine tr_skip ?_)
        · (dsimp only [AllP]; (repeat' first | exact trivial | assumption | exact Nat.le_of_ble_eq_true rfl | apply And.intro | decide | intro _ | exact rfl))
        have hnew : eRs (acc ++ ([] : List (List Val)).reverse ++ x.r :: v) = eRs (acc ++ if true = true then iS (flR (e.take (j + 1))) else []) := by
          rw [if_pos rfl, hfa, iS_app, ← hu, bubF, List.reverse_nil, List.append_nil]
        refine ⟨j + 1, (by omega), by omega, le_of (ad := []) (by refine ⟨?_, ?_, ?_, ?_, ?_, ?_, ?_, ?_, trivial⟩ <;> first | exact trivial | rfl | exact ⟨rfl, rfl⟩ | exact ⟨rfl, rfl, rfl⟩ | exact ⟨rfl, rfl, rfl, rfl⟩ | exact ⟨rfl, rfl, rfl, rfl, rfl⟩ | exact congrArg (fun z : Int => E.v (.int .i64 z)) (wrap64_id (by omega) (by omega))) (memOk_box rfl rfl rfl (memOk_row rfl rfl hnew trivial))⟩
      | cons y u =>
        obtain ⟨w2, s2, hw2⟩ := hur y (List.mem_cons_self ..)
        have hb2 := bubAt acc u v x.r y
        have hwr : IntKind.i64.wrap (((acc.length + (y :: u).length : Nat) : Int) - 1) = ((acc.length + u.length : Nat) : Int) := by
          rw [List.length_cons] at hlen ⊢
          rw [wrap64_id (by omega) (by omega)]
          omega
        have hx1 := eRsGet _ _ _ hb2.1
        have hx2 := eRsGet _ _ _ hb2.2
        have hll : (eRs (acc ++ (y :: u).reverse ++ x.r :: v)).length = acc.length + u.length + 1 + 1 + v.length := by
          rw [eRsLen, List.length_append, List.length_append, List.length_reverse, List.length_cons, List.length_cons]; omega
        have hii : ((acc.length + (y :: u).length : Nat) : Int).toNat = acc.length + u.length + 1 := by rw [List.length_cons, Int.toNat_natCast]; omega
        repeat' (first | refine tr_seq ?_ | refine tr_block ?_ | refine tr_skip ?_)
        first | refine reg (T := tab) tOk hnt rfl ?_ ?_ | refine regD (T := tab) tOk mixedR hnt rfl (by decide +kernel) ?_ ?_
        · rw [hwr, hii, Int.toNat_natCast, hx1, hx2, hll, hxw, hw2]
          (dsimp only [AllP]; (repeat' first | exact trivial | assumption | exact Nat.le_of_ble_eq_true rfl | apply And.intro | exact eCells_len1 _ _ ‹_› | exact eCells_isByte _ _ ‹_› | (intro hh_; have hg_ := hh_; (try simp only [condT_ff, condF_tt, notE_t, notE_f, Bool.and_eq_true, ne_eq, decide_eq_true_eq, decide_eq_false_iff_not] at hg_)) | intro _ | exact rfl | omega))
          all_goals first | exact Int.natCast_pos.2 (Nat.succ_pos _) | (rw [List.length_cons]; omega)
        rw [hwr, hii, Int.toNat_natCast, hx1, hx2, hxw, hw2]
        rw [show decide ((acc.length : Int) < ((acc.length + ((w2 :: s2) :: u).length : Nat) : Int)) = true from decide_eq_true (by rw [List.length_cons]; omega)]
        repeat' (first | refine tr_seq ?_ | refine tr_block ?_ | refine tr_skip ?_)
        refine tr_cond rfl (fun hc => ?_) (fun hc => ?_)
        · have hc : decide (w.i < w2.i) = true := hc
          rw [← hxw, ← hw2]
          have hs2 : setEl (setEl (eRs (acc ++ (y :: u).reverse ++ x.r :: v)) (acc.length + u.length + 1) 0 1 [E.sl ([eRow y].getD 0 E.dflt).xs]) (acc.length + u.length) 0 1 [E.sl ([eRow x.r].getD 0 E.dflt).xs] = eRs (acc ++ u.reverse ++ x.r :: y :: v) := bubSet acc u v x.r y
          have hs1 : (setEl (eRs (acc ++ (y :: u).reverse ++ x.r :: v)) (acc.length + u.length + 1) 0 1 [E.sl ([eRow y].getD 0 E.dflt).xs]).length = acc.length + u.length + 1 + 1 + v.length := by
            rw [← hll]
            exact (setEl_flat _ (z := 1) (by
              intro cs hcs
              obtain ⟨r, _, rfl⟩ := List.mem_map.1 hcs
              rfl) (by rw [hll]; omega) (Nat.le_refl 1) rfl).2.2
          have hk : kyR x.r < kyR y := by rw [hxw, hw2]; exact of_decide_eq_true hc
          rw [bubF, if_pos hk] at hu
          repeat' (first | refine tr_seq ?_ | refine tr_block ?_ | refine tr_skip ?_)
          first | refine reg (T := tab) tOk hnt rfl ?_ ?_ | refine regD (T := tab) tOk mixedR hnt rfl (by decide +kernel) ?_ ?_
          · rw [hwr, hii, Int.toNat_natCast, hx1, hx2, hll, hs1]
            (dsimp only [AllP]; (repeat' first | exact trivial | assumption | exact Nat.le_of_ble_eq_true rfl | apply And.intro | exact eCells_len1 _ _ ‹_› | exact eCells_isByte _ _ ‹_› | (intro hh_; have hg_ := hh_; (try simp only [condT_ff, condF_tt, notE_t, notE_f, Bool.and_eq_true, ne_eq, decide_eq_true_eq, decide_eq_false_iff_not] at hg_)) | intro _ | exact rfl | omega))
            all_goals first | exact Int.natCast_pos.2 (Nat.succ_pos _) | (rw [List.length_cons]; omega)
          rw [hwr, hii, Int.toNat_natCast, hx1, hx2]
          repeat' (first | refine tr_seq ?_ | refine reg (T := tab) tOk hnt rfl ?_ ?_ | refine regD (T := tab) tOk mixedR hnt rfl (by decide +kernel) ?_ ?_ | refine tr_block ?_ | refine tr_skip ?_)
          · (dsimp only [AllP]; (repeat' first | exact trivial | assumption | exact Nat.le_of_ble_eq_true rfl | apply And.intro | decide | intro _ | exact rfl))
          rw [hwr]
          refine ⟨(u, y :: v), ⟨hu, fun r hr => hur r (List.mem_cons_of_mem _ hr)⟩, by dsimp only; rw [List.length_cons]; omega, le_of (ad := []) (by refine ⟨?_, ?_, ?_, ?_, ?_, ?_, ?_, ?_, ?_, trivial⟩ <;> first | exact trivial | rfl | exact ⟨rfl, rfl⟩ | exact ⟨rfl, rfl, rfl⟩ | exact ⟨rfl, rfl, rfl, rfl⟩ | exact ⟨rfl, rfl, rfl, rfl, rfl⟩ | exact congrArg (fun z : Int => E.v (.int .i64 z)) (wrap64_id (by omega) (by omega))) (memOk_box rfl rfl rfl (memOk_row rfl rfl hs2 trivial))⟩
        have hc : decide (w.i < w2.i) = false := hc
        rw [← hxw, ← hw2]
        refine tr_exit ?_
        repeat' (first | refine tr_seq ?_ | refine reg (T := tab) tOk hnt rfl ?_ ?_ | refine regD (T := tab) tOk mixedR hnt rfl (by decide +kernel) ?_ ?_ | refine tr_block ?_ | refine tr_skip ?_)
        · (dsimp only [AllP]; (repeat' first | exact trivial | assumption | exact Nat.le_of_ble_eq_true rfl | apply And.intro | decide | intro _ | exact rfl))
        have hnew : eRs (acc ++ (y :: u).reverse ++ x.r :: v) = eRs (acc ++ if true = true then iS (flR (e.take (j + 1))) else []) := by
          have hk : ¬ kyR x.r < kyR y := by rw [hxw, hw2]; exact of_decide_eq_false hc
          rw [if_pos rfl, hfa, iS_app, ← hu, bubF, if_neg hk, List.append_assoc]
        refine ⟨j + 1, (by omega), by omega, le_of (ad := []) (by refine ⟨?_, ?_, ?_, ?_, ?_, ?_, ?_, ?_, trivial⟩ <;> first | exact trivial | rfl | exact ⟨rfl, rfl⟩ | exact ⟨rfl, rfl, rfl⟩ | exact ⟨rfl, rfl, rfl, rfl⟩ | exact ⟨rfl, rfl, rfl, rfl, rfl⟩ | exact congrArg (fun z : Int => E.v (.int .i64 z)) (wrap64_id (by omega) (by omega))) (memOk_box rfl rfl rfl (memOk_row rfl rfl hnew trivial))⟩
    simp only [condT_tt, condT_ff, condF_tt, condF_ff, notE_t, notE_f, decide_eq_true_eq, decide_eq_false_iff_not] at hc
    refine tr_exit ?_
    repeat' (first | refine tr_seq ?_ | refine reg (T := tab) tOk hnt rfl ?_ ?_ | refine regD (T := tab) tOk mixedR hnt rfl (by decide +kernel) ?_ ?_ | refine tr_block ?_ | refine tr_skip ?_)
    · (dsimp only [AllP]; (repeat' first | exact trivial | assumption | exact Nat.le_of_ble_eq_true rfl | apply And.intro | decide | intro _ | exact rfl))
    have hfe := flR_len e
    have hie : (if b = true then iS (flR (e.take j)) else []) = if b = true then rkA e else [] := by
      rw [List.take_of_length_le (by omega)]
      unfold rkA
      rw [iS_rk _ (by omega) hdist]
    rw [hie]
    have hrl : (if b = true then rkA e else []).length ≤ 4 := by
      split
      · unfold rkA; rw [rkF_len]; omega
      · exact Nat.zero_le _
    rw [← List.append_assoc] at hi
    refine ⟨(i + 1, acc ++ if b = true then rkA e else []), ⟨hi, by dsimp only; omega, by dsimp only; rw [List.length_append]; omega⟩, by dsimp only; omega, le_of (ad := []) (by refine ⟨?_, ?_, ?_, ?_, trivial⟩ <;> first | exact trivial | rfl | exact ⟨rfl, rfl⟩ | exact ⟨rfl, rfl, rfl⟩ | exact ⟨rfl, rfl, rfl, rfl⟩ | exact ⟨rfl, rfl, rfl, rfl, rfl⟩ | exact congrArg (fun z : Int => E.v (.int .i64 z)) (wrap64_id (by omega) (by omega))) (memOk_box rfl rfl rfl (memOk_row rfl rfl rfl trivial))⟩
  simp only [condT_tt, condT_ff, condF_tt, condF_ff, notE_t, notE_f, decide_eq_true_eq, decide_eq_false_iff_not] at hc
  refine tr_exit ?_
  have : i = 2 := by omega
  subst this
  rw [List.drop_eq_nil_of_le (by omega), rwA_nil, List.append_nil] at hi
  rw [← hi]
  repeat' (first | refine tr_seq ?_ | refine reg (T := tab) tOk hnt rfl ?_ ?_ | refine regD (T := tab) tOk mixedR hnt rfl (by decide +kernel) ?_ ?_ | refine tr_block ?_ | refine tr_skip ?_)
  · (dsimp only [AllP]; (repeat' first | exact trivial | assumption | exact Nat.le_of_ble_eq_true rfl | apply And.intro | decide | intro _ | exact rfl))
  repeat' (first | refine tr_seq ?_ | refine tr_block ?_ | refine tr_skip ?_)
  refine tr_ret ⟨.inr rfl, _, _, rfl, by (repeat' first | exact trivial | exact Nat.le_of_ble_eq_true rfl | apply And.intro), ?_⟩
  exact rfl
end Go.Proofs.YtcjeeoimjkhijaaDoor
