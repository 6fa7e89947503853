/- lex.Check and the document's TokenFault. No condition. -/
import Derived.Test.YtcjeeoimjkhijaaDoorTLex
namespace Go.Proofs.YtcjeeoimjkhijaaDoor
open Go Go.RowKit Go.Proofs.YtcjeeoimjkhijaaDoor.Ab
set_option linter.unusedSimpArgs false
set_option linter.unusedVariables false

/-- a token: kind, text, number, bits -/
structure Tok where
  k : Int
  t : Byt
  i : Int
  b : BitVec 64
def eTok (v : Tok) : List E := [eI v.k, eT v.t, eI v.i, eQ v.b]
theorem eTok0 (v : Tok) : ((eTok v).getD (0 + 0) E.dflt).int = v.k := rfl
theorem eTok1 (v : Tok) : ((eTok v).getD (0 + 1) E.dflt).str = strB v.t := rfl
theorem eTok2 (v : Tok) : ((eTok v).getD (0 + 2) E.dflt).int = v.i := rfl
theorem eTok3 (v : Tok) : ((eTok v).getD (0 + 3) E.dflt).int = (v.b.toNat : Int) := rfl
def isNmP (s : Byt) : Bool := bif s.all nameB && decide (s.length ≠ 0) then smallB (s.getD 0 0) else false
def isWd (s : Byt) : Bool := s.all greatB && decide (s.length ≠ 0)
def okTk (v : Tok) : Bool := if v.k = 1 then isNmP v.t else if v.k = 2 then isWd v.t else if v.k = 3 then decide (0 ≤ v.i) else if v.k = 4 then vld v.t else if v.k = 5 then decide (chk ⟨3, 0, v.b, []⟩ = 0) else isSg v.t
def tkF (v : Tok) : Int :=
  if v.k < 1 ∨ 6 < v.k then 2
  else if (v.k = 4 ∧ 40 < v.t.length) ∨ ((v.k = 1 ∨ v.k = 2) ∧ 8 < v.t.length) then 1
  else if ((v.k ≠ 3 ∧ v.i ≠ 0) ∨ (v.k ≠ 5 ∧ v.b.toNat ≠ 0)) ∨ ((v.k = 3 ∨ v.k = 5) ∧ v.t.length ≠ 0) then 3
  else if okTk v = true then 0 else 3
set_option maxRecDepth 10000 in
set_option maxHeartbeats 2000000 in
theorem lexCheck_fn (v : Tok) (hm : v.t.length ≤ maxLen) : FnG Tryd.prog 38 gK [.agg (.es (eTok v))] (.one (.e (eI (tkF v)))) := by
  refine fn_introG (T := tab) tOk Tryd.func38 rfl (by kernel_rfl) (by simp [Tryd.ntmps38]) ?_
  intro X hX
  have hnt : X.nt = 112 := hX
  clear hX
  have hl : (strB v.t).size = v.t.length := strB_size v.t
  repeat' (first | refine tr_seq ?_ | refine tr_block ?_ | refine tr_skip ?_)
  first | refine reg (T := tab) tOk hnt rfl ?_ ?_ | refine regD (T := tab) tOk mixedR hnt rfl (by decide +kernel) ?_ ?_
  · (dsimp only [AllP]; (repeat' first | exact trivial | assumption | exact Nat.le_of_ble_eq_true rfl | apply And.intro | decide | intro _ | exact rfl))
  repeat' (first | refine tr_seq ?_ | refine tr_block ?_ | refine tr_skip ?_)
  first | refine reg (T := tab) tOk hnt rfl ?_ ?_ | refine regD (T := tab) tOk mixedR hnt rfl (by decide +kernel) ?_ ?_
  · (dsimp only [AllP]; (repeat' first | exact trivial | assumption | exact Nat.le_of_ble_eq_true rfl | apply And.intro | exact eCells_len1 _ _ ‹_› | exact eCells_isByte _ _ ‹_› | (intro hh_; have hg_ := hh_; (try simp only [condT_ff, condF_tt, notE_t, notE_f, Bool.and_eq_true, ne_eq, decide_eq_true_eq, decide_eq_false_iff_not] at hg_)) | intro _ | exact rfl | omega))
  repeat' (first | refine tr_seq ?_ | refine tr_block ?_ | refine tr_skip ?_)
  refine tr_cond rfl (fun hc => ?_) (fun hc => ?_)
  · unfold tkF
    simp only [condT_tt, condT_ff, condF_tt, condF_ff, notE_t, notE_f, decide_eq_true_eq, decide_eq_false_iff_not] at hc
    (try simp only [eTok0] at hc)
    (try simp only [condT_tt, condT_ff, condF_tt, condF_ff, notE_t, notE_f, decide_eq_true_eq, decide_eq_false_iff_not] at hc)
    rw [if_pos (by omega)]
    repeat' (first | refine tr_seq ?_ | refine reg (T := tab) tOk hnt rfl ?_ ?_ | refine regD (T := tab) tOk mixedR hnt rfl (by decide +kernel) ?_ ?_ | refine tr_block ?_ | refine tr_skip ?_)
    · (dsimp only [AllP]; (repeat' first | exact trivial | assumption | exact Nat.le_of_ble_eq_true rfl | apply And.intro | decide | intro _ | exact rfl))
    exact tr_ret ⟨.inr rfl, _, _, rfl, trivial, rfl⟩
  simp only [condT_tt, condT_ff, condF_tt, condF_ff, notE_t, notE_f, decide_eq_true_eq, decide_eq_false_iff_not] at hc
  (try simp only [eTok0] at hc)
  (try simp only [condT_tt, condT_ff, condF_tt, condF_ff, notE_t, notE_f, decide_eq_true_eq, decide_eq_false_iff_not] at hc)
  have hk := hc
  repeat' (first | refine tr_seq ?_ | refine reg (T := tab) tOk hnt rfl ?_ ?_ | refine regD (T := tab) tOk mixedR hnt rfl (by decide +kernel) ?_ ?_ | refine tr_block ?_ | refine tr_skip ?_)
  · (dsimp only [AllP]; (repeat' first | exact trivial | assumption | exact Nat.le_of_ble_eq_true rfl | apply And.intro | decide | intro _ | exact rfl))
  repeat' (first | refine tr_seq ?_ | refine tr_block ?_ | refine tr_skip ?_)
  refine tr_cond rfl (fun hc => ?_) (fun hc => ?_)
  · unfold tkF
    simp only [condT_tt, condT_ff, condF_tt, condF_ff, notE_t, notE_f, decide_eq_true_eq, decide_eq_false_iff_not] at hc
    (try simp only [eTok0, eTok1, hl] at hc)
    (try simp only [condT_tt, condT_ff, condF_tt, condF_ff, notE_t, notE_f, decide_eq_true_eq, decide_eq_false_iff_not] at hc)
    rw [if_neg (by omega)]
    rw [if_pos (by omega)]
    repeat' (first | refine tr_seq ?_ | refine reg (T := tab) tOk hnt rfl ?_ ?_ | refine regD (T := tab) tOk mixedR hnt rfl (by decide +kernel) ?_ ?_ | refine tr_block ?_ | refine tr_skip ?_)
    · (dsimp only [AllP]; (repeat' first | exact trivial | assumption | exact Nat.le_of_ble_eq_true rfl | apply And.intro | decide | intro _ | exact rfl))
    exact tr_ret ⟨.inr rfl, _, _, rfl, trivial, rfl⟩
  simp only [condT_tt, condT_ff, condF_tt, condF_ff, notE_t, notE_f, decide_eq_true_eq, decide_eq_false_iff_not] at hc
  (try simp only [eTok0, eTok1, hl] at hc)
  (try simp only [condT_tt, condT_ff, condF_tt, condF_ff, notE_t, notE_f, decide_eq_true_eq, decide_eq_false_iff_not] at hc)
  have hs := hc
  repeat' (first | refine tr_seq ?_ | refine reg (T := tab) tOk hnt rfl ?_ ?_ | refine regD (T := tab) tOk mixedR hnt rfl (by decide +kernel) ?_ ?_ | refine tr_block ?_ | refine tr_skip ?_)
  · (dsimp only [AllP]; (repeat' first | exact trivial | assumption | exact Nat.le_of_ble_eq_true rfl | apply And.intro | decide | intro _ | exact rfl))
  repeat' (first | refine tr_seq ?_ | refine tr_block ?_ | refine tr_skip ?_)
  refine tr_cond rfl (fun hc => ?_) (fun hc => ?_)
  · unfold tkF
    simp only [condT_tt, condT_ff, condF_tt, condF_ff, notE_t, notE_f, decide_eq_true_eq, decide_eq_false_iff_not] at hc
    (try simp only [eTok0, eTok1, eTok2, eTok3, strEq_nil] at hc)
    (try simp only [condT_tt, condT_ff, condF_tt, condF_ff, notE_t, notE_f, decide_eq_true_eq, decide_eq_false_iff_not] at hc)
    rw [if_neg (by omega), if_neg (by omega)]
    rw [if_pos (by omega)]
    repeat' (first | refine tr_seq ?_ | refine reg (T := tab) tOk hnt rfl ?_ ?_ | refine regD (T := tab) tOk mixedR hnt rfl (by decide +kernel) ?_ ?_ | refine tr_block ?_ | refine tr_skip ?_)
    · (dsimp only [AllP]; (repeat' first | exact trivial | assumption | exact Nat.le_of_ble_eq_true rfl | apply And.intro | decide | intro _ | exact rfl))
    exact tr_ret ⟨.inr rfl, _, _, rfl, trivial, rfl⟩
  simp only [condT_tt, condT_ff, condF_tt, condF_ff, notE_t, notE_f, decide_eq_true_eq, decide_eq_false_iff_not] at hc
  (try simp only [eTok0, eTok1, eTok2, eTok3, strEq_nil] at hc)
  (try simp only [condT_tt, condT_ff, condF_tt, condF_ff, notE_t, notE_f, decide_eq_true_eq, decide_eq_false_iff_not] at hc)
  have h3 := hc
  have ht : tkF v = if okTk v = true then 0 else 3 := by
    unfold tkF
    rw [if_neg (by omega), if_neg (by omega), if_neg (by omega)]
  rw [ht]
  repeat' (first | refine tr_seq ?_ | refine tr_block ?_ | refine tr_skip ?_)
  first | refine reg (T := tab) tOk hnt rfl ?_ ?_ | refine regD (T := tab) tOk mixedR hnt rfl (by decide +kernel) ?_ ?_
  · (dsimp only [AllP]; (repeat' first | exact trivial | assumption | exact Nat.le_of_ble_eq_true rfl | apply And.intro | decide | intro _ | exact rfl))
  repeat' (first | refine tr_seq ?_ | refine tr_block ?_ | refine tr_skip ?_)
  first | refine reg (T := tab) tOk hnt rfl ?_ ?_ | refine regD (T := tab) tOk mixedR hnt rfl (by decide +kernel) ?_ ?_
  · (dsimp only [AllP]; (repeat' first | exact trivial | assumption | exact Nat.le_of_ble_eq_true rfl | apply And.intro | decide | intro _ | exact rfl))
  first | refine tr_join (σ := Unit) (fun x => St.of [(3, .v (.bool (okTk v)))] []) (fun x => True) ?_ ?_ | refine tr_seq (tr_join (σ := Unit) (fun x => St.of [(3, .v (.bool (okTk v)))] []) (fun x => True) ?_ ?_)
  · repeat' (first | refine tr_seq ?_ | refine reg (T := tab) tOk hnt rfl ?_ ?_ | refine regD (T := tab) tOk mixedR hnt rfl (by decide +kernel) ?_ ?_ | refine tr_block ?_ | refine tr_skip ?_)
    · (dsimp only [AllP]; (repeat' first | exact trivial | assumption | exact Nat.le_of_ble_eq_true rfl | apply And.intro | decide | intro _ | exact rfl))
    repeat' (first | refine tr_seq ?_ | refine tr_block ?_ | refine tr_skip ?_)
    refine tr_cond rfl (fun hc => ?_) (fun hc => ?_)
    · simp only [condT_tt, condT_ff, condF_tt, condF_ff, notE_t, notE_f, decide_eq_true_eq, decide_eq_false_iff_not] at hc
      (try simp only [eTok0] at hc)
      (try simp only [condT_tt, condT_ff, condF_tt, condF_ff, notE_t, notE_f, decide_eq_true_eq, decide_eq_false_iff_not] at hc)
      have hf := all_fn v.t hm _ nameB inName_fn
      repeat' (first | refine tr_seq ?_ | refine tr_block ?_ | refine tr_skip ?_)
      refine tr_region (lex (T := tab) tOk hnt rfl ?_ (call rfl rfl rfl rfl rfl rfl rfl hnt (hf) (lex (T := tab) tOk hnt rfl ?_ (callG rfl rfl rfl rfl rfl rfl hnt rfl (fun hq => ?_) (fun hq => small_fn (v.t.getD 0 0)) (lex (T := tab) tOk hnt rfl ?_ (Lex.nil _)))))) ?_
      · (dsimp only [AllP]; (repeat' first | exact trivial | assumption | exact Nat.le_of_ble_eq_true rfl | apply And.intro | decide | intro _ | exact rfl))
      · rw [eTok1, hl]
        (dsimp only [AllP]; (repeat' first | exact trivial | assumption | exact Nat.le_of_ble_eq_true rfl | apply And.intro | exact eCells_len1 _ _ ‹_› | exact eCells_isByte _ _ ‹_› | (intro hh_; have hg_ := hh_; (try simp only [condT_ff, condF_tt, notE_t, notE_f, Bool.and_eq_true, ne_eq, decide_eq_true_eq, decide_eq_false_iff_not] at hg_)) | intro _ | exact rfl | omega))
      · (dsimp only [AllP]; (repeat' first | exact trivial | assumption | exact Nat.le_of_ble_eq_true rfl | apply And.intro | exact eCells_len1 _ _ ‹_› | exact eCells_isByte _ _ ‹_› | (intro hh_; have hg_ := hh_; (try simp only [condT_ff, condF_tt, notE_t, notE_f, Bool.and_eq_true, ne_eq, decide_eq_true_eq, decide_eq_false_iff_not] at hg_)) | intro _ | exact rfl | omega))
      · (dsimp only [AllP]; (repeat' first | exact trivial | assumption | exact Nat.le_of_ble_eq_true rfl | apply And.intro | decide | intro _ | exact rfl))
      have e : okTk v = isNmP v.t := by unfold okTk; rw [if_pos hc]
      rw [e]
      repeat' (first | refine tr_seq ?_ | refine tr_block ?_ | refine tr_skip ?_)
      refine ⟨(), trivial, le_of (ad := []) (by refine ⟨?_, trivial⟩ <;> first | exact trivial | rfl | exact ⟨rfl, rfl⟩ | exact ⟨rfl, rfl, rfl⟩ | exact ⟨rfl, rfl, rfl, rfl⟩ | exact ⟨rfl, rfl, rfl, rfl, rfl⟩ | exact congrArg (fun z : Int => E.v (.int .i64 z)) (wrap64_id (by omega) (by omega))) trivial⟩
    simp only [condT_tt, condT_ff, condF_tt, condF_ff, notE_t, notE_f, decide_eq_true_eq, decide_eq_false_iff_not] at hc
    (try simp only [eTok0] at hc)
    (try simp only [condT_tt, condT_ff, condF_tt, condF_ff, notE_t, notE_f, decide_eq_true_eq, decide_eq_false_iff_not] at hc)
    have k1 := hc
    repeat' (first | refine tr_seq ?_ | refine reg (T := tab) tOk hnt rfl ?_ ?_ | refine regD (T := tab) tOk mixedR hnt rfl (by decide +kernel) ?_ ?_ | refine tr_block ?_ | refine tr_skip ?_)
    · (dsimp only [AllP]; (repeat' first | exact trivial | assumption | exact Nat.le_of_ble_eq_true rfl | apply And.intro | decide | intro _ | exact rfl))
    repeat' (first | refine tr_seq ?_ | refine tr_block ?_ | refine tr_skip ?_)
    refine tr_cond rfl (fun hc => ?_) (fun hc => ?_)
    · simp only [condT_tt, condT_ff, condF_tt, condF_ff, notE_t, notE_f, decide_eq_true_eq, decide_eq_false_iff_not] at hc
      (try simp only [eTok0] at hc)
      (try simp only [condT_tt, condT_ff, condF_tt, condF_ff, notE_t, notE_f, decide_eq_true_eq, decide_eq_false_iff_not] at hc)
      repeat' (first | refine tr_seq ?_ | refine tr_block ?_ | refine tr_skip ?_)
      refine tr_region (lex (T := tab) tOk hnt rfl ?_ (call rfl rfl rfl rfl rfl rfl rfl hnt (all_fn v.t hm _ greatB great_fn) (lex (T := tab) tOk hnt rfl ?_ (Lex.nil _)))) ?_
      · (dsimp only [AllP]; (repeat' first | exact trivial | assumption | exact Nat.le_of_ble_eq_true rfl | apply And.intro | decide | intro _ | exact rfl))
      · (dsimp only [AllP]; (repeat' first | exact trivial | assumption | exact Nat.le_of_ble_eq_true rfl | apply And.intro | decide | intro _ | exact rfl))
      have e : okTk v = isWd v.t := by unfold okTk; rw [if_neg k1, if_pos hc]
      rw [e]
      repeat' (first | refine tr_seq ?_ | refine tr_block ?_ | refine tr_skip ?_)
      refine ⟨(), trivial, le_of (ad := []) (by refine ⟨?_, trivial⟩ <;> first | exact trivial | rfl | exact ⟨rfl, rfl⟩ | exact ⟨rfl, rfl, rfl⟩ | exact ⟨rfl, rfl, rfl, rfl⟩ | exact ⟨rfl, rfl, rfl, rfl, rfl⟩ | exact congrArg (fun z : Int => E.v (.int .i64 z)) (wrap64_id (by omega) (by omega))) trivial⟩
    simp only [condT_tt, condT_ff, condF_tt, condF_ff, notE_t, notE_f, decide_eq_true_eq, decide_eq_false_iff_not] at hc
    (try simp only [eTok0] at hc)
    (try simp only [condT_tt, condT_ff, condF_tt, condF_ff, notE_t, notE_f, decide_eq_true_eq, decide_eq_false_iff_not] at hc)
    have k2 := hc
    repeat' (first | refine tr_seq ?_ | refine reg (T := tab) tOk hnt rfl ?_ ?_ | refine regD (T := tab) tOk mixedR hnt rfl (by decide +kernel) ?_ ?_ | refine tr_block ?_ | refine tr_skip ?_)
    · (dsimp only [AllP]; (repeat' first | exact trivial | assumption | exact Nat.le_of_ble_eq_true rfl | apply And.intro | decide | intro _ | exact rfl))
    repeat' (first | refine tr_seq ?_ | refine tr_block ?_ | refine tr_skip ?_)
    refine tr_cond rfl (fun hc => ?_) (fun hc => ?_)
    · simp only [condT_tt, condT_ff, condF_tt, condF_ff, notE_t, notE_f, decide_eq_true_eq, decide_eq_false_iff_not] at hc
      (try simp only [eTok0] at hc)
      (try simp only [condT_tt, condT_ff, condF_tt, condF_ff, notE_t, notE_f, decide_eq_true_eq, decide_eq_false_iff_not] at hc)
      have e : okTk v = decide (0 ≤ v.i) := by unfold okTk; rw [if_neg k1, if_neg k2, if_pos hc]
      rw [e]
      repeat' (first | refine tr_seq ?_ | refine reg (T := tab) tOk hnt rfl ?_ ?_ | refine regD (T := tab) tOk mixedR hnt rfl (by decide +kernel) ?_ ?_ | refine tr_block ?_ | refine tr_skip ?_)
      · (dsimp only [AllP]; (repeat' first | exact trivial | assumption | exact Nat.le_of_ble_eq_true rfl | apply And.intro | decide | intro _ | exact rfl))
      repeat' (first | refine tr_seq ?_ | refine tr_block ?_ | refine tr_skip ?_)
      refine ⟨(), trivial, le_of (ad := []) (by refine ⟨?_, trivial⟩ <;> first | exact trivial | rfl | exact ⟨rfl, rfl⟩ | exact ⟨rfl, rfl, rfl⟩ | exact ⟨rfl, rfl, rfl, rfl⟩ | exact ⟨rfl, rfl, rfl, rfl, rfl⟩ | exact congrArg (fun z : Int => E.v (.int .i64 z)) (wrap64_id (by omega) (by omega))) trivial⟩
    simp only [condT_tt, condT_ff, condF_tt, condF_ff, notE_t, notE_f, decide_eq_true_eq, decide_eq_false_iff_not] at hc
    (try simp only [eTok0] at hc)
    (try simp only [condT_tt, condT_ff, condF_tt, condF_ff, notE_t, notE_f, decide_eq_true_eq, decide_eq_false_iff_not] at hc)
    have k3 := hc
    repeat' (first | refine tr_seq ?_ | refine reg (T := tab) tOk hnt rfl ?_ ?_ | refine regD (T := tab) tOk mixedR hnt rfl (by decide +kernel) ?_ ?_ | refine tr_block ?_ | refine tr_skip ?_)
    · (dsimp only [AllP]; (repeat' first | exact trivial | assumption | exact Nat.le_of_ble_eq_true rfl | apply And.intro | decide | intro _ | exact rfl))
    repeat' (first | refine tr_seq ?_ | refine tr_block ?_ | refine tr_skip ?_)
    refine tr_cond rfl (fun hc => ?_) (fun hc => ?_)
    · simp only [condT_tt, condT_ff, condF_tt, condF_ff, notE_t, notE_f, decide_eq_true_eq, decide_eq_false_iff_not] at hc
      (try simp only [eTok0] at hc)
      (try simp only [condT_tt, condT_ff, condF_tt, condF_ff, notE_t, notE_f, decide_eq_true_eq, decide_eq_false_iff_not] at hc)
      have e : okTk v = vld v.t := by unfold okTk; rw [if_neg k1, if_neg k2, if_neg k3, if_pos hc]
      rw [e]
      repeat' (first | refine tr_seq ?_ | refine tr_block ?_ | refine tr_skip ?_)
      refine tr_region (lex (T := tab) tOk hnt rfl ?_ (callV rfl rfl rfl rfl rfl rfl rfl hnt rfl (valid_fn v.t) (lex (T := tab) tOk hnt rfl ?_ (Lex.nil _)))) ?_
      · (dsimp only [AllP]; (repeat' first | exact trivial | assumption | exact Nat.le_of_ble_eq_true rfl | apply And.intro | decide | intro _ | exact rfl))
      · (dsimp only [AllP]; (repeat' first | exact trivial | assumption | exact Nat.le_of_ble_eq_true rfl | apply And.intro | decide | intro _ | exact rfl))
      repeat' (first | refine tr_seq ?_ | refine tr_block ?_ | refine tr_skip ?_)
      refine ⟨(), trivial, le_of (ad := []) (by refine ⟨?_, trivial⟩ <;> first | exact trivial | rfl | exact ⟨rfl, rfl⟩ | exact ⟨rfl, rfl, rfl⟩ | exact ⟨rfl, rfl, rfl, rfl⟩ | exact ⟨rfl, rfl, rfl, rfl, rfl⟩ | exact congrArg (fun z : Int => E.v (.int .i64 z)) (wrap64_id (by omega) (by omega))) trivial⟩
    simp only [condT_tt, condT_ff, condF_tt, condF_ff, notE_t, notE_f, decide_eq_true_eq, decide_eq_false_iff_not] at hc
    (try simp only [eTok0] at hc)
    (try simp only [condT_tt, condT_ff, condF_tt, condF_ff, notE_t, notE_f, decide_eq_true_eq, decide_eq_false_iff_not] at hc)
    have k4 := hc
    repeat' (first | refine tr_seq ?_ | refine reg (T := tab) tOk hnt rfl ?_ ?_ | refine regD (T := tab) tOk mixedR hnt rfl (by decide +kernel) ?_ ?_ | refine tr_block ?_ | refine tr_skip ?_)
    · (dsimp only [AllP]; (repeat' first | exact trivial | assumption | exact Nat.le_of_ble_eq_true rfl | apply And.intro | decide | intro _ | exact rfl))
    repeat' (first | refine tr_seq ?_ | refine tr_block ?_ | refine tr_skip ?_)
    refine tr_cond rfl (fun hc => ?_) (fun hc => ?_)
    · simp only [condT_tt, condT_ff, condF_tt, condF_ff, notE_t, notE_f, decide_eq_true_eq, decide_eq_false_iff_not] at hc
      (try simp only [eTok0] at hc)
      (try simp only [condT_tt, condT_ff, condF_tt, condF_ff, notE_t, notE_f, decide_eq_true_eq, decide_eq_false_iff_not] at hc)
      have e : okTk v = decide (chk ⟨3, 0, v.b, []⟩ = 0) := by unfold okTk; rw [if_neg k1, if_neg k2, if_neg k3, if_neg k4, if_pos hc]
      rw [e]
      repeat' (first | refine tr_seq ?_ | refine tr_block ?_ | refine tr_skip ?_)
      refine tr_region (lex (T := tab) tOk hnt rfl ?_ (callV rfl rfl rfl rfl rfl rfl rfl hnt rfl (check_fn ⟨3, 0, v.b, []⟩) (lex (T := tab) tOk hnt rfl ?_ (Lex.nil _)))) ?_
      · (dsimp only [AllP]; (repeat' first | exact trivial | assumption | exact Nat.le_of_ble_eq_true rfl | apply And.intro | decide | intro _ | exact rfl))
      · (dsimp only [AllP]; (repeat' first | exact trivial | assumption | exact Nat.le_of_ble_eq_true rfl | apply And.intro | decide | intro _ | exact rfl))
      repeat' (first | refine tr_seq ?_ | refine tr_block ?_ | refine tr_skip ?_)
      refine ⟨(), trivial, le_of (ad := []) (by refine ⟨?_, trivial⟩ <;> first | exact trivial | rfl | exact ⟨rfl, rfl⟩ | exact ⟨rfl, rfl, rfl⟩ | exact ⟨rfl, rfl, rfl, rfl⟩ | exact ⟨rfl, rfl, rfl, rfl, rfl⟩ | exact congrArg (fun z : Int => E.v (.int .i64 z)) (wrap64_id (by omega) (by omega))) trivial⟩
    simp only [condT_tt, condT_ff, condF_tt, condF_ff, notE_t, notE_f, decide_eq_true_eq, decide_eq_false_iff_not] at hc
    (try simp only [eTok0] at hc)
    (try simp only [condT_tt, condT_ff, condF_tt, condF_ff, notE_t, notE_f, decide_eq_true_eq, decide_eq_false_iff_not] at hc)
    have k5 := hc
    repeat' (first | refine tr_seq ?_ | refine reg (T := tab) tOk hnt rfl ?_ ?_ | refine regD (T := tab) tOk mixedR hnt rfl (by decide +kernel) ?_ ?_ | refine tr_block ?_ | refine tr_skip ?_)
    · (dsimp only [AllP]; (repeat' first | exact trivial | assumption | exact Nat.le_of_ble_eq_true rfl | apply And.intro | decide | intro _ | exact rfl))
    repeat' (first | refine tr_seq ?_ | refine tr_block ?_ | refine tr_skip ?_)
    refine tr_cond rfl (fun hc => ?_) (fun hc => ?_)
    · simp only [condT_tt, condT_ff, condF_tt, condF_ff, notE_t, notE_f, decide_eq_true_eq, decide_eq_false_iff_not] at hc
      (try simp only [eTok0] at hc)
      (try simp only [condT_tt, condT_ff, condF_tt, condF_ff, notE_t, notE_f, decide_eq_true_eq, decide_eq_false_iff_not] at hc)
      have e : okTk v = isSg v.t := by unfold okTk; rw [if_neg k1, if_neg k2, if_neg k3, if_neg k4, if_neg k5]
      rw [e]
      repeat' (first | refine tr_seq ?_ | refine tr_block ?_ | refine tr_skip ?_)
      refine tr_region (lex (T := tab) tOk hnt rfl ?_ (call rfl rfl rfl rfl rfl rfl rfl hnt (sign0_fn v.t) (lex (T := tab) tOk hnt rfl ?_ (Lex.nil _)))) ?_
      · (dsimp only [AllP]; (repeat' first | exact trivial | assumption | exact Nat.le_of_ble_eq_true rfl | apply And.intro | decide | intro _ | exact rfl))
      · (dsimp only [AllP]; (repeat' first | exact trivial | assumption | exact Nat.le_of_ble_eq_true rfl | apply And.intro | decide | intro _ | exact rfl))
      repeat' (first | refine tr_seq ?_ | refine tr_block ?_ | refine tr_skip ?_)
      refine ⟨(), trivial, le_of (ad := []) (by refine ⟨?_, trivial⟩ <;> first | exact trivial | rfl | exact ⟨rfl, rfl⟩ | exact ⟨rfl, rfl, rfl⟩ | exact ⟨rfl, rfl, rfl, rfl⟩ | exact ⟨rfl, rfl, rfl, rfl, rfl⟩ | exact congrArg (fun z : Int => E.v (.int .i64 z)) (wrap64_id (by omega) (by omega))) trivial⟩
    simp only [condT_tt, condT_ff, condF_tt, condF_ff, notE_t, notE_f, decide_eq_true_eq, decide_eq_false_iff_not] at hc
    (try simp only [eTok0] at hc)
    (try simp only [condT_tt, condT_ff, condF_tt, condF_ff, notE_t, notE_f, decide_eq_true_eq, decide_eq_false_iff_not] at hc)
    exact absurd hk (by omega)
  rintro _ _
  repeat' (first | refine tr_seq ?_ | refine reg (T := tab) tOk hnt rfl ?_ ?_ | refine regD (T := tab) tOk mixedR hnt rfl (by decide +kernel) ?_ ?_ | refine tr_block ?_ | refine tr_skip ?_)
  · (dsimp only [AllP]; (repeat' first | exact trivial | assumption | exact Nat.le_of_ble_eq_true rfl | apply And.intro | decide | intro _ | exact rfl))
  generalize okTk v = o
  cases o with
  | true =>
    refine tr_cond rfl (fun h => nomatch (show false = true from h)) (fun _ => ?_)
    repeat' (first | refine tr_seq ?_ | refine reg (T := tab) tOk hnt rfl ?_ ?_ | refine regD (T := tab) tOk mixedR hnt rfl (by decide +kernel) ?_ ?_ | refine tr_block ?_ | refine tr_skip ?_)
    · (dsimp only [AllP]; (repeat' first | exact trivial | assumption | exact Nat.le_of_ble_eq_true rfl | apply And.intro | decide | intro _ | exact rfl))
    exact tr_ret ⟨.inr rfl, _, _, rfl, trivial, rfl⟩
  | false =>
    refine tr_cond rfl (fun _ => ?_) (fun h => nomatch (show true = false from h))
    repeat' (first | refine tr_seq ?_ | refine reg (T := tab) tOk hnt rfl ?_ ?_ | refine regD (T := tab) tOk mixedR hnt rfl (by decide +kernel) ?_ ?_ | refine tr_block ?_ | refine tr_skip ?_)
    · (dsimp only [AllP]; (repeat' first | exact trivial | assumption | exact Nat.le_of_ble_eq_true rfl | apply And.intro | decide | intro _ | exact rfl))
    exact tr_ret ⟨.inr rfl, _, _, rfl, trivial, rfl⟩
end Go.Proofs.YtcjeeoimjkhijaaDoor
