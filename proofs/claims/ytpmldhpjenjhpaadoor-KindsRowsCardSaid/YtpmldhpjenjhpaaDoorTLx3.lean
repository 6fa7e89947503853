/- The document's TokenFault; the law of lex.Check. No condition. -/
import Derived.Test.YtpmldhpjenjhpaaDoorTLx2
namespace Go.Proofs.YtpmldhpjenjhpaaDoor
open Go Go.RowKit Go.Proofs.YtpmldhpjenjhpaaDoor.Ab
set_option linter.unusedSimpArgs false
set_option linter.unusedVariables false

def U0 (v : Tok) : Tok := ⟨v.k, if v.k = 3 ∨ v.k = 5 then [] else v.t, if v.k = 3 then v.i else 0, if v.k = 5 then v.b else 0⟩
def lngB (v : Tok) : Bool := decide ((v.k = 4 ∧ 40 < v.t.length) ∨ ((v.k = 1 ∨ v.k = 2) ∧ 8 < v.t.length))
theorem eqT1 (v w : Tok) : (eqD tab 9 33 (.agg (.es (List.take 4 (List.drop 0 (eTok v))))) (.agg (.es (List.take 4 (List.drop 0 (eTok w)))))).1 :=
  ⟨⟨Nat.le_of_ble_eq_true rfl, rfl⟩, ⟨Nat.le_of_ble_eq_true rfl, rfl⟩, rfl, ⟨Nat.le_of_ble_eq_true rfl, rfl⟩, ⟨Nat.le_of_ble_eq_true rfl, rfl⟩, trivial, ⟨Nat.le_of_ble_eq_true rfl, rfl⟩, ⟨Nat.le_of_ble_eq_true rfl, rfl⟩, rfl, ⟨Nat.le_of_ble_eq_true rfl, rfl⟩, ⟨Nat.le_of_ble_eq_true rfl, rfl⟩, rfl, trivial⟩
theorem eqT2 (v w : Tok) : (eqD tab 9 33 (.agg (.es (List.take 4 (List.drop 0 (eTok v))))) (.agg (.es (List.take 4 (List.drop 0 (eTok w)))))).2 = decide (v.k = w.k ∧ v.t = w.t ∧ v.i = w.i ∧ v.b.toNat = w.b.toNat) := by
  show (v.k == w.k && (strEq (strB v.t) (strB w.t) && (v.i == w.i && ((v.b.toNat : Int) == (w.b.toNat : Int) && true)))) = _
  rw [strEq_B, Bool.eq_iff_iff]
  simp
  omega
theorem isNm_eq (s : Byt) : isNm s = isNmP s := by
  unfold isNm isNmP
  cases decide (s.length ≠ 0) <;> cases s.all nameB <;> cases smallB (s.getD 0 0) <;> rfl
theorem chk_real0 (b : BitVec 64) : decide (chk ⟨3, 0, b, []⟩ = 0) = !badQ b := by
  unfold chk
  rw [badR_eq]
  cases h : badQ b <;> simp
/-- the rest of the document's answer -/
theorem tk_pure {v : Tok} (h1 : 1 ≤ v.k) (h6 : v.k ≤ 6) : tkF v = if lngB v = true then 1 else if (bif !okTk v then true else !decide (v.k = (U0 v).k ∧ v.t = (U0 v).t ∧ v.i = (U0 v).i ∧ v.b.toNat = (U0 v).b.toNat)) = true then 3 else 0 := by
  unfold tkF lngB
  rw [if_neg (by omega)]
  simp only [condT_tt, condT_ff, condF_tt, condF_ff, notE_t, notE_f, decide_eq_true_eq, decide_eq_false_iff_not]
  by_cases hl : (v.k = 4 ∧ 40 < v.t.length) ∨ ((v.k = 1 ∨ v.k = 2) ∧ 8 < v.t.length)
  · rw [if_pos hl, if_pos hl]
  · rw [if_neg hl, if_neg hl]
    have hu : (v.k = (U0 v).k ∧ v.t = (U0 v).t ∧ v.i = (U0 v).i ∧ v.b.toNat = (U0 v).b.toNat) ↔ ¬ (((v.k ≠ 3 ∧ v.i ≠ 0) ∨ (v.k ≠ 5 ∧ v.b.toNat ≠ 0)) ∨ ((v.k = 3 ∨ v.k = 5) ∧ v.t.length ≠ 0)) := by
      have hn : v.t = [] ↔ v.t.length = 0 := List.length_eq_zero_iff.symm
      have hz : (0 : BitVec 64).toNat = 0 := rfl
      unfold U0
      dsimp only
      by_cases k3 : v.k = 3
      · rw [if_pos (.inl k3), if_pos k3, if_neg (by omega), hz, hn]
        omega
      · by_cases k5 : v.k = 5
        · rw [if_pos (.inr k5), if_neg k3, if_pos k5, hn]
          omega
        · rw [if_neg (by omega), if_neg k3, if_neg k5, hz, eq_self v.t, true_and]
          omega
    by_cases hx : ((v.k ≠ 3 ∧ v.i ≠ 0) ∨ (v.k ≠ 5 ∧ v.b.toNat ≠ 0)) ∨ ((v.k = 3 ∨ v.k = 5) ∧ v.t.length ≠ 0)
    · rw [if_pos hx, if_pos (.inr (fun h => hu.1 h hx))]
    · rw [if_neg hx]
      cases ho : okTk v with
      | true => rw [if_pos rfl, if_neg]; rintro (h | h); cases h; exact h (hu.2 hx)
      | false => rw [if_neg Bool.false_ne_true, if_pos (.inl rfl)]
set_option maxRecDepth 10000 in
set_option maxHeartbeats 2000000 in
theorem tokenFault_fn (v : Tok) (hm : v.t.length ≤ maxLen) : FnG Tryd.prog 18 gK [.agg (.es (eTok v))] (.one (.e (eI (tkF v)))) := by
  refine fn_introG (T := tab) tOk Tryd.func18 rfl (by kernel_rfl) (by simp [Tryd.ntmps18]) ?_
  intro X hX
  have hnt : X.nt = 84 := hX
  clear hX
  have hl : (strB v.t).size = v.t.length := strB_size v.t
  repeat' (first | refine tr_seq ?_ | refine tr_block ?_ | refine tr_skip ?_)
  first | refine reg (T := tab) tOk hnt rfl ?_ ?_ | refine regD (T := tab) tOk mixedR hnt rfl (by decide +kernel) ?_ ?_
  · (dsimp only [AllP]; (repeat' first | exact trivial | assumption | exact Nat.le_of_ble_eq_true rfl | apply And.intro | decide | intro _ | exact rfl))
  repeat' (first | refine tr_seq ?_ | refine tr_block ?_ | refine tr_skip ?_)
  first | refine reg (T := tab) tOk hnt rfl ?_ ?_ | refine regD (T := tab) tOk mixedR hnt rfl (by decide +kernel) ?_ ?_
  · (dsimp only [AllP]; (repeat' first | exact trivial | assumption | exact Nat.le_of_ble_eq_true rfl | apply And.intro | decide | intro _ | exact rfl))
  repeat' (first | refine tr_seq ?_ | refine tr_block ?_ | refine tr_skip ?_)
  first | refine reg (T := tab) tOk hnt rfl ?_ ?_ | refine regD (T := tab) tOk mixedR hnt rfl (by decide +kernel) ?_ ?_
  · (dsimp only [AllP]; (repeat' first | exact trivial | assumption | exact Nat.le_of_ble_eq_true rfl | apply And.intro | decide | intro _ | exact rfl))
  repeat' (first | refine tr_seq ?_ | refine tr_block ?_ | refine tr_skip ?_)
  first | refine reg (T := tab) tOk hnt rfl ?_ ?_ | refine regD (T := tab) tOk mixedR hnt rfl (by decide +kernel) ?_ ?_
  · (dsimp only [AllP]; (repeat' first | exact trivial | assumption | exact Nat.le_of_ble_eq_true rfl | apply And.intro | decide | intro _ | exact rfl))
  repeat' (first | refine tr_seq ?_ | refine tr_block ?_ | refine tr_skip ?_)
  first | refine reg (T := tab) tOk hnt rfl ?_ ?_ | refine regD (T := tab) tOk mixedR hnt rfl (by decide +kernel) ?_ ?_
  · (dsimp only [AllP]; (repeat' first | exact trivial | assumption | exact Nat.le_of_ble_eq_true rfl | apply And.intro | decide | intro _ | exact rfl))
  first | refine tr_join (σ := Bool × Bool) (fun x => St.of [(1, .one (.ptr 1 0 0)), (3, .v (.bool x.1)), (4, .one (.ptr 4 0 0)), (5, .v (.bool x.2)), ((1000000 + 1), .one (.eptr fsE)), ((1000000 + 2), .one (.eptr acE))] [(1, ⟨0, .box (.es (eTok v)), 0⟩), (4, ⟨0, .box (.es (eTok (U0 v))), 0⟩)]) (fun x => (1 ≤ v.k ∧ v.k ≤ 6) ∧ x.1 = lngB v ∧ x.2 = okTk v) ?_ ?_ | refine tr_seq (tr_join (σ := Bool × Bool) (fun x => St.of [(1, .one (.ptr 1 0 0)), (3, .v (.bool x.1)), (4, .one (.ptr 4 0 0)), (5, .v (.bool x.2)), ((1000000 + 1), .one (.eptr fsE)), ((1000000 + 2), .one (.eptr acE))] [(1, ⟨0, .box (.es (eTok v)), 0⟩), (4, ⟨0, .box (.es (eTok (U0 v))), 0⟩)]) (fun x => (1 ≤ v.k ∧ v.k ≤ 6) ∧ x.1 = lngB v ∧ x.2 = okTk v) ?_ ?_)
  · repeat' (first | refine tr_seq ?_ | refine reg (T := tab) tOk hnt rfl ?_ ?_ | refine regD (T := tab) tOk mixedR hnt rfl (by decide +kernel) ?_ ?_ | refine tr_block ?_ | refine tr_skip ?_)
    · (dsimp only [AllP]; (repeat' first | exact trivial | assumption | exact Nat.le_of_ble_eq_true rfl | apply And.intro | decide | intro _ | exact rfl))
    repeat' (first | refine tr_seq ?_ | refine tr_block ?_ | refine tr_skip ?_)
    refine tr_cond rfl (fun hc => ?_) (fun hc => ?_)
    · simp only [condT_tt, condT_ff, condF_tt, condF_ff, notE_t, notE_f, decide_eq_true_eq, decide_eq_false_iff_not] at hc
      (try simp only [eTok0] at hc)
      (try simp only [condT_tt, condT_ff, condF_tt, condF_ff, notE_t, notE_f, decide_eq_true_eq, decide_eq_false_iff_not] at hc)
      have w0 : U0 v = ⟨v.k, v.t, 0, 0⟩ := by unfold U0; rw [if_neg (by omega), if_neg (by omega), if_neg (by omega)]
      have hlg : lngB v = decide ((8 : Int) < (v.t.length : Int)) := by unfold lngB; rw [Bool.eq_iff_iff, decide_eq_true_eq, decide_eq_true_eq]; omega
      have hok : okTk v = isNm v.t := by unfold okTk; rw [if_pos hc, isNm_eq]
      have hk := hc
      repeat' (first | refine tr_seq ?_ | refine tr_block ?_ | refine tr_skip ?_)
      refine tr_cond rfl (fun hc => ?_) (fun hc => ?_)
      · repeat' (first | refine tr_seq ?_ | refine tr_block ?_ | refine tr_skip ?_)
        first | refine reg (T := tab) tOk hnt rfl ?_ ?_ | refine regD (T := tab) tOk mixedR hnt rfl (by decide +kernel) ?_ ?_
        · (dsimp only [AllP]; (repeat' first | exact trivial | assumption | exact Nat.le_of_ble_eq_true rfl | apply And.intro | decide | intro _ | exact rfl))
        repeat' (first | refine tr_seq ?_ | refine tr_block ?_ | refine tr_skip ?_)
        first | refine reg (T := tab) tOk hnt rfl ?_ ?_ | refine regD (T := tab) tOk mixedR hnt rfl (by decide +kernel) ?_ ?_
        · (dsimp only [AllP]; (repeat' first | exact trivial | assumption | exact Nat.le_of_ble_eq_true rfl | apply And.intro | decide | intro _ | exact rfl))
        repeat' (first | refine tr_seq ?_ | refine tr_block ?_ | refine tr_skip ?_)
        refine tr_region (lex (T := tab) tOk hnt rfl ?_ (call rfl rfl rfl rfl rfl rfl rfl hnt (isName_fn v.t hm) (lex (T := tab) tOk hnt rfl ?_ (Lex.nil _)))) ?_
        · (dsimp only [AllP]; (repeat' first | exact trivial | assumption | exact Nat.le_of_ble_eq_true rfl | apply And.intro | decide | intro _ | exact rfl))
        · (dsimp only [AllP]; (repeat' first | exact trivial | assumption | exact Nat.le_of_ble_eq_true rfl | apply And.intro | decide | intro _ | exact rfl))
        repeat' (first | refine tr_seq ?_ | refine tr_block ?_ | refine tr_skip ?_)
        first | refine reg (T := tab) tOk hnt rfl ?_ ?_ | refine regD (T := tab) tOk mixedR hnt rfl (by decide +kernel) ?_ ?_
        · (dsimp only [AllP]; (repeat' first | exact trivial | assumption | exact Nat.le_of_ble_eq_true rfl | apply And.intro | decide | intro _ | exact rfl))
        repeat' (first | refine tr_seq ?_ | refine tr_block ?_ | refine tr_skip ?_)
        refine tr_cond rfl (fun hc => ?_) (fun hc => ?_)
        · simp only [condT_tt, condT_ff, condF_tt, condF_ff, notE_t, notE_f, decide_eq_true_eq, decide_eq_false_iff_not] at hc
          (try simp only [eTok0] at hc)
          (try simp only [condT_tt, condT_ff, condF_tt, condF_ff, notE_t, notE_f, decide_eq_true_eq, decide_eq_false_iff_not] at hc)
          omega
        repeat' (first | refine tr_seq ?_ | refine tr_block ?_ | refine tr_skip ?_)
        rw [eTok1, hl]
        refine ⟨(lngB v, okTk v), ⟨by omega, rfl, rfl⟩, le_of (ad := []) ⟨⟨rfl, rfl, rfl, rfl, rfl⟩, ?_, ⟨rfl, rfl, rfl, rfl, rfl⟩, ?_, rfl, rfl, trivial⟩ (memOk_box rfl rfl rfl (memOk_box rfl rfl (by rw [w0]; rfl) trivial))⟩
        · exact congrArg (fun z : Bool => E.v (.bool z)) (by first | (rw [hlg]; done) | (rw [hlg]; rfl))
        · exact congrArg (fun z : Bool => E.v (.bool z)) (by first | (rw [hok]; done) | (rw [hok]; rfl))
      simp only [condT_tt, condT_ff, condF_tt, condF_ff, notE_t, notE_f, decide_eq_true_eq, decide_eq_false_iff_not] at hc
      (try simp only [eTok0] at hc)
      (try simp only [condT_tt, condT_ff, condF_tt, condF_ff, notE_t, notE_f, decide_eq_true_eq, decide_eq_false_iff_not] at hc)
      exact absurd hk hc
    simp only [condT_tt, condT_ff, condF_tt, condF_ff, notE_t, notE_f, decide_eq_true_eq, decide_eq_false_iff_not] at hc
    (try simp only [eTok0] at hc)
    (try simp only [condT_tt, condT_ff, condF_tt, condF_ff, notE_t, notE_f, decide_eq_true_eq, decide_eq_false_iff_not] at hc)
    have k1 := hc
    repeat' (first | refine tr_seq ?_ | refine reg (T := tab) tOk hnt rfl ?_ ?_ | refine regD (T := tab) tOk mixedR hnt rfl (by decide +kernel) ?_ ?_ | refine tr_block ?_ | refine tr_skip ?_)
    · (dsimp only [AllP]; (repeat' first | exact trivial | assumption | exact Nat.le_of_ble_eq_true rfl | apply And.intro | decide | intro _ | exact rfl))
    repeat' (first | refine tr_seq ?_ | refine tr_block ?_ | refine tr_skip ?_)
    refine tr_cond rfl (fun hc => ?_) (fun hc => ?_)
    · simp only [condT_tt, condT_ff, condF_tt, condF_ff, notE_t, notE_f, decide_eq_true_eq, decide_eq_false_iff_not] at hc
      (try simp only [eTok0] at hc)
      (try simp only [condT_tt, condT_ff, condF_tt, condF_ff, notE_t, notE_f, decide_eq_true_eq, decide_eq_false_iff_not] at hc)
      have w0 : U0 v = ⟨v.k, v.t, 0, 0⟩ := by unfold U0; rw [if_neg (by omega), if_neg (by omega), if_neg (by omega)]
      have hlg : lngB v = decide ((8 : Int) < (v.t.length : Int)) := by unfold lngB; rw [Bool.eq_iff_iff, decide_eq_true_eq, decide_eq_true_eq]; omega
      have hok : okTk v = (bif !decide (v.t.length = 0) then v.t.all greatB else false) := by
        unfold okTk isWd
        rw [if_neg k1, if_pos hc]
        by_cases hz : v.t.length = 0
        · simp [hz]
        · simp [hz]
      repeat' (first | refine tr_seq ?_ | refine tr_block ?_ | refine tr_skip ?_)
      first | refine reg (T := tab) tOk hnt rfl ?_ ?_ | refine regD (T := tab) tOk mixedR hnt rfl (by decide +kernel) ?_ ?_
      · (dsimp only [AllP]; (repeat' first | exact trivial | assumption | exact Nat.le_of_ble_eq_true rfl | apply And.intro | decide | intro _ | exact rfl))
      repeat' (first | refine tr_seq ?_ | refine tr_block ?_ | refine tr_skip ?_)
      first | refine reg (T := tab) tOk hnt rfl ?_ ?_ | refine regD (T := tab) tOk mixedR hnt rfl (by decide +kernel) ?_ ?_
      · (dsimp only [AllP]; (repeat' first | exact trivial | assumption | exact Nat.le_of_ble_eq_true rfl | apply And.intro | decide | intro _ | exact rfl))
      repeat' (first | refine tr_seq ?_ | refine tr_block ?_ | refine tr_skip ?_)
      refine tr_region (lex (T := tab) tOk hnt rfl ?_ (call rfl rfl rfl rfl rfl rfl rfl hnt (isName_fn v.t hm) (lex (T := tab) tOk hnt rfl ?_ (Lex.nil _)))) ?_
      · (dsimp only [AllP]; (repeat' first | exact trivial | assumption | exact Nat.le_of_ble_eq_true rfl | apply And.intro | decide | intro _ | exact rfl))
      · (dsimp only [AllP]; (repeat' first | exact trivial | assumption | exact Nat.le_of_ble_eq_true rfl | apply And.intro | decide | intro _ | exact rfl))
      repeat' (first | refine tr_seq ?_ | refine tr_block ?_ | refine tr_skip ?_)
      first | refine reg (T := tab) tOk hnt rfl ?_ ?_ | refine regD (T := tab) tOk mixedR hnt rfl (by decide +kernel) ?_ ?_
      · (dsimp only [AllP]; (repeat' first | exact trivial | assumption | exact Nat.le_of_ble_eq_true rfl | apply And.intro | decide | intro _ | exact rfl))
      repeat' (first | refine tr_seq ?_ | refine tr_block ?_ | refine tr_skip ?_)
      refine tr_cond rfl (fun hc => ?_) (fun hc => ?_)
      · repeat' (first | refine tr_seq ?_ | refine tr_block ?_ | refine tr_skip ?_)
        refine tr_draw (T := tab) tOk hnt mixedR (lexD (T := tab) rfl ?_ (callGD rfl rfl rfl rfl rfl rfl rfl rfl (fun hq => ?_) (fun hq => reach_fn v.t greats hm (by decide)) (lexD (T := tab) rfl ?_ (.nil _)))) (by decide +kernel) ?_
        · (dsimp only [AllP]; (repeat' first | exact trivial | assumption | exact Nat.le_of_ble_eq_true rfl | apply And.intro | exact eCells_len1 _ _ ‹_› | exact eCells_isByte _ _ ‹_› | (intro hh_; have hg_ := hh_; (try simp only [condT_ff, condF_tt, notE_t, notE_f, Bool.and_eq_true, ne_eq, decide_eq_true_eq, decide_eq_false_iff_not] at hg_)) | intro _ | exact rfl | omega))
        · (dsimp only [AllP]; (repeat' first | exact trivial | assumption | exact Nat.le_of_ble_eq_true rfl | apply And.intro | decide | intro _ | exact rfl))
        · (dsimp only [AllP]; (repeat' first | exact trivial | assumption | exact Nat.le_of_ble_eq_true rfl | apply And.intro | exact eCells_len1 _ _ ‹_› | exact eCells_isByte _ _ ‹_› | (intro hh_; have hg_ := hh_; (try simp only [condT_ff, condF_tt, notE_t, notE_f, Bool.and_eq_true, ne_eq, decide_eq_true_eq, decide_eq_false_iff_not] at hg_)) | intro _ | exact rfl | omega))
        repeat' (first | refine tr_seq ?_ | refine tr_block ?_ | refine tr_skip ?_)
        rw [eTok1, hl, strEq_nil, rchF_all, show amg greats = greatB from funext amg_great]
        refine ⟨(lngB v, okTk v), ⟨by omega, rfl, rfl⟩, le_of (ad := []) ⟨⟨rfl, rfl, rfl, rfl, rfl⟩, ?_, ⟨rfl, rfl, rfl, rfl, rfl⟩, ?_, rfl, rfl, trivial⟩ (memOk_box rfl rfl rfl (memOk_box rfl rfl (by rw [w0]; rfl) trivial))⟩
        · exact congrArg (fun z : Bool => E.v (.bool z)) (by first | (rw [hlg]; done) | (rw [hlg]; rfl))
        · exact congrArg (fun z : Bool => E.v (.bool z)) (by first | (rw [hok]; done) | (rw [hok]; rfl))
      simp only [condT_tt, condT_ff, condF_tt, condF_ff, notE_t, notE_f, decide_eq_true_eq, decide_eq_false_iff_not] at hc
      (try simp only [eTok0] at hc)
      (try simp only [condT_tt, condT_ff, condF_tt, condF_ff, notE_t, notE_f, decide_eq_true_eq, decide_eq_false_iff_not] at hc)
      omega
    simp only [condT_tt, condT_ff, condF_tt, condF_ff, notE_t, notE_f, decide_eq_true_eq, decide_eq_false_iff_not] at hc
    (try simp only [eTok0] at hc)
    (try simp only [condT_tt, condT_ff, condF_tt, condF_ff, notE_t, notE_f, decide_eq_true_eq, decide_eq_false_iff_not] at hc)
    have k2 := hc
    repeat' (first | refine tr_seq ?_ | refine reg (T := tab) tOk hnt rfl ?_ ?_ | refine regD (T := tab) tOk mixedR hnt rfl (by decide +kernel) ?_ ?_ | refine tr_block ?_ | refine tr_skip ?_)
    · (dsimp only [AllP]; (repeat' first | exact trivial | assumption | exact Nat.le_of_ble_eq_true rfl | apply And.intro | decide | intro _ | exact rfl))
    repeat' (first | refine tr_seq ?_ | refine tr_block ?_ | refine tr_skip ?_)
    refine tr_cond rfl (fun hc => ?_) (fun hc => ?_)
    · simp only [condT_tt, condT_ff, condF_tt, condF_ff, notE_t, notE_f, decide_eq_true_eq, decide_eq_false_iff_not] at hc
      (try simp only [eTok0] at hc)
      (try simp only [condT_tt, condT_ff, condF_tt, condF_ff, notE_t, notE_f, decide_eq_true_eq, decide_eq_false_iff_not] at hc)
      have w0 : U0 v = ⟨v.k, [], v.i, 0⟩ := by unfold U0; rw [if_pos (by omega), if_pos hc, if_neg (by omega)]
      have hlg : lngB v = false := by unfold lngB; exact decide_eq_false (by omega)
      have hok : okTk v = decide (0 ≤ v.i) := by unfold okTk; rw [if_neg k1, if_neg k2, if_pos hc]
      repeat' (first | refine tr_seq ?_ | refine tr_block ?_ | refine tr_skip ?_)
      first | refine reg (T := tab) tOk hnt rfl ?_ ?_ | refine regD (T := tab) tOk mixedR hnt rfl (by decide +kernel) ?_ ?_
      · (dsimp only [AllP]; (repeat' first | exact trivial | assumption | exact Nat.le_of_ble_eq_true rfl | apply And.intro | decide | intro _ | exact rfl))
      repeat' (first | refine tr_seq ?_ | refine tr_block ?_ | refine tr_skip ?_)
      first | refine reg (T := tab) tOk hnt rfl ?_ ?_ | refine regD (T := tab) tOk mixedR hnt rfl (by decide +kernel) ?_ ?_
      · (dsimp only [AllP]; (repeat' first | exact trivial | assumption | exact Nat.le_of_ble_eq_true rfl | apply And.intro | decide | intro _ | exact rfl))
      repeat' (first | refine tr_seq ?_ | refine tr_block ?_ | refine tr_skip ?_)
      refine ⟨(lngB v, okTk v), ⟨by omega, rfl, rfl⟩, le_of (ad := []) ⟨⟨rfl, rfl, rfl, rfl, rfl⟩, ?_, ⟨rfl, rfl, rfl, rfl, rfl⟩, ?_, rfl, rfl, trivial⟩ (memOk_box rfl rfl rfl (memOk_box rfl rfl (by rw [w0]; rfl) trivial))⟩
      · exact congrArg (fun z : Bool => E.v (.bool z)) (by first | (rw [hlg]; done) | (rw [hlg]; rfl))
      · exact congrArg (fun z : Bool => E.v (.bool z)) (by first | (rw [hok]; done) | (rw [hok]; rfl))
    simp only [condT_tt, condT_ff, condF_tt, condF_ff, notE_t, notE_f, decide_eq_true_eq, decide_eq_false_iff_not] at hc
    (try simp only [eTok0] at hc)
    (try simp only [condT_tt, condT_ff, condF_tt, condF_ff, notE_t, notE_f, decide_eq_true_eq, decide_eq_false_iff_not] at hc)
    have k3 := hc
    repeat' (first | refine tr_seq ?_ | refine reg (T := tab) tOk hnt rfl ?_ ?_ | refine regD (T := tab) tOk mixedR hnt rfl (by decide +kernel) ?_ ?_ | refine tr_block ?_ | refine tr_skip ?_)
    · (dsimp only [AllP]; (repeat' first | exact trivial | assumption | exact Nat.le_of_ble_eq_true rfl | apply And.intro | decide | intro _ | exact rfl))
    repeat' (first | refine tr_seq ?_ | refine tr_block ?_ | refine tr_skip ?_)
    refine tr_cond rfl (fun hc => ?_) (fun hc => ?_)
    · simp only [condT_tt, condT_ff, condF_tt, condF_ff, notE_t, notE_f, decide_eq_true_eq, decide_eq_false_iff_not] at hc
      (try simp only [eTok0] at hc)
      (try simp only [condT_tt, condT_ff, condF_tt, condF_ff, notE_t, notE_f, decide_eq_true_eq, decide_eq_false_iff_not] at hc)
      have w0 : U0 v = ⟨v.k, v.t, 0, 0⟩ := by unfold U0; rw [if_neg (by omega), if_neg (by omega), if_neg (by omega)]
      have hlg : lngB v = decide ((40 : Int) < (v.t.length : Int)) := by unfold lngB; rw [Bool.eq_iff_iff, decide_eq_true_eq, decide_eq_true_eq]; omega
      have hok : okTk v = vld v.t := by unfold okTk; rw [if_neg k1, if_neg k2, if_neg k3, if_pos hc]
      repeat' (first | refine tr_seq ?_ | refine tr_block ?_ | refine tr_skip ?_)
      first | refine reg (T := tab) tOk hnt rfl ?_ ?_ | refine regD (T := tab) tOk mixedR hnt rfl (by decide +kernel) ?_ ?_
      · (dsimp only [AllP]; (repeat' first | exact trivial | assumption | exact Nat.le_of_ble_eq_true rfl | apply And.intro | decide | intro _ | exact rfl))
      repeat' (first | refine tr_seq ?_ | refine tr_block ?_ | refine tr_skip ?_)
      first | refine reg (T := tab) tOk hnt rfl ?_ ?_ | refine regD (T := tab) tOk mixedR hnt rfl (by decide +kernel) ?_ ?_
      · (dsimp only [AllP]; (repeat' first | exact trivial | assumption | exact Nat.le_of_ble_eq_true rfl | apply And.intro | decide | intro _ | exact rfl))
      repeat' (first | refine tr_seq ?_ | refine tr_block ?_ | refine tr_skip ?_)
      refine tr_region (lex (T := tab) tOk hnt rfl ?_ (callV rfl rfl rfl rfl rfl rfl rfl hnt rfl (valid_fn v.t) (lex (T := tab) tOk hnt rfl ?_ (Lex.nil _)))) ?_
      · (dsimp only [AllP]; (repeat' first | exact trivial | assumption | exact Nat.le_of_ble_eq_true rfl | apply And.intro | decide | intro _ | exact rfl))
      · (dsimp only [AllP]; (repeat' first | exact trivial | assumption | exact Nat.le_of_ble_eq_true rfl | apply And.intro | decide | intro _ | exact rfl))
      repeat' (first | refine tr_seq ?_ | refine tr_block ?_ | refine tr_skip ?_)
      rw [eTok1, hl]
      refine ⟨(lngB v, okTk v), ⟨by omega, rfl, rfl⟩, le_of (ad := []) ⟨⟨rfl, rfl, rfl, rfl, rfl⟩, ?_, ⟨rfl, rfl, rfl, rfl, rfl⟩, ?_, rfl, rfl, trivial⟩ (memOk_box rfl rfl rfl (memOk_box rfl rfl (by rw [w0]; rfl) trivial))⟩
      · exact congrArg (fun z : Bool => E.v (.bool z)) (by first | (rw [hlg]; done) | (rw [hlg]; rfl))
      · exact congrArg (fun z : Bool => E.v (.bool z)) (by first | (rw [hok]; done) | (rw [hok]; rfl))
    simp only [condT_tt, condT_ff, condF_tt, condF_ff, notE_t, notE_f, decide_eq_true_eq, decide_eq_false_iff_not] at hc
    (try simp only [eTok0] at hc)
    (try simp only [condT_tt, condT_ff, condF_tt, condF_ff, notE_t, notE_f, decide_eq_true_eq, decide_eq_false_iff_not] at hc)
    have k4 := hc
    repeat' (first | refine tr_seq ?_ | refine reg (T := tab) tOk hnt rfl ?_ ?_ | refine regD (T := tab) tOk mixedR hnt rfl (by decide +kernel) ?_ ?_ | refine tr_block ?_ | refine tr_skip ?_)
    · (dsimp only [AllP]; (repeat' first | exact trivial | assumption | exact Nat.le_of_ble_eq_true rfl | apply And.intro | decide | intro _ | exact rfl))
    repeat' (first | refine tr_seq ?_ | refine tr_block ?_ | refine tr_skip ?_)
    refine tr_cond rfl (fun hc => ?_) (fun hc => ?_)
    · simp only [condT_tt, condT_ff, condF_tt, condF_ff, notE_t, notE_f, decide_eq_true_eq, decide_eq_false_iff_not] at hc
      (try simp only [eTok0] at hc)
      (try simp only [condT_tt, condT_ff, condF_tt, condF_ff, notE_t, notE_f, decide_eq_true_eq, decide_eq_false_iff_not] at hc)
      have w0 : U0 v = ⟨v.k, [], 0, v.b⟩ := by unfold U0; rw [if_pos (by omega), if_neg k3, if_pos hc]
      have hlg : lngB v = false := by unfold lngB; exact decide_eq_false (by omega)
      have hok : okTk v = !badQ v.b := by unfold okTk; rw [if_neg k1, if_neg k2, if_neg k3, if_neg k4, if_pos hc, chk_real0]
      repeat' (first | refine tr_seq ?_ | refine tr_block ?_ | refine tr_skip ?_)
      first | refine reg (T := tab) tOk hnt rfl ?_ ?_ | refine regD (T := tab) tOk mixedR hnt rfl (by decide +kernel) ?_ ?_
      · (dsimp only [AllP]; (repeat' first | exact trivial | assumption | exact Nat.le_of_ble_eq_true rfl | apply And.intro | decide | intro _ | exact rfl))
      repeat' (first | refine tr_seq ?_ | refine tr_block ?_ | refine tr_skip ?_)
      refine tr_region (lex (T := tab) tOk hnt rfl ?_ (call rfl rfl rfl rfl rfl rfl rfl hnt (badReal_fn v.b) (lex (T := tab) tOk hnt rfl ?_ (Lex.nil _)))) ?_
      · (dsimp only [AllP]; (repeat' first | exact trivial | assumption | exact Nat.le_of_ble_eq_true rfl | apply And.intro | decide | intro _ | exact rfl))
      · (dsimp only [AllP]; (repeat' first | exact trivial | assumption | exact Nat.le_of_ble_eq_true rfl | apply And.intro | decide | intro _ | exact rfl))
      repeat' (first | refine tr_seq ?_ | refine tr_block ?_ | refine tr_skip ?_)
      refine ⟨(lngB v, okTk v), ⟨by omega, rfl, rfl⟩, le_of (ad := []) ⟨⟨rfl, rfl, rfl, rfl, rfl⟩, ?_, ⟨rfl, rfl, rfl, rfl, rfl⟩, ?_, rfl, rfl, trivial⟩ (memOk_box rfl rfl rfl (memOk_box rfl rfl (by rw [w0]; rfl) trivial))⟩
      · exact congrArg (fun z : Bool => E.v (.bool z)) (by first | (rw [hlg]; done) | (rw [hlg]; rfl))
      · exact congrArg (fun z : Bool => E.v (.bool z)) (by first | (rw [hok]; done) | (rw [hok]; rfl))
    simp only [condT_tt, condT_ff, condF_tt, condF_ff, notE_t, notE_f, decide_eq_true_eq, decide_eq_false_iff_not] at hc
    (try simp only [eTok0] at hc)
    (try simp only [condT_tt, condT_ff, condF_tt, condF_ff, notE_t, notE_f, decide_eq_true_eq, decide_eq_false_iff_not] at hc)
    have k5 := hc
    repeat' (first | refine tr_seq ?_ | refine reg (T := tab) tOk hnt rfl ?_ ?_ | refine regD (T := tab) tOk mixedR hnt rfl (by decide +kernel) ?_ ?_ | refine tr_block ?_ | refine tr_skip ?_)
    · (dsimp only [AllP]; (repeat' first | exact trivial | assumption | exact Nat.le_of_ble_eq_true rfl | apply And.intro | decide | intro _ | exact rfl))
    repeat' (first | refine tr_seq ?_ | refine tr_block ?_ | refine tr_skip ?_)
    refine tr_cond rfl (fun hc => ?_) (fun hc => ?_)
    · simp only [condT_tt, condT_ff, condF_tt, condF_ff, notE_t, notE_f, decide_eq_true_eq, decide_eq_false_iff_not] at hc
      (try simp only [eTok0] at hc)
      (try simp only [condT_tt, condT_ff, condF_tt, condF_ff, notE_t, notE_f, decide_eq_true_eq, decide_eq_false_iff_not] at hc)
      have w0 : U0 v = ⟨v.k, v.t, 0, 0⟩ := by unfold U0; rw [if_neg (by omega), if_neg (by omega), if_neg (by omega)]
      have hlg : lngB v = false := by unfold lngB; exact decide_eq_false (by omega)
      have hok : okTk v = isSg v.t := by unfold okTk; rw [if_neg k1, if_neg k2, if_neg k3, if_neg k4, if_neg k5]
      repeat' (first | refine tr_seq ?_ | refine tr_block ?_ | refine tr_skip ?_)
      first | refine reg (T := tab) tOk hnt rfl ?_ ?_ | refine regD (T := tab) tOk mixedR hnt rfl (by decide +kernel) ?_ ?_
      · (dsimp only [AllP]; (repeat' first | exact trivial | assumption | exact Nat.le_of_ble_eq_true rfl | apply And.intro | decide | intro _ | exact rfl))
      repeat' (first | refine tr_seq ?_ | refine tr_block ?_ | refine tr_skip ?_)
      refine tr_region (lex (T := tab) tOk hnt rfl ?_ (call rfl rfl rfl rfl rfl rfl rfl hnt (isSign_fn v.t) (lex (T := tab) tOk hnt rfl ?_ (Lex.nil _)))) ?_
      · (dsimp only [AllP]; (repeat' first | exact trivial | assumption | exact Nat.le_of_ble_eq_true rfl | apply And.intro | decide | intro _ | exact rfl))
      · (dsimp only [AllP]; (repeat' first | exact trivial | assumption | exact Nat.le_of_ble_eq_true rfl | apply And.intro | decide | intro _ | exact rfl))
      repeat' (first | refine tr_seq ?_ | refine tr_block ?_ | refine tr_skip ?_)
      refine ⟨(lngB v, okTk v), ⟨by omega, rfl, rfl⟩, le_of (ad := []) ⟨⟨rfl, rfl, rfl, rfl, rfl⟩, ?_, ⟨rfl, rfl, rfl, rfl, rfl⟩, ?_, rfl, rfl, trivial⟩ (memOk_box rfl rfl rfl (memOk_box rfl rfl (by rw [w0]; rfl) trivial))⟩
      · exact congrArg (fun z : Bool => E.v (.bool z)) (by first | (rw [hlg]; done) | (rw [hlg]; rfl))
      · exact congrArg (fun z : Bool => E.v (.bool z)) (by first | (rw [hok]; done) | (rw [hok]; rfl))
    simp only [condT_tt, condT_ff, condF_tt, condF_ff, notE_t, notE_f, decide_eq_true_eq, decide_eq_false_iff_not] at hc
    (try simp only [eTok0] at hc)
    (try simp only [condT_tt, condT_ff, condF_tt, condF_ff, notE_t, notE_f, decide_eq_true_eq, decide_eq_false_iff_not] at hc)
    have ht : tkF v = 2 := by unfold tkF; rw [if_pos (by omega)]
    rw [ht]
    repeat' (first | refine tr_seq ?_ | refine reg (T := tab) tOk hnt rfl ?_ ?_ | refine regD (T := tab) tOk mixedR hnt rfl (by decide +kernel) ?_ ?_ | refine tr_block ?_ | refine tr_skip ?_)
    · (dsimp only [AllP]; (repeat' first | exact trivial | assumption | exact Nat.le_of_ble_eq_true rfl | apply And.intro | decide | intro _ | exact rfl))
    exact tr_ret ⟨.inr rfl, _, _, rfl, trivial, rfl⟩
  rintro ⟨lg, ok⟩ ⟨⟨h1, h6⟩, e1, e2⟩
  dsimp only at e1 e2 ⊢
  rw [tk_pure h1 h6, ← e1, ← e2]
  repeat' (first | refine tr_seq ?_ | refine reg (T := tab) tOk hnt rfl ?_ ?_ | refine regD (T := tab) tOk mixedR hnt rfl (by decide +kernel) ?_ ?_ | refine tr_block ?_ | refine tr_skip ?_)
  · (dsimp only [AllP]; (repeat' first | exact trivial | assumption | exact Nat.le_of_ble_eq_true rfl | apply And.intro | decide | intro _ | exact rfl))
  cases lg with
  | true =>
    refine tr_cond rfl (fun _ => ?_) (fun h => nomatch (show true = false from h))
    repeat' (first | refine tr_seq ?_ | refine reg (T := tab) tOk hnt rfl ?_ ?_ | refine regD (T := tab) tOk mixedR hnt rfl (by decide +kernel) ?_ ?_ | refine tr_block ?_ | refine tr_skip ?_)
    · (dsimp only [AllP]; (repeat' first | exact trivial | assumption | exact Nat.le_of_ble_eq_true rfl | apply And.intro | decide | intro _ | exact rfl))
    exact tr_ret ⟨.inr rfl, _, _, rfl, trivial, rfl⟩
  | false =>
  refine tr_cond rfl (fun h => nomatch (show false = true from h)) (fun _ => ?_)
  rw [if_neg Bool.false_ne_true]
  have q1 := eqT1 v (U0 v)
  repeat' (first | refine tr_seq ?_ | refine tr_block ?_ | refine tr_skip ?_)
  first | refine reg (T := tab) tOk hnt rfl ?_ ?_ | refine regD (T := tab) tOk mixedR hnt rfl (by decide +kernel) ?_ ?_
  · (dsimp only [AllP]; (repeat' first | exact trivial | assumption | exact Nat.le_of_ble_eq_true rfl | apply And.intro | exact eCells_len1 _ _ ‹_› | exact eCells_isByte _ _ ‹_› | (intro hh_; have hg_ := hh_; (try simp only [condT_ff, condF_tt, notE_t, notE_f, Bool.and_eq_true, ne_eq, decide_eq_true_eq, decide_eq_false_iff_not] at hg_)) | intro _ | exact rfl | omega))
  rw [eqT2]
  repeat' (first | refine tr_seq ?_ | refine tr_block ?_ | refine tr_skip ?_)
  refine tr_cond rfl (fun hc => ?_) (fun hc => ?_)
  · rw [if_pos hc]
    repeat' (first | refine tr_seq ?_ | refine reg (T := tab) tOk hnt rfl ?_ ?_ | refine regD (T := tab) tOk mixedR hnt rfl (by decide +kernel) ?_ ?_ | refine tr_block ?_ | refine tr_skip ?_)
    · (dsimp only [AllP]; (repeat' first | exact trivial | assumption | exact Nat.le_of_ble_eq_true rfl | apply And.intro | decide | intro _ | exact rfl))
    exact tr_ret ⟨.inr rfl, _, _, rfl, trivial, rfl⟩
  rw [if_neg (by rw [hc]; exact Bool.false_ne_true)]
  repeat' (first | refine tr_seq ?_ | refine reg (T := tab) tOk hnt rfl ?_ ?_ | refine regD (T := tab) tOk mixedR hnt rfl (by decide +kernel) ?_ ?_ | refine tr_block ?_ | refine tr_skip ?_)
  · (dsimp only [AllP]; (repeat' first | exact trivial | assumption | exact Nat.le_of_ble_eq_true rfl | apply And.intro | decide | intro _ | exact rfl))
  exact tr_ret ⟨.inr rfl, _, _, rfl, trivial, rfl⟩
end Go.Proofs.YtpmldhpjenjhpaaDoor
