/- span.Of: literals, bounds. No condition. -/
import Derived.Test.YtcjeeoimjkhijaaDoorTExA
import Derived.Test.YtcjeeoimjkhijaaDoorAbI
namespace Go.Proofs.YtcjeeoimjkhijaaDoor
open Go Go.RowKit Go.Proofs.YtcjeeoimjkhijaaDoor.Ab
set_option linter.unusedSimpArgs false
set_option linter.unusedVariables false

/-- an expression that was checked -/
def okX (x : Ex) : Prop := ndF x = 0 ∧ exOk x
theorem ndL_mem : ∀ {l : List Ex} {a : Ex}, ndL l = 0 → a ∈ l → ndF a = 0
  | b :: r, a, h, hm => by
    rw [ndL] at h
    split at h
    · contradiction
    · rename_i h1
      rcases List.mem_cons.1 hm with rfl | hm
      · exact Classical.not_not.1 h1
      · exact ndL_mem h hm
theorem okX_node {x : Ex} (h : okX x) : nodeF x = 0 := by
  have h := h.1
  rw [ndF_eq] at h
  split at h
  · contradiction
  · rename_i h1; exact Classical.not_not.1 h1
theorem okX_kid {x a : Ex} (h : okX x) (ha : a ∈ x.ar) : okX a := by
  refine ⟨?_, (exOk_kids h.2).2 a ha⟩
  have h1 := h.1
  rw [ndF_eq, if_neg (not_not_intro (okX_node h))] at h1
  exact ndL_mem h1 ha
theorem okX_len {x : Ex} (h : okX x) : (x.ar.length : Int) = wantF x.op := by
  have h := okX_node h
  unfold nodeF at h
  split at h
  · exact absurd h (by decide)
  · split at h
    · exact absurd h (by decide)
    · rename_i h1; exact Classical.not_not.1 h1
theorem okX_lit {x : Ex} (h : okX x) (h1 : x.op = 1) : 0 ≤ x.v.i := by
  have h := okX_node h
  unfold nodeF at h
  split at h
  · exact absurd h (by decide)
  split at h
  · exact absurd h (by decide)
  split at h
  · exact absurd h (by decide)
  split at h
  · exact absurd h (by decide)
  split at h
  · exact absurd h (by decide)
  · omega
theorem okX_rng {x : Ex} (h : okX x) : (-9223372036854775808 ≤ x.op ∧ x.op ≤ 9223372036854775807) ∧ -9223372036854775808 ≤ x.v.i ∧ x.v.i ≤ 9223372036854775807 := by
  have h := (exOk_eq x).1 h.2
  exact ⟨h.1, h.2.1.1.2⟩
/-- two kids -/
theorem okX_two {x : Ex} (h : okX x) (h9 : 9 ≤ x.op ∧ x.op ≤ 15) : ∃ a b, x.ar = [a, b] ∧ okX a ∧ okX b := by
  have hl := okX_len h
  unfold wantF at hl
  rw [if_neg (by omega), if_neg (by omega)] at hl
  have hk : ∀ a ∈ x.ar, okX a := fun a ha => okX_kid h ha
  revert hl hk
  cases x.ar with
  | nil => intro h; exact absurd h (by decide)
  | cons a r => cases r with
    | nil => intro h; exact absurd h (show ¬ ((1 : Nat) : Int) = 2 by decide)
    | cons b r => cases r with
      | nil => intro _ hk; exact ⟨a, b, rfl, hk a (by simp), hk b (by simp)⟩
      | cons c r => intro h; simp only [List.length_cons] at h; omega
theorem okX_one {x : Ex} (h : okX x) (h3 : x.op = 3) : ∃ a, x.ar = [a] ∧ okX a := by
  have hl := okX_len h
  unfold wantF at hl
  rw [if_neg (by omega), if_pos (.inl h3)] at hl
  have hk : ∀ a ∈ x.ar, okX a := fun a ha => okX_kid h ha
  revert hl hk
  cases x.ar with
  | nil => intro h; exact absurd h (by decide)
  | cons a r => cases r with
    | nil => intro _ hk; exact ⟨a, rfl, hk a (by simp)⟩
    | cons b r => intro h; simp only [List.length_cons] at h; omega
def litO (x : Ex) : Option Int :=
  if x.op = 3 then (if (x.ar.getD 0 ex0).op = 1 ∧ (x.ar.getD 0 ex0).v.k = 2 then some (-(x.ar.getD 0 ex0).v.i) else none)
  else if x.op = 1 ∧ x.v.k = 2 then some x.v.i else none
theorem litO_rng {x : Ex} (h : okX x) {n : Int} (hn : litO x = some n) : -9223372036854775807 ≤ n ∧ n ≤ 9223372036854775807 := by
  unfold litO at hn
  split at hn
  · rename_i h3
    obtain ⟨a, ha, hk⟩ := okX_one h h3
    rw [ha] at hn
    split at hn
    · rename_i h1
      cases hn
      have := okX_lit hk h1.1
      have := okX_rng hk
      show -9223372036854775807 ≤ -a.v.i ∧ -a.v.i ≤ 9223372036854775807
      omega
    · cases hn
  · split at hn
    · rename_i h1
      cases hn
      have := okX_lit h h1.1
      have := okX_rng h
      omega
    · cases hn
theorem eI_int (n : Int) : (eI n).int = n := rfl
def litC (x : Ex) : Int × Bool := match litO x with | some n => (n, true) | none => (x.v.i, false)
def mtD (q : Option Int) : Int × Bool := match q with | some n => (n, true) | none => (0, false)
def litD (x : Ex) : Int × Bool := mtD (litO x)
def rLt (q : Int × Bool) : D := .tup [(false, .es [eI q.1]), (false, .es [eBl q.2])]
set_option maxRecDepth 10000 in
set_option maxHeartbeats 2000000 in
theorem literal_fn (x : Ex) (h : okX x) : FnD Tryd.prog 85 [.agg (.es (eEx x))] (rLt (litC x)) := by
  refine fn_intro (T := tab) tOk Tryd.func85 rfl (by kernel_rfl) (by simp [Tryd.ntmps85]) ?_
  intro X hX
  have hnt : X.nt = 43 := hX
  clear hX
  have hr := okX_rng h
  by_cases h3 : x.op = 3
  · obtain ⟨a, ha, hk⟩ := okX_one h h3
    have hra := okX_rng hk
    have hn : litC x = if a.op = 1 ∧ a.v.k = 2 then (-a.v.i, true) else (x.v.i, false) := by
      unfold litC litO
      rw [if_pos h3, ha]
      show (match (if a.op = 1 ∧ a.v.k = 2 then some (-a.v.i) else none) with | some n => (n, true) | none => (x.v.i, false)) = _
      by_cases h1 : a.op = 1 ∧ a.v.k = 2
      · rw [if_pos h1, if_pos h1]
      · rw [if_neg h1, if_neg h1]
    rw [hn]
    have hal := okX_lit hk
    rw [eEx_eq, ha, h3, show eExs [a] = [eEx a] from rfl, eEx_eq a]
    repeat' (first | refine tr_seq ?_ | refine tr_block ?_ | refine tr_skip ?_)
    first | refine reg (T := tab) tOk hnt rfl ?_ ?_ | refine regD (T := tab) tOk mixedR hnt rfl (by decide +kernel) ?_ ?_
    · (dsimp only [AllP]; (repeat' first | exact trivial | assumption | exact Nat.le_of_ble_eq_true rfl | apply And.intro | exact eCells_len1 _ _ ‹_› | exact eCells_isByte _ _ ‹_› | (intro hh_; have hg_ := hh_; (try simp only [condT_ff, condF_tt, notE_t, notE_f, Bool.and_eq_true, ne_eq, decide_eq_true_eq, decide_eq_false_iff_not] at hg_)) | intro _ | exact rfl | omega))
    repeat' (first | refine tr_seq ?_ | refine tr_block ?_ | refine tr_skip ?_)
    first | refine reg (T := tab) tOk hnt rfl ?_ ?_ | refine regD (T := tab) tOk mixedR hnt rfl (by decide +kernel) ?_ ?_
    · (dsimp only [AllP]; (repeat' first | exact trivial | assumption | exact Nat.le_of_ble_eq_true rfl | apply And.intro | exact eCells_len1 _ _ ‹_› | exact eCells_isByte _ _ ‹_› | (intro hh_; have hg_ := hh_; (try simp only [condT_ff, condF_tt, notE_t, notE_f, Bool.and_eq_true, ne_eq, decide_eq_true_eq, decide_eq_false_iff_not] at hg_)) | intro _ | exact rfl | omega))
      all_goals exact (show (0 : Int) < ((1 : Nat) : Int) by decide)
    repeat' (first | refine tr_seq ?_ | refine tr_block ?_ | refine tr_skip ?_)
    refine tr_cond rfl (fun hc => ?_) (fun hc => ?_)
    · have hc : (bif bif decide ((3 : Int) = 3) then decide (a.op = 1) else false then decide (a.v.k = 2) else false) = true := hc
      simp only [condT_tt, condT_ff, condF_tt, condF_ff, notE_t, notE_f, decide_eq_true_eq, decide_eq_false_iff_not] at hc
      have hc : a.op = 1 ∧ a.v.k = 2 := ⟨hc.1.2, hc.2⟩
      rw [if_pos hc]
      have hw : IntKind.i64.wrap (0 - a.v.i) = -a.v.i := (wrap64_id (by have := hal hc.1; omega) (by have := hal hc.1; omega)).trans (by omega)
      repeat' (first | refine tr_seq ?_ | refine tr_block ?_ | refine tr_skip ?_)
      first | refine reg (T := tab) tOk hnt rfl ?_ ?_ | refine regD (T := tab) tOk mixedR hnt rfl (by decide +kernel) ?_ ?_
      · (dsimp only [AllP]; (repeat' first | exact trivial | assumption | exact Nat.le_of_ble_eq_true rfl | apply And.intro | exact eCells_len1 _ _ ‹_› | exact eCells_isByte _ _ ‹_› | (intro hh_; have hg_ := hh_; (try simp only [condT_ff, condF_tt, notE_t, notE_f, Bool.and_eq_true, ne_eq, decide_eq_true_eq, decide_eq_false_iff_not] at hg_)) | intro _ | exact rfl | omega))
        all_goals exact (show (0 : Int) < ((1 : Nat) : Int) by decide)
      repeat' (first | refine tr_seq ?_ | refine tr_block ?_ | refine tr_skip ?_)
      refine tr_ret ⟨.inr rfl, _, _, rfl, by (repeat' first | exact trivial | exact Nat.le_of_ble_eq_true rfl | apply And.intro), ?_⟩
      exact congrArg (fun z : Int => rLt (z, true)) hw
    have hc : (bif bif decide ((3 : Int) = 3) then decide (a.op = 1) else false then decide (a.v.k = 2) else false) = false := hc
    rw [if_neg (fun h => by rw [h.1, h.2] at hc; exact absurd hc (by decide))]
    repeat' (first | refine tr_seq ?_ | refine tr_block ?_ | refine tr_skip ?_)
    first | refine reg (T := tab) tOk hnt rfl ?_ ?_ | refine regD (T := tab) tOk mixedR hnt rfl (by decide +kernel) ?_ ?_
    · (dsimp only [AllP]; (repeat' first | exact trivial | assumption | exact Nat.le_of_ble_eq_true rfl | apply And.intro | exact eCells_len1 _ _ ‹_› | exact eCells_isByte _ _ ‹_› | (intro hh_; have hg_ := hh_; (try simp only [condT_ff, condF_tt, notE_t, notE_f, Bool.and_eq_true, ne_eq, decide_eq_true_eq, decide_eq_false_iff_not] at hg_)) | intro _ | exact rfl | omega))
    repeat' (first | refine tr_seq ?_ | refine tr_block ?_ | refine tr_skip ?_)
    refine tr_ret ⟨.inr rfl, _, _, rfl, by (repeat' first | exact trivial | exact Nat.le_of_ble_eq_true rfl | apply And.intro), ?_⟩
    exact rfl
  have hn : litC x = (x.v.i, decide (x.op = 1 ∧ x.v.k = 2)) := by
    unfold litC litO
    rw [if_neg h3]
    by_cases h1 : x.op = 1 ∧ x.v.k = 2
    · rw [if_pos h1, decide_eq_true h1]
    · rw [if_neg h1, decide_eq_false h1]
  rw [hn, eEx_eq]
  repeat' (first | refine tr_seq ?_ | refine tr_block ?_ | refine tr_skip ?_)
  first | refine reg (T := tab) tOk hnt rfl ?_ ?_ | refine regD (T := tab) tOk mixedR hnt rfl (by decide +kernel) ?_ ?_
  · (dsimp only [AllP]; (repeat' first | exact trivial | assumption | exact Nat.le_of_ble_eq_true rfl | apply And.intro | exact eCells_len1 _ _ ‹_› | exact eCells_isByte _ _ ‹_› | (intro hh_; have hg_ := hh_; (try simp only [condT_ff, condF_tt, notE_t, notE_f, Bool.and_eq_true, ne_eq, decide_eq_true_eq, decide_eq_false_iff_not] at hg_)) | intro _ | exact rfl | omega))
  repeat' (first | refine tr_seq ?_ | refine tr_block ?_ | refine tr_skip ?_)
  first | refine reg (T := tab) tOk hnt rfl ?_ ?_ | refine regD (T := tab) tOk mixedR hnt rfl (by decide +kernel) ?_ ?_
  · (dsimp only [AllP]; (repeat' first | exact trivial | assumption | exact Nat.le_of_ble_eq_true rfl | apply And.intro | exact eCells_len1 _ _ ‹_› | exact eCells_isByte _ _ ‹_› | (intro hh_; have hg_ := hh_; (try simp only [condT_ff, condF_tt, notE_t, notE_f, Bool.and_eq_true, ne_eq, decide_eq_true_eq, decide_eq_false_iff_not] at hg_)) | intro _ | exact rfl | omega))
    all_goals first | exact absurd hg_ h3 | exact absurd hg_.1 h3
  repeat' (first | refine tr_seq ?_ | refine tr_block ?_ | refine tr_skip ?_)
  refine tr_cond rfl (fun hc => ?_) (fun hc => ?_)
  · have hc : (bif bif decide (x.op = 3) then _ else false then _ else false) = true := hc
    rw [decide_eq_false h3] at hc
    exact absurd (show false = true from hc) (by decide)
  repeat' (first | refine tr_seq ?_ | refine tr_block ?_ | refine tr_skip ?_)
  first | refine reg (T := tab) tOk hnt rfl ?_ ?_ | refine regD (T := tab) tOk mixedR hnt rfl (by decide +kernel) ?_ ?_
  · (dsimp only [AllP]; (repeat' first | exact trivial | assumption | exact Nat.le_of_ble_eq_true rfl | apply And.intro | exact eCells_len1 _ _ ‹_› | exact eCells_isByte _ _ ‹_› | (intro hh_; have hg_ := hh_; (try simp only [condT_ff, condF_tt, notE_t, notE_f, Bool.and_eq_true, ne_eq, decide_eq_true_eq, decide_eq_false_iff_not] at hg_)) | intro _ | exact rfl | omega))
  repeat' (first | refine tr_seq ?_ | refine tr_block ?_ | refine tr_skip ?_)
  refine tr_ret ⟨.inr rfl, _, _, rfl, by (repeat' first | exact trivial | exact Nat.le_of_ble_eq_true rfl | apply And.intro), ?_⟩
  have hb : (bif decide (x.op = 1) then decide (x.v.k = 2) else false) = decide (x.op = 1 ∧ x.v.k = 2) := by
    by_cases h1 : x.op = 1 <;> by_cases h2 : x.v.k = 2 <;> simp [h1, h2]
  exact congrArg (fun z : Bool => rLt (x.v.i, z)) hb
theorem litD_of {x : Ex} {q : Option Int} (h : litO x = q) : litD x = mtD q := by subst h; rfl
set_option maxRecDepth 10000 in
set_option maxHeartbeats 2000000 in
theorem litNumber_fn (x : Ex) (h : okX x) : FnD Tryd.prog 59 [.agg (.es (eEx x))] (rLt (litD x)) := by
  refine fn_intro (T := tab) tOk Tryd.func59 rfl (by kernel_rfl) (by simp [Tryd.ntmps59]) ?_
  intro X hX
  have hnt : X.nt = 30 := hX
  clear hX
  have hr := okX_rng h
  by_cases h3 : x.op = 3
  · obtain ⟨a, ha, hk⟩ := okX_one h h3
    have hra := okX_rng hk
    have hal := okX_lit hk
    have hn : litO x = if a.op = 1 ∧ a.v.k = 2 then some (-a.v.i) else none := by
      unfold litO
      rw [if_pos h3, ha]
      rfl
    rw [litD_of hn]
    rw [eEx_eq, ha, h3, show eExs [a] = [eEx a] from rfl, eEx_eq a]
    repeat' (first | refine tr_seq ?_ | refine reg (T := tab) tOk hnt rfl ?_ ?_ | refine regD (T := tab) tOk mixedR hnt rfl (by decide +kernel) ?_ ?_ | refine tr_block ?_ | refine tr_skip ?_)
    · (dsimp only [AllP]; (repeat' first | exact trivial | assumption | exact Nat.le_of_ble_eq_true rfl | apply And.intro | decide | intro _ | exact rfl))
    · (dsimp only [AllP]; (repeat' first | exact trivial | assumption | exact Nat.le_of_ble_eq_true rfl | apply And.intro | decide | intro _ | exact rfl))
    · (dsimp only [AllP]; (repeat' first | exact trivial | assumption | exact Nat.le_of_ble_eq_true rfl | apply And.intro | decide | intro _ | exact rfl))
    repeat' (first | refine tr_seq ?_ | refine tr_block ?_ | refine tr_skip ?_)
    refine tr_cond rfl (fun hc => ?_) (fun hc => ?_)
    · repeat' (first | refine tr_seq ?_ | refine tr_block ?_ | refine tr_skip ?_)
      first | refine reg (T := tab) tOk hnt rfl ?_ ?_ | refine regD (T := tab) tOk mixedR hnt rfl (by decide +kernel) ?_ ?_
      · (dsimp only [AllP]; (repeat' first | exact trivial | assumption | exact Nat.le_of_ble_eq_true rfl | apply And.intro | exact eCells_len1 _ _ ‹_› | exact eCells_isByte _ _ ‹_› | (intro hh_; have hg_ := hh_; (try simp only [condT_ff, condF_tt, notE_t, notE_f, Bool.and_eq_true, ne_eq, decide_eq_true_eq, decide_eq_false_iff_not] at hg_)) | intro _ | exact rfl | omega))
        all_goals exact (show (0 : Int) < ((1 : Nat) : Int) by decide)
      refine tr_le (s' := St.of [(1, .one (.ptr 1 0 0)), (4, .v (.bool true))] [(1, ⟨0, .box (.es [eI a.op, eI a.v.k, eI a.v.i, eQ a.v.b, eT a.v.t, eT a.n, .sl (eExs a.ar)]), 0⟩)]) (le_of (ad := []) (by refine ⟨?_, ?_, trivial⟩ <;> first | exact trivial | rfl | exact ⟨rfl, rfl⟩ | exact ⟨rfl, rfl, rfl⟩ | exact ⟨rfl, rfl, rfl, rfl⟩ | exact ⟨rfl, rfl, rfl, rfl, rfl⟩ | exact congrArg (fun z : Int => E.v (.int .i64 z)) (wrap64_id (by omega) (by omega)) | (refine ⟨rfl, ?_⟩; repeat' first | exact trivial | rfl | apply And.intro)) (memOk_box rfl rfl rfl trivial)) ?_
      repeat' (first | refine tr_seq ?_ | refine tr_block ?_ | refine tr_skip ?_)
      first | refine reg (T := tab) tOk hnt rfl ?_ ?_ | refine regD (T := tab) tOk mixedR hnt rfl (by decide +kernel) ?_ ?_
      · (dsimp only [AllP]; (repeat' first | exact trivial | assumption | exact Nat.le_of_ble_eq_true rfl | apply And.intro | exact eCells_len1 _ _ ‹_› | exact eCells_isByte _ _ ‹_› | (intro hh_; have hg_ := hh_; (try simp only [condT_ff, condF_tt, notE_t, notE_f, Bool.and_eq_true, ne_eq, decide_eq_true_eq, decide_eq_false_iff_not] at hg_)) | intro _ | exact rfl | omega))
      repeat' (first | refine tr_seq ?_ | refine tr_block ?_ | refine tr_skip ?_)
      refine tr_cond rfl (fun hc => ?_) (fun hc => ?_)
      · have hc : (bif !decide (a.op = 1) then true else !decide (a.v.k = 2)) = true := hc
        rw [if_neg (fun h => by rw [h.1, h.2] at hc; exact absurd hc (by decide))]
        repeat' (first | refine tr_seq ?_ | refine reg (T := tab) tOk hnt rfl ?_ ?_ | refine regD (T := tab) tOk mixedR hnt rfl (by decide +kernel) ?_ ?_ | refine tr_block ?_ | refine tr_skip ?_)
        · (dsimp only [AllP]; (repeat' first | exact trivial | assumption | exact Nat.le_of_ble_eq_true rfl | apply And.intro | decide | intro _ | exact rfl))
        refine tr_ret ⟨.inr rfl, _, _, rfl, by (repeat' first | exact trivial | exact Nat.le_of_ble_eq_true rfl | apply And.intro), ?_⟩
        exact rfl
      have hc : (bif !decide (a.op = 1) then true else !decide (a.v.k = 2)) = false := hc
      simp only [condT_tt, condT_ff, condF_tt, condF_ff, notE_t, notE_f, decide_eq_true_eq, decide_eq_false_iff_not] at hc
      rw [if_pos hc]
      have hw : IntKind.i64.wrap (0 - a.v.i) = -a.v.i := (wrap64_id (by have := hal hc.1; omega) (by have := hal hc.1; omega)).trans (by omega)
      repeat' (first | refine tr_seq ?_ | refine reg (T := tab) tOk hnt rfl ?_ ?_ | refine regD (T := tab) tOk mixedR hnt rfl (by decide +kernel) ?_ ?_ | refine tr_block ?_ | refine tr_skip ?_)
      · (dsimp only [AllP]; (repeat' first | exact trivial | assumption | exact Nat.le_of_ble_eq_true rfl | apply And.intro | decide | intro _ | exact rfl))
      repeat' (first | refine tr_seq ?_ | refine tr_block ?_ | refine tr_skip ?_)
      refine tr_cond rfl (fun hc => ?_) (fun hc => ?_)
      · repeat' (first | refine tr_seq ?_ | refine tr_block ?_ | refine tr_skip ?_)
        first | refine reg (T := tab) tOk hnt rfl ?_ ?_ | refine regD (T := tab) tOk mixedR hnt rfl (by decide +kernel) ?_ ?_
        · (dsimp only [AllP]; (repeat' first | exact trivial | assumption | exact Nat.le_of_ble_eq_true rfl | apply And.intro | exact eCells_len1 _ _ ‹_› | exact eCells_isByte _ _ ‹_› | (intro hh_; have hg_ := hh_; (try simp only [condT_ff, condF_tt, notE_t, notE_f, Bool.and_eq_true, ne_eq, decide_eq_true_eq, decide_eq_false_iff_not] at hg_)) | intro _ | exact rfl | omega))
        repeat' (first | refine tr_seq ?_ | refine tr_block ?_ | refine tr_skip ?_)
        refine tr_ret ⟨.inr rfl, _, _, rfl, by (repeat' first | exact trivial | exact Nat.le_of_ble_eq_true rfl | apply And.intro), ?_⟩
        exact congrArg (fun z : Int => rLt (z, true)) hw
      exact absurd (show true = false from hc) (by decide)
    exact absurd (show true = false from hc) (by decide)
  have hn : litO x = if x.op = 1 ∧ x.v.k = 2 then some x.v.i else none := by
    unfold litO
    rw [if_neg h3]
  rw [litD_of hn, eEx_eq]
  repeat' (first | refine tr_seq ?_ | refine reg (T := tab) tOk hnt rfl ?_ ?_ | refine regD (T := tab) tOk mixedR hnt rfl (by decide +kernel) ?_ ?_ | refine tr_block ?_ | refine tr_skip ?_)
  · (dsimp only [AllP]; (repeat' first | exact trivial | assumption | exact Nat.le_of_ble_eq_true rfl | apply And.intro | decide | intro _ | exact rfl))
  · (dsimp only [AllP]; (repeat' first | exact trivial | assumption | exact Nat.le_of_ble_eq_true rfl | apply And.intro | decide | intro _ | exact rfl))
  · (dsimp only [AllP]; (repeat' first | exact trivial | assumption | exact Nat.le_of_ble_eq_true rfl | apply And.intro | decide | intro _ | exact rfl))
  repeat' (first | refine tr_seq ?_ | refine tr_block ?_ | refine tr_skip ?_)
  refine tr_cond rfl (fun hc => ?_) (fun hc => ?_)
  · exact absurd (of_decide_eq_true hc) h3
  repeat' (first | refine tr_seq ?_ | refine tr_block ?_ | refine tr_skip ?_)
  first | refine reg (T := tab) tOk hnt rfl ?_ ?_ | refine regD (T := tab) tOk mixedR hnt rfl (by decide +kernel) ?_ ?_
  · (dsimp only [AllP]; (repeat' first | exact trivial | assumption | exact Nat.le_of_ble_eq_true rfl | apply And.intro | exact eCells_len1 _ _ ‹_› | exact eCells_isByte _ _ ‹_› | (intro hh_; have hg_ := hh_; (try simp only [condT_ff, condF_tt, notE_t, notE_f, Bool.and_eq_true, ne_eq, decide_eq_true_eq, decide_eq_false_iff_not] at hg_)) | intro _ | exact rfl | omega))
  repeat' (first | refine tr_seq ?_ | refine tr_block ?_ | refine tr_skip ?_)
  refine tr_cond rfl (fun hc => ?_) (fun hc => ?_)
  · have hc : (bif !decide (x.op = 1) then true else !decide (x.v.k = 2)) = true := hc
    rw [if_neg (fun h => by rw [h.1, h.2] at hc; exact absurd hc (by decide))]
    repeat' (first | refine tr_seq ?_ | refine reg (T := tab) tOk hnt rfl ?_ ?_ | refine regD (T := tab) tOk mixedR hnt rfl (by decide +kernel) ?_ ?_ | refine tr_block ?_ | refine tr_skip ?_)
    · (dsimp only [AllP]; (repeat' first | exact trivial | assumption | exact Nat.le_of_ble_eq_true rfl | apply And.intro | decide | intro _ | exact rfl))
    refine tr_ret ⟨.inr rfl, _, _, rfl, by (repeat' first | exact trivial | exact Nat.le_of_ble_eq_true rfl | apply And.intro), ?_⟩
    exact rfl
  have hc : (bif !decide (x.op = 1) then true else !decide (x.v.k = 2)) = false := hc
  simp only [condT_tt, condT_ff, condF_tt, condF_ff, notE_t, notE_f, decide_eq_true_eq, decide_eq_false_iff_not] at hc
  rw [if_pos hc]
  repeat' (first | refine tr_seq ?_ | refine reg (T := tab) tOk hnt rfl ?_ ?_ | refine regD (T := tab) tOk mixedR hnt rfl (by decide +kernel) ?_ ?_ | refine tr_block ?_ | refine tr_skip ?_)
  · (dsimp only [AllP]; (repeat' first | exact trivial | assumption | exact Nat.le_of_ble_eq_true rfl | apply And.intro | decide | intro _ | exact rfl))
  repeat' (first | refine tr_seq ?_ | refine tr_block ?_ | refine tr_skip ?_)
  refine tr_cond rfl (fun hc => ?_) (fun hc => ?_)
  · exact absurd (of_decide_eq_true hc) h3
  repeat' (first | refine tr_seq ?_ | refine tr_block ?_ | refine tr_skip ?_)
  first | refine reg (T := tab) tOk hnt rfl ?_ ?_ | refine regD (T := tab) tOk mixedR hnt rfl (by decide +kernel) ?_ ?_
  · (dsimp only [AllP]; (repeat' first | exact trivial | assumption | exact Nat.le_of_ble_eq_true rfl | apply And.intro | exact eCells_len1 _ _ ‹_› | exact eCells_isByte _ _ ‹_› | (intro hh_; have hg_ := hh_; (try simp only [condT_ff, condF_tt, notE_t, notE_f, Bool.and_eq_true, ne_eq, decide_eq_true_eq, decide_eq_false_iff_not] at hg_)) | intro _ | exact rfl | omega))
  repeat' (first | refine tr_seq ?_ | refine tr_block ?_ | refine tr_skip ?_)
  refine tr_ret ⟨.inr rfl, _, _, rfl, by (repeat' first | exact trivial | exact Nat.le_of_ble_eq_true rfl | apply And.intro), ?_⟩
  exact rfl
def turnF (op : Int) : Int := if op = 11 then 13 else if op = 12 then 14 else if op = 13 then 11 else if op = 14 then 12 else op
set_option maxRecDepth 10000 in
set_option maxHeartbeats 2000000 in
theorem turned_fn (op : Int) : FnD Tryd.prog 87 [.one (.e (eI op))] (.one (.e (eI (turnF op)))) := by
  refine fn_intro (T := tab) tOk Tryd.func87 rfl (by kernel_rfl) (by simp [Tryd.ntmps87]) ?_
  intro X hX
  have hnt : X.nt = 13 := hX
  clear hX
  unfold turnF
  repeat' (first | refine tr_seq ?_ | refine reg (T := tab) tOk hnt rfl ?_ ?_ | refine regD (T := tab) tOk mixedR hnt rfl (by decide +kernel) ?_ ?_ | refine tr_block ?_ | refine tr_skip ?_)
  · (dsimp only [AllP]; (repeat' first | exact trivial | assumption | exact Nat.le_of_ble_eq_true rfl | apply And.intro | decide | intro _ | exact rfl))
  · (dsimp only [AllP]; (repeat' first | exact trivial | assumption | exact Nat.le_of_ble_eq_true rfl | apply And.intro | decide | intro _ | exact rfl))
  · (dsimp only [AllP]; (repeat' first | exact trivial | assumption | exact Nat.le_of_ble_eq_true rfl | apply And.intro | decide | intro _ | exact rfl))
  repeat' (first | refine tr_seq ?_ | refine tr_block ?_ | refine tr_skip ?_)
  refine tr_cond rfl (fun hc => ?_) (fun hc => ?_)
  · simp only [condT_tt, condT_ff, condF_tt, condF_ff, notE_t, notE_f, decide_eq_true_eq, decide_eq_false_iff_not] at hc
    rw [if_pos hc]
    repeat' (first | refine tr_seq ?_ | refine reg (T := tab) tOk hnt rfl ?_ ?_ | refine regD (T := tab) tOk mixedR hnt rfl (by decide +kernel) ?_ ?_ | refine tr_block ?_ | refine tr_skip ?_)
    · (dsimp only [AllP]; (repeat' first | exact trivial | assumption | exact Nat.le_of_ble_eq_true rfl | apply And.intro | decide | intro _ | exact rfl))
    exact tr_ret ⟨.inr rfl, _, _, rfl, trivial, rfl⟩
  simp only [condT_tt, condT_ff, condF_tt, condF_ff, notE_t, notE_f, decide_eq_true_eq, decide_eq_false_iff_not] at hc
  rw [if_neg hc]
  repeat' (first | refine tr_seq ?_ | refine reg (T := tab) tOk hnt rfl ?_ ?_ | refine regD (T := tab) tOk mixedR hnt rfl (by decide +kernel) ?_ ?_ | refine tr_block ?_ | refine tr_skip ?_)
  · (dsimp only [AllP]; (repeat' first | exact trivial | assumption | exact Nat.le_of_ble_eq_true rfl | apply And.intro | decide | intro _ | exact rfl))
  repeat' (first | refine tr_seq ?_ | refine tr_block ?_ | refine tr_skip ?_)
  refine tr_cond rfl (fun hc => ?_) (fun hc => ?_)
  · simp only [condT_tt, condT_ff, condF_tt, condF_ff, notE_t, notE_f, decide_eq_true_eq, decide_eq_false_iff_not] at hc
    rw [if_pos hc]
    repeat' (first | refine tr_seq ?_ | refine reg (T := tab) tOk hnt rfl ?_ ?_ | refine regD (T := tab) tOk mixedR hnt rfl (by decide +kernel) ?_ ?_ | refine tr_block ?_ | refine tr_skip ?_)
    · (dsimp only [AllP]; (repeat' first | exact trivial | assumption | exact Nat.le_of_ble_eq_true rfl | apply And.intro | decide | intro _ | exact rfl))
    exact tr_ret ⟨.inr rfl, _, _, rfl, trivial, rfl⟩
  simp only [condT_tt, condT_ff, condF_tt, condF_ff, notE_t, notE_f, decide_eq_true_eq, decide_eq_false_iff_not] at hc
  rw [if_neg hc]
  repeat' (first | refine tr_seq ?_ | refine reg (T := tab) tOk hnt rfl ?_ ?_ | refine regD (T := tab) tOk mixedR hnt rfl (by decide +kernel) ?_ ?_ | refine tr_block ?_ | refine tr_skip ?_)
  · (dsimp only [AllP]; (repeat' first | exact trivial | assumption | exact Nat.le_of_ble_eq_true rfl | apply And.intro | decide | intro _ | exact rfl))
  repeat' (first | refine tr_seq ?_ | refine tr_block ?_ | refine tr_skip ?_)
  refine tr_cond rfl (fun hc => ?_) (fun hc => ?_)
  · simp only [condT_tt, condT_ff, condF_tt, condF_ff, notE_t, notE_f, decide_eq_true_eq, decide_eq_false_iff_not] at hc
    rw [if_pos hc]
    repeat' (first | refine tr_seq ?_ | refine reg (T := tab) tOk hnt rfl ?_ ?_ | refine regD (T := tab) tOk mixedR hnt rfl (by decide +kernel) ?_ ?_ | refine tr_block ?_ | refine tr_skip ?_)
    · (dsimp only [AllP]; (repeat' first | exact trivial | assumption | exact Nat.le_of_ble_eq_true rfl | apply And.intro | decide | intro _ | exact rfl))
    exact tr_ret ⟨.inr rfl, _, _, rfl, trivial, rfl⟩
  simp only [condT_tt, condT_ff, condF_tt, condF_ff, notE_t, notE_f, decide_eq_true_eq, decide_eq_false_iff_not] at hc
  rw [if_neg hc]
  repeat' (first | refine tr_seq ?_ | refine reg (T := tab) tOk hnt rfl ?_ ?_ | refine regD (T := tab) tOk mixedR hnt rfl (by decide +kernel) ?_ ?_ | refine tr_block ?_ | refine tr_skip ?_)
  · (dsimp only [AllP]; (repeat' first | exact trivial | assumption | exact Nat.le_of_ble_eq_true rfl | apply And.intro | decide | intro _ | exact rfl))
  repeat' (first | refine tr_seq ?_ | refine tr_block ?_ | refine tr_skip ?_)
  refine tr_cond rfl (fun hc => ?_) (fun hc => ?_)
  · simp only [condT_tt, condT_ff, condF_tt, condF_ff, notE_t, notE_f, decide_eq_true_eq, decide_eq_false_iff_not] at hc
    rw [if_pos hc]
    repeat' (first | refine tr_seq ?_ | refine reg (T := tab) tOk hnt rfl ?_ ?_ | refine regD (T := tab) tOk mixedR hnt rfl (by decide +kernel) ?_ ?_ | refine tr_block ?_ | refine tr_skip ?_)
    · (dsimp only [AllP]; (repeat' first | exact trivial | assumption | exact Nat.le_of_ble_eq_true rfl | apply And.intro | decide | intro _ | exact rfl))
    exact tr_ret ⟨.inr rfl, _, _, rfl, trivial, rfl⟩
  simp only [condT_tt, condT_ff, condF_tt, condF_ff, notE_t, notE_f, decide_eq_true_eq, decide_eq_false_iff_not] at hc
  rw [if_neg hc]
  repeat' (first | refine tr_seq ?_ | refine reg (T := tab) tOk hnt rfl ?_ ?_ | refine regD (T := tab) tOk mixedR hnt rfl (by decide +kernel) ?_ ?_ | refine tr_block ?_ | refine tr_skip ?_)
  · (dsimp only [AllP]; (repeat' first | exact trivial | assumption | exact Nat.le_of_ble_eq_true rfl | apply And.intro | decide | intro _ | exact rfl))
  exact tr_ret ⟨.inr rfl, _, _, rfl, trivial, rfl⟩
abbrev loI : Int := -9223372036854775808
abbrev hiI : Int := 9223372036854775807
def eRg (q : Int × Int) : List E := [eI q.1, eI q.2]
set_option maxRecDepth 10000 in
set_option maxHeartbeats 2000000 in
theorem none_fn : FnD Tryd.prog 57 [] (.agg (.es (eRg (1, 0)))) := by
  refine fn_intro (T := tab) tOk Tryd.func57 rfl (by kernel_rfl) (by simp [Tryd.ntmps57]) ?_
  intro X hX
  have hnt : X.nt = 2 := hX
  clear hX
  repeat' (first | refine tr_seq ?_ | refine reg (T := tab) tOk hnt rfl ?_ ?_ | refine regD (T := tab) tOk mixedR hnt rfl (by decide +kernel) ?_ ?_ | refine tr_block ?_ | refine tr_skip ?_)
  · (dsimp only [AllP]; (repeat' first | exact trivial | assumption | exact Nat.le_of_ble_eq_true rfl | apply And.intro | decide | intro _ | exact rfl))
  · (dsimp only [AllP]; (repeat' first | exact trivial | assumption | exact Nat.le_of_ble_eq_true rfl | apply And.intro | decide | intro _ | exact rfl))
  repeat' (first | refine tr_seq ?_ | refine tr_block ?_ | refine tr_skip ?_)
  refine tr_ret ⟨.inr rfl, _, _, rfl, by (repeat' first | exact trivial | exact Nat.le_of_ble_eq_true rfl | apply And.intro), ?_⟩
  exact rfl
/-- what a comparison leaves -/
def bdF (op n : Int) : Int × Int := if op = 9 then (n, n) else if op = 11 then (loI, n - 1) else if op = 12 then (loI, n) else if op = 13 then (if n = hiI then (1, 0) else (n + 1, hiI)) else if op = 14 then (n, hiI) else (loI, hiI)
set_option maxRecDepth 10000 in
set_option maxHeartbeats 2000000 in
theorem bounds_fn (op n : Int) (hn : -9223372036854775807 ≤ n ∧ n ≤ 9223372036854775807) : FnD Tryd.prog 86 [.one (.e (eI op)), .one (.e (eI n))] (.agg (.es (eRg (bdF op n)))) := by
  refine fn_intro (T := tab) tOk Tryd.func86 rfl (by kernel_rfl) (by simp [Tryd.ntmps86]) ?_
  intro X hX
  have hnt : X.nt = 38 := hX
  clear hX
  unfold bdF
  repeat' (first | refine tr_seq ?_ | refine reg (T := tab) tOk hnt rfl ?_ ?_ | refine regD (T := tab) tOk mixedR hnt rfl (by decide +kernel) ?_ ?_ | refine tr_block ?_ | refine tr_skip ?_)
  · (dsimp only [AllP]; (repeat' first | exact trivial | assumption | exact Nat.le_of_ble_eq_true rfl | apply And.intro | decide | intro _ | exact rfl))
  · (dsimp only [AllP]; (repeat' first | exact trivial | assumption | exact Nat.le_of_ble_eq_true rfl | apply And.intro | decide | intro _ | exact rfl))
  · (dsimp only [AllP]; (repeat' first | exact trivial | assumption | exact Nat.le_of_ble_eq_true rfl | apply And.intro | decide | intro _ | exact rfl))
  · (dsimp only [AllP]; (repeat' first | exact trivial | assumption | exact Nat.le_of_ble_eq_true rfl | apply And.intro | decide | intro _ | exact rfl))
  repeat' (first | refine tr_seq ?_ | refine tr_block ?_ | refine tr_skip ?_)
  refine tr_cond rfl (fun hc => ?_) (fun hc => ?_)
  · simp only [condT_tt, condT_ff, condF_tt, condF_ff, notE_t, notE_f, decide_eq_true_eq, decide_eq_false_iff_not] at hc
    rw [if_pos hc]
    repeat' (first | refine tr_seq ?_ | refine reg (T := tab) tOk hnt rfl ?_ ?_ | refine regD (T := tab) tOk mixedR hnt rfl (by decide +kernel) ?_ ?_ | refine tr_block ?_ | refine tr_skip ?_)
    · (dsimp only [AllP]; (repeat' first | exact trivial | assumption | exact Nat.le_of_ble_eq_true rfl | apply And.intro | decide | intro _ | exact rfl))
    · (dsimp only [AllP]; (repeat' first | exact trivial | assumption | exact Nat.le_of_ble_eq_true rfl | apply And.intro | decide | intro _ | exact rfl))
    repeat' (first | refine tr_seq ?_ | refine tr_block ?_ | refine tr_skip ?_)
    refine tr_ret ⟨.inr rfl, _, _, rfl, by (repeat' first | exact trivial | exact Nat.le_of_ble_eq_true rfl | apply And.intro), ?_⟩
    exact rfl
  simp only [condT_tt, condT_ff, condF_tt, condF_ff, notE_t, notE_f, decide_eq_true_eq, decide_eq_false_iff_not] at hc
  rw [if_neg hc]
  repeat' (first | refine tr_seq ?_ | refine reg (T := tab) tOk hnt rfl ?_ ?_ | refine regD (T := tab) tOk mixedR hnt rfl (by decide +kernel) ?_ ?_ | refine tr_block ?_ | refine tr_skip ?_)
  · (dsimp only [AllP]; (repeat' first | exact trivial | assumption | exact Nat.le_of_ble_eq_true rfl | apply And.intro | decide | intro _ | exact rfl))
  repeat' (first | refine tr_seq ?_ | refine tr_block ?_ | refine tr_skip ?_)
  refine tr_cond rfl (fun hc => ?_) (fun hc => ?_)
  · simp only [condT_tt, condT_ff, condF_tt, condF_ff, notE_t, notE_f, decide_eq_true_eq, decide_eq_false_iff_not] at hc
    rw [if_pos hc]
    repeat' (first | refine tr_seq ?_ | refine reg (T := tab) tOk hnt rfl ?_ ?_ | refine regD (T := tab) tOk mixedR hnt rfl (by decide +kernel) ?_ ?_ | refine tr_block ?_ | refine tr_skip ?_)
    · (dsimp only [AllP]; (repeat' first | exact trivial | assumption | exact Nat.le_of_ble_eq_true rfl | apply And.intro | decide | intro _ | exact rfl))
    repeat' (first | refine tr_seq ?_ | refine tr_block ?_ | refine tr_skip ?_)
    refine tr_cond rfl (fun hc => ?_) (fun hc => ?_)
    · simp only [condT_tt, condT_ff, condF_tt, condF_ff, notE_t, notE_f, decide_eq_true_eq, decide_eq_false_iff_not] at hc
      omega
    simp only [condT_tt, condT_ff, condF_tt, condF_ff, notE_t, notE_f, decide_eq_true_eq, decide_eq_false_iff_not] at hc
    have hw : IntKind.i64.wrap (n - 1) = n - 1 := wrap64_id (by omega) (by omega)
    repeat' (first | refine tr_seq ?_ | refine reg (T := tab) tOk hnt rfl ?_ ?_ | refine regD (T := tab) tOk mixedR hnt rfl (by decide +kernel) ?_ ?_ | refine tr_block ?_ | refine tr_skip ?_)
    · (dsimp only [AllP]; (repeat' first | exact trivial | assumption | exact Nat.le_of_ble_eq_true rfl | apply And.intro | decide | intro _ | exact rfl))
    · (dsimp only [AllP]; (repeat' first | exact trivial | assumption | exact Nat.le_of_ble_eq_true rfl | apply And.intro | decide | intro _ | exact rfl))
    repeat' (first | refine tr_seq ?_ | refine tr_block ?_ | refine tr_skip ?_)
    refine tr_ret ⟨.inr rfl, _, _, rfl, by (repeat' first | exact trivial | exact Nat.le_of_ble_eq_true rfl | apply And.intro), ?_⟩
    exact congrArg (fun z : Int => D.agg (.es (eRg (loI, z)))) hw
  simp only [condT_tt, condT_ff, condF_tt, condF_ff, notE_t, notE_f, decide_eq_true_eq, decide_eq_false_iff_not] at hc
  rw [if_neg hc]
  repeat' (first | refine tr_seq ?_ | refine reg (T := tab) tOk hnt rfl ?_ ?_ | refine regD (T := tab) tOk mixedR hnt rfl (by decide +kernel) ?_ ?_ | refine tr_block ?_ | refine tr_skip ?_)
  · (dsimp only [AllP]; (repeat' first | exact trivial | assumption | exact Nat.le_of_ble_eq_true rfl | apply And.intro | decide | intro _ | exact rfl))
  repeat' (first | refine tr_seq ?_ | refine tr_block ?_ | refine tr_skip ?_)
  refine tr_cond rfl (fun hc => ?_) (fun hc => ?_)
  · simp only [condT_tt, condT_ff, condF_tt, condF_ff, notE_t, notE_f, decide_eq_true_eq, decide_eq_false_iff_not] at hc
    rw [if_pos hc]
    repeat' (first | refine tr_seq ?_ | refine reg (T := tab) tOk hnt rfl ?_ ?_ | refine regD (T := tab) tOk mixedR hnt rfl (by decide +kernel) ?_ ?_ | refine tr_block ?_ | refine tr_skip ?_)
    · (dsimp only [AllP]; (repeat' first | exact trivial | assumption | exact Nat.le_of_ble_eq_true rfl | apply And.intro | decide | intro _ | exact rfl))
    · (dsimp only [AllP]; (repeat' first | exact trivial | assumption | exact Nat.le_of_ble_eq_true rfl | apply And.intro | decide | intro _ | exact rfl))
    repeat' (first | refine tr_seq ?_ | refine tr_block ?_ | refine tr_skip ?_)
    refine tr_ret ⟨.inr rfl, _, _, rfl, by (repeat' first | exact trivial | exact Nat.le_of_ble_eq_true rfl | apply And.intro), ?_⟩
    exact rfl
  simp only [condT_tt, condT_ff, condF_tt, condF_ff, notE_t, notE_f, decide_eq_true_eq, decide_eq_false_iff_not] at hc
  rw [if_neg hc]
  repeat' (first | refine tr_seq ?_ | refine reg (T := tab) tOk hnt rfl ?_ ?_ | refine regD (T := tab) tOk mixedR hnt rfl (by decide +kernel) ?_ ?_ | refine tr_block ?_ | refine tr_skip ?_)
  · (dsimp only [AllP]; (repeat' first | exact trivial | assumption | exact Nat.le_of_ble_eq_true rfl | apply And.intro | decide | intro _ | exact rfl))
  repeat' (first | refine tr_seq ?_ | refine tr_block ?_ | refine tr_skip ?_)
  refine tr_cond rfl (fun hc => ?_) (fun hc => ?_)
  · simp only [condT_tt, condT_ff, condF_tt, condF_ff, notE_t, notE_f, decide_eq_true_eq, decide_eq_false_iff_not] at hc
    rw [if_pos hc]
    repeat' (first | refine tr_seq ?_ | refine reg (T := tab) tOk hnt rfl ?_ ?_ | refine regD (T := tab) tOk mixedR hnt rfl (by decide +kernel) ?_ ?_ | refine tr_block ?_ | refine tr_skip ?_)
    · (dsimp only [AllP]; (repeat' first | exact trivial | assumption | exact Nat.le_of_ble_eq_true rfl | apply And.intro | decide | intro _ | exact rfl))
    repeat' (first | refine tr_seq ?_ | refine tr_block ?_ | refine tr_skip ?_)
    refine tr_cond rfl (fun hc => ?_) (fun hc => ?_)
    · simp only [condT_tt, condT_ff, condF_tt, condF_ff, notE_t, notE_f, decide_eq_true_eq, decide_eq_false_iff_not] at hc
      rw [if_pos hc]
      repeat' (first | refine tr_seq ?_ | refine tr_block ?_ | refine tr_skip ?_)
      refine tr_region (lex (T := tab) tOk hnt rfl ?_ (call rfl rfl rfl rfl rfl rfl rfl hnt (none_fn) (lex (T := tab) tOk hnt rfl ?_ (Lex.nil _)))) ?_
      · (dsimp only [AllP]; (repeat' first | exact trivial | assumption | exact Nat.le_of_ble_eq_true rfl | apply And.intro | decide | intro _ | exact rfl))
      · (dsimp only [AllP]; (repeat' first | exact trivial | assumption | exact Nat.le_of_ble_eq_true rfl | apply And.intro | decide | intro _ | exact rfl))
      repeat' (first | refine tr_seq ?_ | refine tr_block ?_ | refine tr_skip ?_)
      refine tr_ret ⟨.inr rfl, _, _, rfl, by (repeat' first | exact trivial | exact Nat.le_of_ble_eq_true rfl | apply And.intro), ?_⟩
      exact rfl
    simp only [condT_tt, condT_ff, condF_tt, condF_ff, notE_t, notE_f, decide_eq_true_eq, decide_eq_false_iff_not] at hc
    rw [if_neg hc]
    have hc : n ≠ 9223372036854775807 := hc
    have hw : IntKind.i64.wrap (n + 1) = n + 1 := wrap64_id (by omega) (by omega)
    repeat' (first | refine tr_seq ?_ | refine reg (T := tab) tOk hnt rfl ?_ ?_ | refine regD (T := tab) tOk mixedR hnt rfl (by decide +kernel) ?_ ?_ | refine tr_block ?_ | refine tr_skip ?_)
    · (dsimp only [AllP]; (repeat' first | exact trivial | assumption | exact Nat.le_of_ble_eq_true rfl | apply And.intro | decide | intro _ | exact rfl))
    · (dsimp only [AllP]; (repeat' first | exact trivial | assumption | exact Nat.le_of_ble_eq_true rfl | apply And.intro | decide | intro _ | exact rfl))
    repeat' (first | refine tr_seq ?_ | refine tr_block ?_ | refine tr_skip ?_)
    refine tr_ret ⟨.inr rfl, _, _, rfl, by (repeat' first | exact trivial | exact Nat.le_of_ble_eq_true rfl | apply And.intro), ?_⟩
    exact congrArg (fun z : Int => D.agg (.es (eRg (z, hiI)))) hw
  simp only [condT_tt, condT_ff, condF_tt, condF_ff, notE_t, notE_f, decide_eq_true_eq, decide_eq_false_iff_not] at hc
  rw [if_neg hc]
  repeat' (first | refine tr_seq ?_ | refine reg (T := tab) tOk hnt rfl ?_ ?_ | refine regD (T := tab) tOk mixedR hnt rfl (by decide +kernel) ?_ ?_ | refine tr_block ?_ | refine tr_skip ?_)
  · (dsimp only [AllP]; (repeat' first | exact trivial | assumption | exact Nat.le_of_ble_eq_true rfl | apply And.intro | decide | intro _ | exact rfl))
  repeat' (first | refine tr_seq ?_ | refine tr_block ?_ | refine tr_skip ?_)
  refine tr_cond rfl (fun hc => ?_) (fun hc => ?_)
  · simp only [condT_tt, condT_ff, condF_tt, condF_ff, notE_t, notE_f, decide_eq_true_eq, decide_eq_false_iff_not] at hc
    rw [if_pos hc]
    repeat' (first | refine tr_seq ?_ | refine reg (T := tab) tOk hnt rfl ?_ ?_ | refine regD (T := tab) tOk mixedR hnt rfl (by decide +kernel) ?_ ?_ | refine tr_block ?_ | refine tr_skip ?_)
    · (dsimp only [AllP]; (repeat' first | exact trivial | assumption | exact Nat.le_of_ble_eq_true rfl | apply And.intro | decide | intro _ | exact rfl))
    · (dsimp only [AllP]; (repeat' first | exact trivial | assumption | exact Nat.le_of_ble_eq_true rfl | apply And.intro | decide | intro _ | exact rfl))
    repeat' (first | refine tr_seq ?_ | refine tr_block ?_ | refine tr_skip ?_)
    refine tr_ret ⟨.inr rfl, _, _, rfl, by (repeat' first | exact trivial | exact Nat.le_of_ble_eq_true rfl | apply And.intro), ?_⟩
    exact rfl
  simp only [condT_tt, condT_ff, condF_tt, condF_ff, notE_t, notE_f, decide_eq_true_eq, decide_eq_false_iff_not] at hc
  rw [if_neg hc]
  repeat' (first | refine tr_seq ?_ | refine reg (T := tab) tOk hnt rfl ?_ ?_ | refine regD (T := tab) tOk mixedR hnt rfl (by decide +kernel) ?_ ?_ | refine tr_block ?_ | refine tr_skip ?_)
  · (dsimp only [AllP]; (repeat' first | exact trivial | assumption | exact Nat.le_of_ble_eq_true rfl | apply And.intro | decide | intro _ | exact rfl))
  repeat' (first | refine tr_seq ?_ | refine tr_block ?_ | refine tr_skip ?_)
  refine tr_ret ⟨.inr rfl, _, _, rfl, by (repeat' first | exact trivial | exact Nat.le_of_ble_eq_true rfl | apply And.intro), ?_⟩
  exact rfl
end Go.Proofs.YtcjeeoimjkhijaaDoor
namespace Go.Proofs.YtcjeeoimjkhijaaDoor
open Go Go.RowKit Go.Proofs.YtcjeeoimjkhijaaDoor.Ab
set_option linter.unusedSimpArgs false
set_option linter.unusedVariables false

theorem take_all {xs : List E} {n : Nat} (hx : xs.length = n) : (Cs.es (List.take n (List.drop 0 xs))).len = n := by
  show (List.take n (List.drop 0 xs)).length = n
  rw [List.drop_zero, List.take_of_length_le (by omega), hx]
def cmA (x : Ex) (col : Byt) : Option Int := if (x.ar.getD 0 ex0).op = 2 ∧ (x.ar.getD 0 ex0).n = col then litO (x.ar.getD 1 ex0) else none
def cmB (x : Ex) (col : Byt) : Option Int := if (x.ar.getD 1 ex0).op = 2 ∧ (x.ar.getD 1 ex0).n = col then litO (x.ar.getD 0 ex0) else none
/-- a comparison of the column and a number -/
def cmpO (x : Ex) (col : Byt) : Option (Int × Int) :=
  if 9 ≤ x.op ∧ x.op ≤ 14 then (match cmA x col with
    | some n => some (x.op, n)
    | none => match cmB x col with
      | some n => some (turnF x.op, n)
      | none => none) else none
def rgO (col : Byt) (x : Ex) : Int × Int := match cmpO x col with | some q => bdF q.1 q.2 | none => (loI, hiI)
theorem rg_out {x : Ex} (col : Byt) (h : ¬ (9 ≤ x.op ∧ x.op ≤ 14)) : rgO col x = (loI, hiI) := by
  unfold rgO cmpO
  rw [if_neg h]
theorem rg_A {x : Ex} {col : Byt} {n : Int} (h : 9 ≤ x.op ∧ x.op ≤ 14) (h1 : cmA x col = some n) : rgO col x = bdF x.op n := by
  unfold rgO cmpO
  rw [if_pos h, h1]
theorem rg_B {x : Ex} {col : Byt} {n : Int} (h : 9 ≤ x.op ∧ x.op ≤ 14) (h1 : cmA x col = none) (h2 : cmB x col = some n) : rgO col x = bdF (turnF x.op) n := by
  unfold rgO cmpO
  rw [if_pos h, h1, h2]
theorem rg_N {x : Ex} {col : Byt} (h : 9 ≤ x.op ∧ x.op ≤ 14) (h1 : cmA x col = none) (h2 : cmB x col = none) : rgO col x = (loI, hiI) := by
  unfold rgO cmpO
  rw [if_pos h, h1, h2]
/-- what stands under 'and' -/
def anL : Nat → Ex → List Ex
  | 0, x => [x]
  | n + 1, x => if x.op = 15 then anL n (x.ar.getD 0 ex0) ++ anL n (x.ar.getD 1 ex0) else [x]
def foL (col : Byt) (l : List Ex) : Int × Int := (l.foldr (fun x a => max (rgO col x).1 a) loI, l.foldr (fun x a => min (rgO col x).2 a) hiI)
theorem foL_cons (col : Byt) (x : Ex) (l : List Ex) : foL col (x :: l) = (max (rgO col x).1 (foL col l).1, min (rgO col x).2 (foL col l).2) := rfl
theorem foL_rng (col : Byt) : ∀ l : List Ex, loI ≤ (foL col l).1 ∧ (foL col l).2 ≤ hiI
  | [] => ⟨Int.le_refl _, Int.le_refl _⟩
  | x :: l => by
    have h := foL_rng col l
    rw [foL_cons]
    dsimp only
    omega
theorem foL_app (col : Byt) : ∀ l r : List Ex, foL col (l ++ r) = (max (foL col l).1 (foL col r).1, min (foL col l).2 (foL col r).2)
  | [], r => by
    have h := foL_rng col r
    have e : foL col [] = (loI, hiI) := rfl
    rw [List.nil_append, e]
    apply Prod.ext <;> dsimp only <;> omega
  | x :: l, r => by
    rw [List.cons_append, foL_cons, foL_app col l r, foL_cons]
    apply Prod.ext <;> dsimp only <;> omega
theorem bdF_rng (op : Int) {n : Int} (hn : -9223372036854775807 ≤ n ∧ n ≤ 9223372036854775807) : loI ≤ (bdF op n).1 ∧ (bdF op n).2 ≤ hiI := by
  unfold bdF
  split
  · dsimp only [loI, hiI]; omega
  split
  · dsimp only [loI, hiI]; omega
  split
  · dsimp only [loI, hiI]; omega
  split
  · split <;> dsimp only [loI, hiI] <;> omega
  split
  · dsimp only [loI, hiI]; omega
  · dsimp only [loI, hiI]; omega
theorem cmA_rng {x : Ex} {col : Byt} (h : okX x) (h9 : 9 ≤ x.op ∧ x.op ≤ 14) {n : Int} (hn : cmA x col = some n) : -9223372036854775807 ≤ n ∧ n ≤ 9223372036854775807 := by
  obtain ⟨a, b, ha, k1, k2⟩ := okX_two h (by omega)
  unfold cmA at hn
  split at hn
  · rw [ha] at hn
    exact litO_rng k2 hn
  · cases hn
theorem cmB_rng {x : Ex} {col : Byt} (h : okX x) (h9 : 9 ≤ x.op ∧ x.op ≤ 14) {n : Int} (hn : cmB x col = some n) : -9223372036854775807 ≤ n ∧ n ≤ 9223372036854775807 := by
  obtain ⟨a, b, ha, k1, k2⟩ := okX_two h (by omega)
  unfold cmB at hn
  split at hn
  · rw [ha] at hn
    exact litO_rng k1 hn
  · cases hn
theorem rgO_rng {x : Ex} (col : Byt) (h : okX x) : loI ≤ (rgO col x).1 ∧ (rgO col x).2 ≤ hiI := by
  by_cases h9 : 9 ≤ x.op ∧ x.op ≤ 14
  · cases hA : cmA x col with
    | some n => rw [rg_A h9 hA]; exact bdF_rng _ (cmA_rng h h9 hA)
    | none => cases hB : cmB x col with
      | some n => rw [rg_B h9 hA hB]; exact bdF_rng _ (cmB_rng h h9 hB)
      | none => rw [rg_N h9 hA hB]; exact ⟨Int.le_refl _, Int.le_refl _⟩
  · rw [rg_out col h9]
    exact ⟨Int.le_refl _, Int.le_refl _⟩
theorem foL_one {x : Ex} (col : Byt) (h : okX x) : foL col [x] = rgO col x := by
  have h1 := rgO_rng col h
  have e : foL col [] = (loI, hiI) := rfl
  rw [foL_cons, e]
  apply Prod.ext <;> dsimp only <;> omega
set_option maxRecDepth 10000 in
set_option maxHeartbeats 2000000 in
theorem of_step (x : Ex) (col : Byt) (h : okX x) (n : Nat) (ih : ∀ a ∈ x.ar, FnD Tryd.prog 56 [.agg (.es (eEx a)), .one (.e (eT col))] (.agg (.es (eRg (foL col (anL n a)))))) : FnD Tryd.prog 56 [.agg (.es (eEx x)), .one (.e (eT col))] (.agg (.es (eRg (foL col (anL (n + 1) x))))) := by
  refine fn_intro (T := tab) tOk Tryd.func56 rfl (by kernel_rfl) (by simp [Tryd.ntmps56]) ?_
  intro X hX
  have hnt : X.nt = 104 := hX
  clear hX
  rw [anL]
  by_cases h15 : x.op = 15
  · obtain ⟨a, b, ha, k1, k2⟩ := okX_two h (by omega)
    have i1 := ih a (by rw [ha]; simp)
    have i2 := ih b (by rw [ha]; simp)
    rw [if_pos h15, foL_app, ha]
    have g1 : [a, b].getD 0 ex0 = a := rfl
    have g2 : [a, b].getD 1 ex0 = b := rfl
    rw [g1, g2]
    generalize foL col (anL n a) = p at *
    generalize foL col (anL n b) = q at *
    have ha7 := ex7 a
    have hb7 := ex7 b
    rw [← exAll a] at i1
    rw [← exAll b] at i2
    have f1 : 0 + 7 ≤ (Cs.es (eEx a)).len := by show 0 + 7 ≤ (eEx a).length; omega
    have f2 : 0 + 7 ≤ (Cs.es (eEx b)).len := by show 0 + 7 ≤ (eEx b).length; omega
    rw [eEx_eq x, ha, show eExs [a, b] = [eEx a, eEx b] from rfl, h15]
    repeat' (first | refine tr_seq ?_ | refine reg (T := tab) tOk hnt rfl ?_ ?_ | refine regD (T := tab) tOk mixedR hnt rfl (by decide +kernel) ?_ ?_ | refine tr_block ?_ | refine tr_skip ?_)
    · (dsimp only [AllP]; (repeat' first | exact trivial | assumption | exact Nat.le_of_ble_eq_true rfl | apply And.intro | decide | intro _ | exact rfl))
    · (dsimp only [AllP]; (repeat' first | exact trivial | assumption | exact Nat.le_of_ble_eq_true rfl | apply And.intro | decide | intro _ | exact rfl))
    · (dsimp only [AllP]; (repeat' first | exact trivial | assumption | exact Nat.le_of_ble_eq_true rfl | apply And.intro | decide | intro _ | exact rfl))
    repeat' (first | refine tr_seq ?_ | refine tr_block ?_ | refine tr_skip ?_)
    refine tr_cond rfl (fun hc => ?_) (fun hc => ?_)
    · repeat' (first | refine tr_seq ?_ | refine tr_block ?_ | refine tr_skip ?_)
      refine tr_draw (T := tab) tOk hnt mixedR (lexD (T := tab) rfl ?_ (callD rfl rfl rfl rfl rfl rfl rfl rfl (i1) (lexD (T := tab) rfl ?_ (callD rfl rfl rfl rfl rfl rfl rfl rfl (i2) (lexD (T := tab) rfl ?_ (.nil _)))))) (by decide +kernel) ?_
      · (dsimp only [AllP]; (repeat' first | exact trivial | assumption | exact Nat.le_of_ble_eq_true rfl | apply And.intro | exact eCells_len1 _ _ ‹_› | exact eCells_isByte _ _ ‹_› | (intro hh_; have hg_ := hh_; (try simp only [condT_ff, condF_tt, notE_t, notE_f, Bool.and_eq_true, ne_eq, decide_eq_true_eq, decide_eq_false_iff_not] at hg_)) | intro _ | exact rfl | omega))
        all_goals first | exact (show (0 : Int) < ((2 : Nat) : Int) by decide) | exact (show (1 : Int) < ((2 : Nat) : Int) by decide) | exact ha7 | exact hb7
      · (dsimp only [AllP]; (repeat' first | exact trivial | assumption | exact Nat.le_of_ble_eq_true rfl | apply And.intro | exact eCells_len1 _ _ ‹_› | exact eCells_isByte _ _ ‹_› | (intro hh_; have hg_ := hh_; (try simp only [condT_ff, condF_tt, notE_t, notE_f, Bool.and_eq_true, ne_eq, decide_eq_true_eq, decide_eq_false_iff_not] at hg_)) | intro _ | exact rfl | omega))
        all_goals first | exact (show (0 : Int) < ((2 : Nat) : Int) by decide) | exact (show (1 : Int) < ((2 : Nat) : Int) by decide) | exact ha7 | exact hb7
      · (dsimp only [AllP]; (repeat' first | exact trivial | assumption | exact Nat.le_of_ble_eq_true rfl | apply And.intro | exact eCells_len1 _ _ ‹_› | exact eCells_isByte _ _ ‹_› | (intro hh_; have hg_ := hh_; (try simp only [condT_ff, condF_tt, notE_t, notE_f, Bool.and_eq_true, ne_eq, decide_eq_true_eq, decide_eq_false_iff_not] at hg_)) | intro _ | exact rfl | omega))
        all_goals first | exact (show (0 : Int) < ((2 : Nat) : Int) by decide) | exact (show (1 : Int) < ((2 : Nat) : Int) by decide) | exact ha7 | exact hb7
      repeat' (first | refine tr_seq ?_ | refine reg (T := tab) tOk hnt rfl ?_ ?_ | refine regD (T := tab) tOk mixedR hnt rfl (by decide +kernel) ?_ ?_ | refine tr_block ?_ | refine tr_skip ?_)
      · (dsimp only [AllP]; (repeat' first | exact trivial | assumption | exact Nat.le_of_ble_eq_true rfl | apply And.intro | decide | intro _ | exact rfl))
      repeat' (first | refine tr_seq ?_ | refine tr_block ?_ | refine tr_skip ?_)
      refine tr_ret ⟨.inr rfl, _, _, rfl, by (repeat' first | exact trivial | exact Nat.le_of_ble_eq_true rfl | apply And.intro), ?_⟩
      have e1 : (if p.1 < q.1 then q.1 else p.1) = max p.1 q.1 := by split <;> omega
      have e2 : (if q.2 < p.2 then q.2 else p.2) = min p.2 q.2 := by split <;> omega
      rw [← e1, ← e2]
      exact rfl
    exact absurd (show true = false from hc) (by decide)
  rw [if_neg h15, foL_one col h]
  have hop : ([eI x.op, eI x.v.k, eI x.v.i, eQ x.v.b, eT x.v.t, eT x.n, .sl (eExs x.ar)].getD (0 + 0) E.dflt).int = x.op := rfl
  rw [eEx_eq x]
  repeat' (first | refine tr_seq ?_ | refine reg (T := tab) tOk hnt rfl ?_ ?_ | refine regD (T := tab) tOk mixedR hnt rfl (by decide +kernel) ?_ ?_ | refine tr_block ?_ | refine tr_skip ?_)
  · (dsimp only [AllP]; (repeat' first | exact trivial | assumption | exact Nat.le_of_ble_eq_true rfl | apply And.intro | decide | intro _ | exact rfl))
  · (dsimp only [AllP]; (repeat' first | exact trivial | assumption | exact Nat.le_of_ble_eq_true rfl | apply And.intro | decide | intro _ | exact rfl))
  · (dsimp only [AllP]; (repeat' first | exact trivial | assumption | exact Nat.le_of_ble_eq_true rfl | apply And.intro | decide | intro _ | exact rfl))
  repeat' (first | refine tr_seq ?_ | refine tr_block ?_ | refine tr_skip ?_)
  refine tr_cond rfl (fun hc => ?_) (fun hc => ?_)
  · exact absurd (of_decide_eq_true hc) h15
  repeat' (first | refine tr_seq ?_ | refine reg (T := tab) tOk hnt rfl ?_ ?_ | refine regD (T := tab) tOk mixedR hnt rfl (by decide +kernel) ?_ ?_ | refine tr_block ?_ | refine tr_skip ?_)
  · (dsimp only [AllP]; (repeat' first | exact trivial | assumption | exact Nat.le_of_ble_eq_true rfl | apply And.intro | decide | intro _ | exact rfl))
  repeat' (first | refine tr_seq ?_ | refine tr_block ?_ | refine tr_skip ?_)
  refine tr_cond rfl (fun hc => ?_) (fun hc => ?_)
  · simp only [condT_tt, condT_ff, condF_tt, condF_ff, notE_t, notE_f, decide_eq_true_eq, decide_eq_false_iff_not] at hc
    (try simp only [hop] at hc)
    (try simp only [condT_tt, condT_ff, condF_tt, condF_ff, notE_t, notE_f, decide_eq_true_eq, decide_eq_false_iff_not] at hc)
    rw [rg_out col (by omega)]
    repeat' (first | refine tr_seq ?_ | refine reg (T := tab) tOk hnt rfl ?_ ?_ | refine regD (T := tab) tOk mixedR hnt rfl (by decide +kernel) ?_ ?_ | refine tr_block ?_ | refine tr_skip ?_)
    · (dsimp only [AllP]; (repeat' first | exact trivial | assumption | exact Nat.le_of_ble_eq_true rfl | apply And.intro | decide | intro _ | exact rfl))
    refine tr_ret ⟨.inr rfl, _, _, rfl, by (repeat' first | exact trivial | exact Nat.le_of_ble_eq_true rfl | apply And.intro), ?_⟩
    exact rfl
  simp only [condT_tt, condT_ff, condF_tt, condF_ff, notE_t, notE_f, decide_eq_true_eq, decide_eq_false_iff_not] at hc
  (try simp only [hop] at hc)
  (try simp only [condT_tt, condT_ff, condF_tt, condF_ff, notE_t, notE_f, decide_eq_true_eq, decide_eq_false_iff_not] at hc)
  have h9 : 9 ≤ x.op ∧ x.op ≤ 14 := by omega
  obtain ⟨a, b, ha, k1, k2⟩ := okX_two h (by omega)
  have ha7 := ex7 a
  have hb7 := ex7 b
  have f1 : 0 + 7 ≤ (Cs.es (eEx a)).len := by show 0 + 7 ≤ (eEx a).length; omega
  have f2 : 0 + 7 ≤ (Cs.es (eEx b)).len := by show 0 + 7 ≤ (eEx b).length; omega
  have l1 := literal_fn a k1
  have l2 := literal_fn b k2
  have cA : cmA x col = if a.op = 2 ∧ a.n = col then litO b else none := by unfold cmA; rw [ha]; rfl
  have cB : cmB x col = if b.op = 2 ∧ b.n = col then litO a else none := by unfold cmB; rw [ha]; rfl
  rw [ha, show eExs [a, b] = [eEx a, eEx b] from rfl]
  repeat' (first | refine tr_seq ?_ | refine tr_block ?_ | refine tr_skip ?_)
  first | refine reg (T := tab) tOk hnt rfl ?_ ?_ | refine regD (T := tab) tOk mixedR hnt rfl (by decide +kernel) ?_ ?_
  · (dsimp only [AllP]; (repeat' first | exact trivial | assumption | exact Nat.le_of_ble_eq_true rfl | apply And.intro | exact eCells_len1 _ _ ‹_› | exact eCells_isByte _ _ ‹_› | (intro hh_; have hg_ := hh_; (try simp only [condT_ff, condF_tt, notE_t, notE_f, Bool.and_eq_true, ne_eq, decide_eq_true_eq, decide_eq_false_iff_not] at hg_)) | intro _ | exact rfl | omega))
    all_goals first | exact (show (0 : Int) < ((2 : Nat) : Int) by decide) | exact (show (1 : Int) < ((2 : Nat) : Int) by decide) | exact take_all ha7 | exact take_all hb7 | exact ha7 | exact hb7 | trace_state
  refine tr_le (s' := St.of [(1, .one (.e (eT col))), (2, .one (.ptr 2 0 0)), (4, .one (.ptr 4 0 0)), (5, .one (.ptr 5 0 0)), (8, .one (.ptr 8 0 0)), (9, .one (.ptr 9 0 0))] [(2, ⟨0, .box (.es [eI x.op, eI x.v.k, eI x.v.i, eQ x.v.b, eT x.v.t, eT x.n, .sl [eEx a, eEx b]]), 0⟩), (4, ⟨0, .box (.es (eRg (0, 0))), 0⟩), (5, ⟨0, .box (.es (eRg (loI, hiI))), 0⟩), (8, ⟨0, .box (.es [eI a.op, eI a.v.k, eI a.v.i, eQ a.v.b, eT a.v.t, eT a.n, .sl (eExs a.ar)]), 0⟩), (9, ⟨0, .box (.es [eI b.op, eI b.v.k, eI b.v.i, eQ b.v.b, eT b.v.t, eT b.n, .sl (eExs b.ar)]), 0⟩)]) (le_of (ad := []) (by refine ⟨?_, ?_, ?_, ?_, ?_, ?_, trivial⟩ <;> first | exact trivial | rfl | exact ⟨rfl, rfl⟩ | exact ⟨rfl, rfl, rfl⟩ | exact ⟨rfl, rfl, rfl, rfl⟩ | exact ⟨rfl, rfl, rfl, rfl, rfl⟩ | exact congrArg (fun z : Int => E.v (.int .i64 z)) (wrap64_id (by omega) (by omega)) | (refine ⟨rfl, ?_⟩; repeat' first | exact trivial | rfl | apply And.intro)) (memOk_box rfl rfl rfl (memOk_box rfl rfl rfl (memOk_box rfl rfl rfl (memOk_box rfl rfl ((exAll a).trans (eEx_eq a)) (memOk_box rfl rfl ((exAll b).trans (eEx_eq b)) trivial)))))) ?_
  rw [eEx_eq] at l1 l2
  clear f1 f2 ha7 hb7
  repeat' (first | refine tr_seq ?_ | refine tr_block ?_ | refine tr_skip ?_)
  refine tr_region (lex (T := tab) tOk hnt rfl ?_ (call rfl rfl rfl rfl rfl rfl rfl hnt (l2) (lex (T := tab) tOk hnt rfl ?_ (Lex.nil _)))) ?_
  · (dsimp only [AllP]; (repeat' first | exact trivial | assumption | exact Nat.le_of_ble_eq_true rfl | apply And.intro | exact eCells_len1 _ _ ‹_› | exact eCells_isByte _ _ ‹_› | (intro hh_; have hg_ := hh_; (try simp only [condT_ff, condF_tt, notE_t, notE_f, Bool.and_eq_true, ne_eq, decide_eq_true_eq, decide_eq_false_iff_not] at hg_)) | intro _ | exact rfl | omega))
  · (dsimp only [AllP]; (repeat' first | exact trivial | assumption | exact Nat.le_of_ble_eq_true rfl | apply And.intro | decide | intro _ | exact rfl))
  repeat' (first | refine tr_seq ?_ | refine tr_block ?_ | refine tr_skip ?_)
  first | refine reg (T := tab) tOk hnt rfl ?_ ?_ | refine regD (T := tab) tOk mixedR hnt rfl (by decide +kernel) ?_ ?_
  · (dsimp only [AllP]; (repeat' first | exact trivial | assumption | exact Nat.le_of_ble_eq_true rfl | apply And.intro | exact eCells_len1 _ _ ‹_› | exact eCells_isByte _ _ ‹_› | (intro hh_; have hg_ := hh_; (try simp only [condT_ff, condF_tt, notE_t, notE_f, Bool.and_eq_true, ne_eq, decide_eq_true_eq, decide_eq_false_iff_not] at hg_)) | intro _ | exact rfl | omega))
  have hcv : ∀ (q : Int × Bool) (e : Ex), (bif bif q.2 then decide (e.op = 2) else false then strEq (strB e.n) (strB col) else false) = decide (q.2 = true ∧ e.op = 2 ∧ e.n = col) := fun q e => by
    rw [strEq_B]
    cases q.2 <;> by_cases h1 : e.op = 2 <;> by_cases h2 : e.n = col <;> simp [h1, h2]
  repeat' (first | refine tr_seq ?_ | refine tr_block ?_ | refine tr_skip ?_)
  refine tr_cond rfl (fun hc => ?_) (fun hc => ?_)
  · have hc : (bif bif (litC b).2 then decide (a.op = 2) else false then strEq (strB a.n) (strB col) else false) = true := hc
    rw [hcv] at hc
    have hc := of_decide_eq_true hc
    rw [if_pos hc.2] at cA
    cases hb : litO b with
    | none => rw [show litC b = (b.v.i, false) by unfold litC; rw [hb]] at hc; exact absurd hc.1 Bool.false_ne_true
    | some m =>
      have hlc : litC b = (m, true) := by unfold litC; rw [hb]
      rw [hb] at cA
      rw [hlc, rg_A h9 cA]
      have hbd := bounds_fn x.op m (litO_rng k2 hb)
      repeat' (first | refine tr_seq ?_ | refine tr_block ?_ | refine tr_skip ?_)
      refine tr_region (lex (T := tab) tOk hnt rfl ?_ (call rfl rfl rfl rfl rfl rfl rfl hnt (hbd) (lex (T := tab) tOk hnt rfl ?_ (Lex.nil _)))) ?_
      · (dsimp only [AllP]; (repeat' first | exact trivial | assumption | exact Nat.le_of_ble_eq_true rfl | apply And.intro | decide | intro _ | exact rfl))
      · (dsimp only [AllP]; (repeat' first | exact trivial | assumption | exact Nat.le_of_ble_eq_true rfl | apply And.intro | decide | intro _ | exact rfl))
      repeat' (first | refine tr_seq ?_ | refine tr_block ?_ | refine tr_skip ?_)
      refine tr_ret ⟨.inr rfl, _, _, rfl, by (repeat' first | exact trivial | exact Nat.le_of_ble_eq_true rfl | apply And.intro), ?_⟩
      exact rfl
  have hc : (bif bif (litC b).2 then decide (a.op = 2) else false then strEq (strB a.n) (strB col) else false) = false := hc
  rw [hcv] at hc
  have hc := of_decide_eq_false hc
  have cA0 : cmA x col = none := by
    rw [cA]
    by_cases h1 : a.op = 2 ∧ a.n = col
    · rw [if_pos h1]
      cases hb : litO b with
      | none => rfl
      | some m => exact absurd ⟨by unfold litC; rw [hb], h1⟩ hc
    · rw [if_neg h1]
  clear hc
  repeat' (first | refine tr_seq ?_ | refine tr_block ?_ | refine tr_skip ?_)
  refine tr_region (lex (T := tab) tOk hnt rfl ?_ (call rfl rfl rfl rfl rfl rfl rfl hnt (l1) (lex (T := tab) tOk hnt rfl ?_ (Lex.nil _)))) ?_
  · (dsimp only [AllP]; (repeat' first | exact trivial | assumption | exact Nat.le_of_ble_eq_true rfl | apply And.intro | exact eCells_len1 _ _ ‹_› | exact eCells_isByte _ _ ‹_› | (intro hh_; have hg_ := hh_; (try simp only [condT_ff, condF_tt, notE_t, notE_f, Bool.and_eq_true, ne_eq, decide_eq_true_eq, decide_eq_false_iff_not] at hg_)) | intro _ | exact rfl | omega))
  · (dsimp only [AllP]; (repeat' first | exact trivial | assumption | exact Nat.le_of_ble_eq_true rfl | apply And.intro | decide | intro _ | exact rfl))
  repeat' (first | refine tr_seq ?_ | refine tr_block ?_ | refine tr_skip ?_)
  first | refine reg (T := tab) tOk hnt rfl ?_ ?_ | refine regD (T := tab) tOk mixedR hnt rfl (by decide +kernel) ?_ ?_
  · (dsimp only [AllP]; (repeat' first | exact trivial | assumption | exact Nat.le_of_ble_eq_true rfl | apply And.intro | exact eCells_len1 _ _ ‹_› | exact eCells_isByte _ _ ‹_› | (intro hh_; have hg_ := hh_; (try simp only [condT_ff, condF_tt, notE_t, notE_f, Bool.and_eq_true, ne_eq, decide_eq_true_eq, decide_eq_false_iff_not] at hg_)) | intro _ | exact rfl | omega))
  repeat' (first | refine tr_seq ?_ | refine tr_block ?_ | refine tr_skip ?_)
  refine tr_cond rfl (fun hc => ?_) (fun hc => ?_)
  · have hc : (bif bif (litC a).2 then decide (b.op = 2) else false then strEq (strB b.n) (strB col) else false) = true := hc
    rw [hcv] at hc
    have hc := of_decide_eq_true hc
    rw [if_pos hc.2] at cB
    cases hb : litO a with
    | none => rw [show litC a = (a.v.i, false) by unfold litC; rw [hb]] at hc; exact absurd hc.1 Bool.false_ne_true
    | some m =>
      have hlc : litC a = (m, true) := by unfold litC; rw [hb]
      rw [hb] at cB
      rw [hlc, rg_B h9 cA0 cB]
      have hbd := bounds_fn (turnF x.op) m (litO_rng k1 hb)
      repeat' (first | refine tr_seq ?_ | refine tr_block ?_ | refine tr_skip ?_)
      refine tr_region (lex (T := tab) tOk hnt rfl ?_ (call rfl rfl rfl rfl rfl rfl rfl hnt (turned_fn x.op) (lex (T := tab) tOk hnt rfl ?_ (call rfl rfl rfl rfl rfl rfl rfl hnt (hbd) (lex (T := tab) tOk hnt rfl ?_ (Lex.nil _)))))) ?_
      · (dsimp only [AllP]; (repeat' first | exact trivial | assumption | exact Nat.le_of_ble_eq_true rfl | apply And.intro | decide | intro _ | exact rfl))
      · (dsimp only [AllP]; (repeat' first | exact trivial | assumption | exact Nat.le_of_ble_eq_true rfl | apply And.intro | decide | intro _ | exact rfl))
      · (dsimp only [AllP]; (repeat' first | exact trivial | assumption | exact Nat.le_of_ble_eq_true rfl | apply And.intro | decide | intro _ | exact rfl))
      repeat' (first | refine tr_seq ?_ | refine tr_block ?_ | refine tr_skip ?_)
      refine tr_ret ⟨.inr rfl, _, _, rfl, by (repeat' first | exact trivial | exact Nat.le_of_ble_eq_true rfl | apply And.intro), ?_⟩
      exact rfl
  have hc : (bif bif (litC a).2 then decide (b.op = 2) else false then strEq (strB b.n) (strB col) else false) = false := hc
  rw [hcv] at hc
  have hc := of_decide_eq_false hc
  have cB0 : cmB x col = none := by
    rw [cB]
    by_cases h1 : b.op = 2 ∧ b.n = col
    · rw [if_pos h1]
      cases hb : litO a with
      | none => rfl
      | some m => exact absurd ⟨by unfold litC; rw [hb], h1⟩ hc
    · rw [if_neg h1]
  rw [rg_N h9 cA0 cB0]
  repeat' (first | refine tr_seq ?_ | refine reg (T := tab) tOk hnt rfl ?_ ?_ | refine regD (T := tab) tOk mixedR hnt rfl (by decide +kernel) ?_ ?_ | refine tr_block ?_ | refine tr_skip ?_)
  · (dsimp only [AllP]; (repeat' first | exact trivial | assumption | exact Nat.le_of_ble_eq_true rfl | apply And.intro | decide | intro _ | exact rfl))
  repeat' (first | refine tr_seq ?_ | refine tr_block ?_ | refine tr_skip ?_)
  refine tr_ret ⟨.inr rfl, _, _, rfl, by (repeat' first | exact trivial | exact Nat.le_of_ble_eq_true rfl | apply And.intro), ?_⟩
  exact rfl
theorem of_all (col : Byt) : ∀ (n : Nat) (x : Ex), ht x ≤ n → okX x → FnD Tryd.prog 56 [.agg (.es (eEx x)), .one (.e (eT col))] (.agg (.es (eRg (foL col (anL n x)))))
  | 0, x, h, _ => by rw [ht_eq] at h; omega
  | n + 1, x, h, hk => of_step x col hk n fun a ha => of_all col n a (by have := ht_mem ha; rw [ht_eq] at h; omega) (okX_kid hk ha)
/-- span.Of -/
def spF (x : Ex) (col : Byt) : (Int × Int) × Int :=
  if exF x ≠ 0 then ((0, 0), exF x) else if (foL col (anL 7 x)).2 < (foL col (anL 7 x)).1 then ((1, 0), 0) else (foL col (anL 7 x), 0)
def rSp (q : (Int × Int) × Int) : D := .tup [(true, .es (eRg q.1)), (false, .es [eI q.2])]
theorem exF_ok {x : Ex} (h : exOk x) (h0 : exF x = 0) : ht x ≤ 7 ∧ okX x := by
  unfold exF at h0
  split at h0
  · rename_i h1; exact ⟨h1.1, h0, h⟩
  · exact absurd h0 (by decide)
set_option maxRecDepth 10000 in
set_option maxHeartbeats 2000000 in
theorem Of_fn (x : Ex) (col : Byt) (h : exOk x) : FnG Tryd.prog 25 gK [.agg (.es (eEx x)), .one (.e (eT col))] (rSp (spF x col)) := by
  refine fn_introG (T := tab) tOk Tryd.func25 rfl (by kernel_rfl) (by simp [Tryd.ntmps25]) ?_
  intro X hX
  have hnt : X.nt = 24 := hX
  clear hX
  have h1 := exprCheck_fn x h
  have hx7 := ex7 x
  have f1 : 0 + 7 ≤ (Cs.es (eEx x)).len := by show 0 + 7 ≤ (eEx x).length; omega
  unfold spF
  repeat' (first | refine tr_seq ?_ | refine tr_block ?_ | refine tr_skip ?_)
  first | refine reg (T := tab) tOk hnt rfl ?_ ?_ | refine regD (T := tab) tOk mixedR hnt rfl (by decide +kernel) ?_ ?_
  · (dsimp only [AllP]; (repeat' first | exact trivial | assumption | exact Nat.le_of_ble_eq_true rfl | apply And.intro | exact eCells_len1 _ _ ‹_› | exact eCells_isByte _ _ ‹_› | (intro hh_; have hg_ := hh_; (try simp only [condT_ff, condF_tt, notE_t, notE_f, Bool.and_eq_true, ne_eq, decide_eq_true_eq, decide_eq_false_iff_not] at hg_)) | intro _ | exact rfl | omega))
  rw [← exAll x] at h1
  repeat' (first | refine tr_seq ?_ | refine tr_block ?_ | refine tr_skip ?_)
  refine tr_region (lex (T := tab) tOk hnt rfl ?_ (callV rfl rfl rfl rfl rfl rfl rfl hnt rfl (h1) (lex (T := tab) tOk hnt rfl ?_ (Lex.nil _)))) ?_
  · (dsimp only [AllP]; (repeat' first | exact trivial | assumption | exact Nat.le_of_ble_eq_true rfl | apply And.intro | exact eCells_len1 _ _ ‹_› | exact eCells_isByte _ _ ‹_› | (intro hh_; have hg_ := hh_; (try simp only [condT_ff, condF_tt, notE_t, notE_f, Bool.and_eq_true, ne_eq, decide_eq_true_eq, decide_eq_false_iff_not] at hg_)) | intro _ | exact rfl | omega))
  · (dsimp only [AllP]; (repeat' first | exact trivial | assumption | exact Nat.le_of_ble_eq_true rfl | apply And.intro | decide | intro _ | exact rfl))
  repeat' (first | refine tr_seq ?_ | refine reg (T := tab) tOk hnt rfl ?_ ?_ | refine regD (T := tab) tOk mixedR hnt rfl (by decide +kernel) ?_ ?_ | refine tr_block ?_ | refine tr_skip ?_)
  · (dsimp only [AllP]; (repeat' first | exact trivial | assumption | exact Nat.le_of_ble_eq_true rfl | apply And.intro | decide | intro _ | exact rfl))
  repeat' (first | refine tr_seq ?_ | refine tr_block ?_ | refine tr_skip ?_)
  refine tr_cond rfl (fun hc => ?_) (fun hc => ?_)
  · have hc : (!decide (exF x = 0)) = true := hc
    simp only [condT_tt, condT_ff, condF_tt, condF_ff, notE_t, notE_f, decide_eq_true_eq, decide_eq_false_iff_not] at hc
    rw [if_pos hc]
    repeat' (first | refine tr_seq ?_ | refine reg (T := tab) tOk hnt rfl ?_ ?_ | refine regD (T := tab) tOk mixedR hnt rfl (by decide +kernel) ?_ ?_ | refine tr_block ?_ | refine tr_skip ?_)
    · (dsimp only [AllP]; (repeat' first | exact trivial | assumption | exact Nat.le_of_ble_eq_true rfl | apply And.intro | decide | intro _ | exact rfl))
    refine tr_ret ⟨.inr rfl, _, _, rfl, by (repeat' first | exact trivial | exact Nat.le_of_ble_eq_true rfl | apply And.intro), ?_⟩
    exact rfl
  have hc : (!decide (exF x = 0)) = false := hc
  simp only [condT_tt, condT_ff, condF_tt, condF_ff, notE_t, notE_f, decide_eq_true_eq, decide_eq_false_iff_not] at hc
  rw [if_neg (not_not_intro hc)]
  obtain ⟨k1, k2⟩ := exF_ok h hc
  have h2 := of_all col 7 x k1 k2
  rw [← exAll x] at h2
  generalize foL col (anL 7 x) = q at *
  repeat' (first | refine tr_seq ?_ | refine tr_block ?_ | refine tr_skip ?_)
  refine tr_region (lex (T := tab) tOk hnt rfl ?_ (call rfl rfl rfl rfl rfl rfl rfl hnt (h2) (lex (T := tab) tOk hnt rfl ?_ (Lex.nil _)))) ?_
  · (dsimp only [AllP]; (repeat' first | exact trivial | assumption | exact Nat.le_of_ble_eq_true rfl | apply And.intro | exact eCells_len1 _ _ ‹_› | exact eCells_isByte _ _ ‹_› | (intro hh_; have hg_ := hh_; (try simp only [condT_ff, condF_tt, notE_t, notE_f, Bool.and_eq_true, ne_eq, decide_eq_true_eq, decide_eq_false_iff_not] at hg_)) | intro _ | exact rfl | omega))
  · (dsimp only [AllP]; (repeat' first | exact trivial | assumption | exact Nat.le_of_ble_eq_true rfl | apply And.intro | decide | intro _ | exact rfl))
  repeat' (first | refine tr_seq ?_ | refine reg (T := tab) tOk hnt rfl ?_ ?_ | refine regD (T := tab) tOk mixedR hnt rfl (by decide +kernel) ?_ ?_ | refine tr_block ?_ | refine tr_skip ?_)
  · (dsimp only [AllP]; (repeat' first | exact trivial | assumption | exact Nat.le_of_ble_eq_true rfl | apply And.intro | decide | intro _ | exact rfl))
  repeat' (first | refine tr_seq ?_ | refine tr_block ?_ | refine tr_skip ?_)
  refine tr_cond rfl (fun hc => ?_) (fun hc => ?_)
  · have hc : decide (q.2 < q.1) = true := hc
    rw [if_pos (of_decide_eq_true hc)]
    repeat' (first | refine tr_seq ?_ | refine tr_block ?_ | refine tr_skip ?_)
    refine tr_region (lex (T := tab) tOk hnt rfl ?_ (call rfl rfl rfl rfl rfl rfl rfl hnt (none_fn) (lex (T := tab) tOk hnt rfl ?_ (Lex.nil _)))) ?_
    · (dsimp only [AllP]; (repeat' first | exact trivial | assumption | exact Nat.le_of_ble_eq_true rfl | apply And.intro | decide | intro _ | exact rfl))
    · (dsimp only [AllP]; (repeat' first | exact trivial | assumption | exact Nat.le_of_ble_eq_true rfl | apply And.intro | decide | intro _ | exact rfl))
    repeat' (first | refine tr_seq ?_ | refine tr_block ?_ | refine tr_skip ?_)
    refine tr_ret ⟨.inr rfl, _, _, rfl, by (repeat' first | exact trivial | exact Nat.le_of_ble_eq_true rfl | apply And.intro), ?_⟩
    exact rfl
  have hc : decide (q.2 < q.1) = false := hc
  rw [if_neg (of_decide_eq_false hc)]
  repeat' (first | refine tr_seq ?_ | refine reg (T := tab) tOk hnt rfl ?_ ?_ | refine regD (T := tab) tOk mixedR hnt rfl (by decide +kernel) ?_ ?_ | refine tr_block ?_ | refine tr_skip ?_)
  · (dsimp only [AllP]; (repeat' first | exact trivial | assumption | exact Nat.le_of_ble_eq_true rfl | apply And.intro | decide | intro _ | exact rfl))
  repeat' (first | refine tr_seq ?_ | refine tr_block ?_ | refine tr_skip ?_)
  refine tr_ret ⟨.inr rfl, _, _, rfl, by (repeat' first | exact trivial | exact Nat.le_of_ble_eq_true rfl | apply And.intro), ?_⟩
  exact rfl
end Go.Proofs.YtcjeeoimjkhijaaDoor
namespace Go.Proofs.YtcjeeoimjkhijaaDoor
open Go Go.RowKit Go.Proofs.YtcjeeoimjkhijaaDoor.Ab
set_option linter.unusedSimpArgs false
set_option linter.unusedVariables false

set_option maxRecDepth 10000 in
set_option maxHeartbeats 2000000 in
theorem ands_step (x : Ex) (h : okX x) (n : Nat) (ih : ∀ a ∈ x.ar, FnO Tryd.prog 58 [] [.agg (.es (eEx a))] (.one (.own 10 0)) [(10, ⟨0, .row 7 (eExs (anL n a)), 0⟩)]) (hlen : (anL (n + 1) x).length ≤ 1000000) : FnO Tryd.prog 58 ([]) [.agg (.es (eEx x))] (.one (.own 10 0)) [(10, ⟨0, .row 7 (eExs (anL (n + 1) x)), 0⟩)] := by
  refine fn_introO (T := tab) tOk Tryd.func58 rfl (by kernel_rfl) (by simp [Tryd.ntmps58]) ?_
  intro X hX
  have hnt : X.nt = 19 := hX
  clear hX
  rw [anL] at hlen ⊢
  by_cases h15 : x.op = 15
  · obtain ⟨a, b, ha, k1, k2⟩ := okX_two h (by omega)
    have i1 := ih a (by rw [ha]; simp)
    have i2 := ih b (by rw [ha]; simp)
    rw [if_pos h15, ha] at hlen ⊢
    have g1 : [a, b].getD 0 ex0 = a := rfl
    have g2 : [a, b].getD 1 ex0 = b := rfl
    rw [g1, g2] at hlen ⊢
    generalize anL n a = p at *
    generalize anL n b = q at *
    have ha7 := ex7 a
    have hb7 := ex7 b
    have hp7 := exs7 p
    have hq7 := exs7 q
    have hpl := exsLen p
    have hql := exsLen q
    rw [List.length_append] at hlen
    rw [← exAll a] at i1
    rw [← exAll b] at i2
    have f1 : 0 + 7 ≤ (Cs.es (eEx a)).len := by show 0 + 7 ≤ (eEx a).length; omega
    have f2 : 0 + 7 ≤ (Cs.es (eEx b)).len := by show 0 + 7 ≤ (eEx b).length; omega
    have m1 : (eExs p).length + (eExs q).length ≤ maxLen := by unfold maxLen; omega
    have hpq : eExs p ++ eExs q = eExs (p ++ q) := by rw [eExs_map, eExs_map, eExs_map, List.map_append]
    rw [eEx_eq x, ha, show eExs [a, b] = [eEx a, eEx b] from rfl, h15]
    repeat' (first | refine tr_seq ?_ | refine reg (T := tab) tOk hnt rfl ?_ ?_ | refine regD (T := tab) tOk mixedR hnt rfl (by decide +kernel) ?_ ?_ | refine tr_block ?_ | refine tr_skip ?_)
    · (dsimp only [AllP]; (repeat' first | exact trivial | assumption | exact Nat.le_of_ble_eq_true rfl | apply And.intro | decide | intro _ | exact rfl))
    · (dsimp only [AllP]; (repeat' first | exact trivial | assumption | exact Nat.le_of_ble_eq_true rfl | apply And.intro | decide | intro _ | exact rfl))
    repeat' (first | refine tr_seq ?_ | refine tr_block ?_ | refine tr_skip ?_)
    refine tr_cond rfl (fun hc => ?_) (fun hc => ?_)
    · repeat' (first | refine tr_seq ?_ | refine tr_block ?_ | refine tr_skip ?_)
      refine tr_draw (T := tab) tOk hnt mixedR (lexD (T := tab) rfl ?_ (callDO rfl rfl rfl rfl rfl rfl rfl rfl rfl rfl rfl rfl rfl (i1) (lexD (T := tab) rfl ?_ (callDO rfl rfl rfl rfl rfl rfl rfl rfl rfl rfl rfl rfl rfl (i2) (lexD (T := tab) rfl ?_ (.nil _)))))) (by decide +kernel) ?_
      · (dsimp only [AllP]; (repeat' first | exact trivial | assumption | exact Nat.le_of_ble_eq_true rfl | apply And.intro | exact eCells_len1 _ _ ‹_› | exact eCells_isByte _ _ ‹_› | (intro hh_; have hg_ := hh_; (try simp only [condT_ff, condF_tt, notE_t, notE_f, Bool.and_eq_true, ne_eq, decide_eq_true_eq, decide_eq_false_iff_not] at hg_)) | intro _ | exact rfl | omega))
        all_goals first | exact (show (0 : Int) < ((2 : Nat) : Int) by decide) | exact (show (1 : Int) < ((2 : Nat) : Int) by decide) | exact ha7 | exact hb7 | trace_state
      · (dsimp only [AllP]; (repeat' first | exact trivial | assumption | exact Nat.le_of_ble_eq_true rfl | apply And.intro | exact eCells_len1 _ _ ‹_› | exact eCells_isByte _ _ ‹_› | (intro hh_; have hg_ := hh_; (try simp only [condT_ff, condF_tt, notE_t, notE_f, Bool.and_eq_true, ne_eq, decide_eq_true_eq, decide_eq_false_iff_not] at hg_)) | intro _ | exact rfl | omega))
        all_goals first | exact (show (0 : Int) < ((2 : Nat) : Int) by decide) | exact (show (1 : Int) < ((2 : Nat) : Int) by decide) | exact ha7 | exact hb7 | trace_state
      · (dsimp only [AllP]; (repeat' first | exact trivial | assumption | exact Nat.le_of_ble_eq_true rfl | apply And.intro | exact eCells_len1 _ _ ‹_› | exact eCells_isByte _ _ ‹_› | (intro hh_; have hg_ := hh_; (try simp only [condT_ff, condF_tt, notE_t, notE_f, Bool.and_eq_true, ne_eq, decide_eq_true_eq, decide_eq_false_iff_not] at hg_)) | intro _ | exact rfl | omega))
        all_goals trace_state
      repeat' (first | refine tr_seq ?_ | refine tr_block ?_ | refine tr_skip ?_)
      exact tr_ret ⟨.inr rfl, _, _, _, rfl, trivial, rfl, fun X => le_of (ad := []) ⟨⟨rfl, rfl, rfl, rfl⟩, trivial⟩ (memOk_row rfl rfl hpq trivial)⟩
    exact absurd (show true = false from hc) (by decide)
  rw [if_neg h15]
  have hx7 := ex7 x
  have hop : ((eEx x).getD (0 + 0) E.dflt).int = x.op := by rw [eEx_eq]; rfl
  have f1 : 0 + 7 ≤ (Cs.es (eEx x)).len := by show 0 + 7 ≤ (eEx x).length; omega
  have f0 : 0 + 0 < (Cs.es (eEx x)).len := by show 0 < (eEx x).length; omega
  have f0 : D0.isA (.int .i64) ((Cs.es (eEx x)).at (0 + 0)) := by rw [eEx_eq]; exact rfl
  have t7 := take_all hx7
  repeat' (first | refine tr_seq ?_ | refine tr_block ?_ | refine tr_skip ?_)
  first | refine reg (T := tab) tOk hnt rfl ?_ ?_ | refine regD (T := tab) tOk mixedR hnt rfl (by decide +kernel) ?_ ?_
  · (dsimp only [AllP]; (repeat' first | exact trivial | assumption | exact Nat.le_of_ble_eq_true rfl | apply And.intro | exact eCells_len1 _ _ ‹_› | exact eCells_isByte _ _ ‹_› | (intro hh_; have hg_ := hh_; (try simp only [condT_ff, condF_tt, notE_t, notE_f, Bool.and_eq_true, ne_eq, decide_eq_true_eq, decide_eq_false_iff_not] at hg_)) | intro _ | exact rfl | omega))
  repeat' (first | refine tr_seq ?_ | refine tr_block ?_ | refine tr_skip ?_)
  first | refine reg (T := tab) tOk hnt rfl ?_ ?_ | refine regD (T := tab) tOk mixedR hnt rfl (by decide +kernel) ?_ ?_
  · (dsimp only [AllP]; (repeat' first | exact trivial | assumption | exact Nat.le_of_ble_eq_true rfl | apply And.intro | exact eCells_len1 _ _ ‹_› | exact eCells_isByte _ _ ‹_› | (intro hh_; have hg_ := hh_; (try simp only [condT_ff, condF_tt, notE_t, notE_f, Bool.and_eq_true, ne_eq, decide_eq_true_eq, decide_eq_false_iff_not] at hg_)) | intro _ | exact rfl | omega))
  repeat' (first | refine tr_seq ?_ | refine tr_block ?_ | refine tr_skip ?_)
  refine tr_cond rfl (fun hc => ?_) (fun hc => ?_)
  · exact absurd (hop.symm.trans (of_decide_eq_true hc)) h15
  repeat' (first | refine tr_seq ?_ | refine tr_block ?_ | refine tr_skip ?_)
  first | refine reg (T := tab) tOk hnt rfl ?_ ?_ | refine regD (T := tab) tOk mixedR hnt rfl (by decide +kernel) ?_ ?_
  · (dsimp only [AllP]; (repeat' first | exact trivial | assumption | exact Nat.le_of_ble_eq_true rfl | apply And.intro | exact eCells_len1 _ _ ‹_› | exact eCells_isByte _ _ ‹_› | (intro hh_; have hg_ := hh_; (try simp only [condT_ff, condF_tt, notE_t, notE_f, Bool.and_eq_true, ne_eq, decide_eq_true_eq, decide_eq_false_iff_not] at hg_)) | intro _ | exact rfl | omega))
    all_goals trace_state
  refine tr_le (le_rn 18 10 rfl rfl) ?_
  repeat' (first | refine tr_seq ?_ | refine tr_block ?_ | refine tr_skip ?_)
  exact tr_ret ⟨.inr rfl, _, _, _, rfl, trivial, rfl, fun X => le_of (ad := []) ⟨⟨rfl, rfl, rfl, rfl⟩, trivial⟩ (memOk_row rfl rfl (by rw [exAll x]; rfl) trivial)⟩
end Go.Proofs.YtcjeeoimjkhijaaDoor
namespace Go.Proofs.YtcjeeoimjkhijaaDoor
open Go Go.RowKit Go.Proofs.YtcjeeoimjkhijaaDoor.Ab
set_option linter.unusedSimpArgs false
set_option linter.unusedVariables false

theorem anL_len : ∀ (n : Nat) (x : Ex), (anL n x).length ≤ 2 ^ n
  | 0, _ => Nat.le_refl _
  | n + 1, x => by
    rw [anL]
    split
    · have h1 := anL_len n (x.ar.getD 0 ex0)
      have h2 := anL_len n (x.ar.getD 1 ex0)
      rw [List.length_append, Nat.pow_succ]
      omega
    · exact Nat.one_le_two_pow
theorem ands_all : ∀ (n : Nat) (x : Ex), n ≤ 7 → ht x ≤ n → okX x → FnO Tryd.prog 58 [] [.agg (.es (eEx x))] (.one (.own 10 0)) [(10, ⟨0, .row 7 (eExs (anL n x)), 0⟩)]
  | 0, x, _, h, _ => by rw [ht_eq] at h; omega
  | n + 1, x, hn, h, hk => ands_step x hk n (fun a ha => ands_all n a (by omega) (by have := ht_mem ha; rw [ht_eq] at h; omega) (okX_kid hk ha)) (by
      have h1 := anL_len (n + 1) x
      have h2 : 2 ^ (n + 1) ≤ 2 ^ 7 := Nat.pow_le_pow_right (by decide) hn
      have h3 : (2 : Nat) ^ 7 = 128 := by decide
      omega)
theorem anL_ok : ∀ (n : Nat) (x : Ex), ht x ≤ n → okX x → ∀ y ∈ anL n x, okX y
  | 0, x, h, _ => by rw [ht_eq] at h; omega
  | n + 1, x, h, hk => by
    rw [anL]
    intro y hy
    split at hy
    · rename_i h15
      obtain ⟨a, b, ha, k1, k2⟩ := okX_two hk (by omega)
      have m1 := ht_mem (l := x.ar) (a := a) (by rw [ha]; simp)
      have m2 := ht_mem (l := x.ar) (a := b) (by rw [ha]; simp)
      rw [ht_eq] at h
      rw [ha] at hy
      rcases List.mem_append.1 hy with hy | hy
      · exact anL_ok n a (by omega) k1 y hy
      · exact anL_ok n b (by omega) k2 y hy
    · rw [List.mem_singleton.1 hy]
      exact hk
/-- what is known of a range, and of nothing being in it -/
def Jr (F : Int × Int) (lo hi : Int) (nn : Bool) : Prop := (loI ≤ F.1 ∧ F.2 ≤ hiI) ∧ (nn = false → lo = F.1 ∧ hi = F.2) ∧ (nn = true → 1 ≤ F.1 ∧ F.2 ≤ 0)
theorem Jr_step {F r : Int × Int} {lo hi lo' hi' : Int} {nn nn' : Bool} (h : Jr F lo hi nn) (hn : nn' = nn) (h1 : loI ≤ lo → hi ≤ hiI → lo' = max lo r.1) (h2 : loI ≤ lo → hi ≤ hiI → hi' = min hi r.2) : Jr (max F.1 r.1, min F.2 r.2) lo' hi' nn' := by
  subst hn
  obtain ⟨⟨b1, b2⟩, j1, j2⟩ := h
  refine ⟨⟨by dsimp only; omega, by dsimp only; omega⟩, fun h => ?_, fun h => ?_⟩
  · obtain ⟨e1, e2⟩ := j1 h
    have h1 := h1 (by omega) (by omega)
    have h2 := h2 (by omega) (by omega)
    dsimp only
    omega
  · have := j2 h
    dsimp only
    omega
theorem Jr_none {F : Int × Int} {lo hi lo' hi' : Int} {nn nn' : Bool} (h : Jr F lo hi nn) (hn : nn' = true) : Jr (max F.1 1, min F.2 0) lo' hi' nn' := by
  obtain ⟨⟨b1, b2⟩, j1, j2⟩ := h
  refine ⟨⟨by dsimp only; omega, by dsimp only; omega⟩, fun h => ?_, fun h => ?_⟩
  · rw [hn] at h; cases h
  · dsimp only; omega
theorem foL_take (col : Byt) (L : List Ex) {i : Nat} (h : i < L.length) (hk : okX (L.getD i ex0)) : foL col (L.take (i + 1)) = (max (foL col (L.take i)).1 (rgO col (L.getD i ex0)).1, min (foL col (L.take i)).2 (rgO col (L.getD i ex0)).2) := by
  rw [take_succ (d := ex0) h, foL_app, foL_one col hk]
theorem rg_cmp {x : Ex} {col : Byt} {op n : Int} (h : cmpO x col = some (op, n)) : rgO col x = bdF op n := by
  unfold rgO
  rw [h]
theorem rg_no {x : Ex} {col : Byt} (h : cmpO x col = none) : rgO col x = (loI, hiI) := by
  unfold rgO
  rw [h]
theorem litO_col {a : Ex} (h : a.op = 2) : litO a = none := by
  unfold litO
  rw [if_neg (by omega), if_neg (by omega)]
/-- the column on the left -/
theorem cmp_left {x a b : Ex} {col : Byt} (h9 : 9 ≤ x.op ∧ x.op ≤ 14) (ha : x.ar = [a, b]) (h2 : a.op = 2) : cmpO x col = if a.n = col then (litO b).map fun n => (x.op, n) else none := by
  have cA : cmA x col = if a.op = 2 ∧ a.n = col then litO b else none := by unfold cmA; rw [ha]; rfl
  have cB : cmB x col = none := by
    unfold cmB
    rw [ha]
    show (if b.op = 2 ∧ b.n = col then litO a else none) = none
    rw [litO_col h2]
    split <;> rfl
  unfold cmpO
  rw [if_pos h9, cA, cB]
  by_cases h : a.n = col
  · rw [if_pos ⟨h2, h⟩, if_pos h]
    cases litO b <;> rfl
  · rw [if_neg (fun h' => h h'.2), if_neg h]
theorem cmp_right {x a b : Ex} {col : Byt} (h9 : 9 ≤ x.op ∧ x.op ≤ 14) (ha : x.ar = [a, b]) (h2 : a.op ≠ 2) : cmpO x col = if b.op = 2 ∧ b.n = col then (litO a).map fun n => (turnF x.op, n) else none := by
  have cA : cmA x col = none := by unfold cmA; rw [ha]; exact if_neg fun h => h2 h.1
  have cB : cmB x col = if b.op = 2 ∧ b.n = col then litO a else none := by unfold cmB; rw [ha]; rfl
  unfold cmpO
  rw [if_pos h9, cA, cB]
  by_cases h : b.op = 2 ∧ b.n = col
  · rw [if_pos h, if_pos h]
    cases litO a <;> rfl
  · rw [if_neg h, if_neg h]
theorem turnF_rng {op : Int} (h : 9 ≤ op ∧ op ≤ 14) : 9 ≤ turnF op ∧ turnF op ≤ 14 := by
  unfold turnF
  split
  · omega
  split
  · omega
  split
  · omega
  split <;> omega
set_option maxRecDepth 10000 in
set_option maxHeartbeats 2000000 in
theorem RangeOf_fn (x : Ex) (col : Byt) (h : exOk x) : FnG Tryd.prog 26 gK [.agg (.es (eEx x)), .one (.e (eT col))] (rSp (spF x col)) := by
  refine fn_introG (T := tab) tOk Tryd.func26 rfl (by kernel_rfl) (by simp [Tryd.ntmps26]) ?_
  intro X hX
  have hnt : X.nt = 143 := hX
  clear hX
  have h1 := exprFault_fn x h
  have hx7 := ex7 x
  have f1 : 0 + 7 ≤ (Cs.es (eEx x)).len := by show 0 + 7 ≤ (eEx x).length; omega
  unfold spF
  repeat' (first | refine tr_seq ?_ | refine tr_block ?_ | refine tr_skip ?_)
  first | refine reg (T := tab) tOk hnt rfl ?_ ?_ | refine regD (T := tab) tOk mixedR hnt rfl (by decide +kernel) ?_ ?_
  · (dsimp only [AllP]; (repeat' first | exact trivial | assumption | exact Nat.le_of_ble_eq_true rfl | apply And.intro | exact eCells_len1 _ _ ‹_› | exact eCells_isByte _ _ ‹_› | (intro hh_; have hg_ := hh_; (try simp only [condT_ff, condF_tt, notE_t, notE_f, Bool.and_eq_true, ne_eq, decide_eq_true_eq, decide_eq_false_iff_not] at hg_)) | intro _ | exact rfl | omega))
  rw [← exAll x] at h1
  repeat' (first | refine tr_seq ?_ | refine tr_block ?_ | refine tr_skip ?_)
  refine tr_region (lex (T := tab) tOk hnt rfl ?_ (callV rfl rfl rfl rfl rfl rfl rfl hnt rfl (h1) (lex (T := tab) tOk hnt rfl ?_ (Lex.nil _)))) ?_
  · (dsimp only [AllP]; (repeat' first | exact trivial | assumption | exact Nat.le_of_ble_eq_true rfl | apply And.intro | exact eCells_len1 _ _ ‹_› | exact eCells_isByte _ _ ‹_› | (intro hh_; have hg_ := hh_; (try simp only [condT_ff, condF_tt, notE_t, notE_f, Bool.and_eq_true, ne_eq, decide_eq_true_eq, decide_eq_false_iff_not] at hg_)) | intro _ | exact rfl | omega))
  · (dsimp only [AllP]; (repeat' first | exact trivial | assumption | exact Nat.le_of_ble_eq_true rfl | apply And.intro | decide | intro _ | exact rfl))
  repeat' (first | refine tr_seq ?_ | refine reg (T := tab) tOk hnt rfl ?_ ?_ | refine regD (T := tab) tOk mixedR hnt rfl (by decide +kernel) ?_ ?_ | refine tr_block ?_ | refine tr_skip ?_)
  · (dsimp only [AllP]; (repeat' first | exact trivial | assumption | exact Nat.le_of_ble_eq_true rfl | apply And.intro | decide | intro _ | exact rfl))
  repeat' (first | refine tr_seq ?_ | refine tr_block ?_ | refine tr_skip ?_)
  refine tr_cond rfl (fun hc => ?_) (fun hc => ?_)
  · have hc : (!decide (exF x = 0)) = true := hc
    simp only [condT_tt, condT_ff, condF_tt, condF_ff, notE_t, notE_f, decide_eq_true_eq, decide_eq_false_iff_not] at hc
    rw [if_pos hc]
    repeat' (first | refine tr_seq ?_ | refine reg (T := tab) tOk hnt rfl ?_ ?_ | refine regD (T := tab) tOk mixedR hnt rfl (by decide +kernel) ?_ ?_ | refine tr_block ?_ | refine tr_skip ?_)
    · (dsimp only [AllP]; (repeat' first | exact trivial | assumption | exact Nat.le_of_ble_eq_true rfl | apply And.intro | decide | intro _ | exact rfl))
    refine tr_ret ⟨.inr rfl, _, _, rfl, by (repeat' first | exact trivial | exact Nat.le_of_ble_eq_true rfl | apply And.intro), ?_⟩
    exact rfl
  have hc : (!decide (exF x = 0)) = false := hc
  simp only [condT_tt, condT_ff, condF_tt, condF_ff, notE_t, notE_f, decide_eq_true_eq, decide_eq_false_iff_not] at hc
  rw [if_neg (not_not_intro hc)]
  obtain ⟨k1, k2⟩ := exF_ok h hc
  have h2 := ands_all 7 x (Nat.le_refl _) k1 k2
  have hok := anL_ok 7 x k1 k2
  have hll := anL_len 7 x
  rw [← exAll x] at h2
  generalize anL 7 x = L at *
  repeat' (first | refine tr_seq ?_ | refine reg (T := tab) tOk hnt rfl ?_ ?_ | refine regD (T := tab) tOk mixedR hnt rfl (by decide +kernel) ?_ ?_ | refine tr_block ?_ | refine tr_skip ?_)
  · (dsimp only [AllP]; (repeat' first | exact trivial | assumption | exact Nat.le_of_ble_eq_true rfl | apply And.intro | decide | intro _ | exact rfl))
  · (dsimp only [AllP]; (repeat' first | exact trivial | assumption | exact Nat.le_of_ble_eq_true rfl | apply And.intro | decide | intro _ | exact rfl))
  repeat' (first | refine tr_seq ?_ | refine tr_block ?_ | refine tr_skip ?_)
  refine tr_region (lex (T := tab) tOk hnt rfl ?_ (callO (base := 2000) rfl rfl rfl rfl rfl rfl rfl hnt rfl rfl (h2) rfl (lex (T := tab) tOk hnt rfl ?_ (Lex.nil _)))) ?_
  · (dsimp only [AllP]; (repeat' first | exact trivial | assumption | exact Nat.le_of_ble_eq_true rfl | apply And.intro | exact eCells_len1 _ _ ‹_› | exact eCells_isByte _ _ ‹_› | (intro hh_; have hg_ := hh_; (try simp only [condT_ff, condF_tt, notE_t, notE_f, Bool.and_eq_true, ne_eq, decide_eq_true_eq, decide_eq_false_iff_not] at hg_)) | intro _ | exact rfl | omega))
  · (dsimp only [AllP]; (repeat' first | exact trivial | assumption | exact Nat.le_of_ble_eq_true rfl | apply And.intro | exact eCells_len1 _ _ ‹_› | exact eCells_isByte _ _ ‹_› | (intro hh_; have hg_ := hh_; (try simp only [condT_ff, condF_tt, notE_t, notE_f, Bool.and_eq_true, ne_eq, decide_eq_true_eq, decide_eq_false_iff_not] at hg_)) | intro _ | exact rfl | omega))
    all_goals trace_state
  refine tr_le (le_frz 24 rfl rfl) ?_
  have hel : (eExs L).length = L.length := exsLen L
  have h27 : (2 : Nat) ^ 7 = 128 := by decide
  repeat' (first | refine tr_seq ?_ | refine tr_block ?_ | refine tr_skip ?_)
  refine tr_loop (σ := Nat × Int × Int × Bool) (fun y => St.of [(1, .one (.e (eT col))), (4, .one (.ptr 4 0 0)), (7, .one (.ptr 7 0 0)), (8, .v (.bool y.2.2.2)), (24, .one (.e (.sl (eExs L)))), (25, .one (.e (eI ((eExs L).length : Int)))), (26, .one (.e (eI (y.1 : Int))))] [(4, ⟨0, .box (.es (eRg (0, 0))), 0⟩), (7, ⟨0, .box (.es (eRg (y.2.1, y.2.2.1))), 0⟩)]) (fun y => y.1 ≤ L.length ∧ Jr (foL col (L.take y.1)) y.2.1 y.2.2.1 y.2.2.2) (fun y => L.length - y.1) ((0, loI, hiI, false)) (le_of (ad := []) (by refine ⟨?_, ?_, ?_, ?_, ?_, ?_, ?_, trivial⟩ <;> first | exact trivial | rfl | exact ⟨rfl, rfl⟩ | exact ⟨rfl, rfl, rfl⟩ | exact ⟨rfl, rfl, rfl, rfl⟩ | exact ⟨rfl, rfl, rfl, rfl, rfl⟩ | exact congrArg (fun z : Int => E.v (.int .i64 z)) (wrap64_id (by omega) (by omega)) | (refine ⟨rfl, ?_⟩; repeat' first | exact trivial | rfl | apply And.intro)) (memOk_box rfl rfl rfl (memOk_box rfl rfl rfl trivial))) ⟨Nat.zero_le _, ⟨Int.le_refl _, Int.le_refl _⟩, fun _ => ⟨rfl, rfl⟩, fun h => absurd h Bool.false_ne_true⟩ ?_
  rintro ⟨i, lo, hi, nn⟩ ⟨il, hJ⟩
  dsimp only at il hJ ⊢
  repeat' (first | refine tr_seq ?_ | refine reg (T := tab) tOk hnt rfl ?_ ?_ | refine regD (T := tab) tOk mixedR hnt rfl (by decide +kernel) ?_ ?_ | refine tr_block ?_ | refine tr_skip ?_)
  · (dsimp only [AllP]; (repeat' first | exact trivial | assumption | exact Nat.le_of_ble_eq_true rfl | apply And.intro | decide | intro _ | exact rfl))
  repeat' (first | refine tr_seq ?_ | refine tr_block ?_ | refine tr_skip ?_)
  refine tr_cond rfl (fun hc => ?_) (fun hc => ?_)
  · simp only [condT_tt, condT_ff, condF_tt, condF_ff, notE_t, notE_f, decide_eq_true_eq, decide_eq_false_iff_not] at hc
    (try simp only [hel] at hc)
    (try simp only [condT_tt, condT_ff, condF_tt, condF_ff, notE_t, notE_f, decide_eq_true_eq, decide_eq_false_iff_not] at hc)
    have hlt : i < L.length := by omega
    have hg := exsGet L i hlt
    have hyk := hok _ (getD_mem (d := ex0) hlt)
    have hy7 := ex7 (L.getD i ex0)
    have f2 : 0 + 7 ≤ (Cs.es (eEx (L.getD i ex0))).len := by show 0 + 7 ≤ (eEx _).length; omega
    have t2 := take_all hy7
    have hF := foL_take col L hlt hyk
    have h64 : IntKind.i64.wrap ((i : Int) + 1) = ((i + 1 : Nat) : Int) := wrap64_id (by omega) (by omega)
    repeat' (first | refine tr_seq ?_ | refine tr_block ?_ | refine tr_skip ?_)
    first | refine reg (T := tab) tOk hnt rfl ?_ ?_ | refine regD (T := tab) tOk mixedR hnt rfl (by decide +kernel) ?_ ?_
    · rw [Int.toNat_natCast, hg, hel]
      (dsimp only [AllP]; (repeat' first | exact trivial | assumption | exact Nat.le_of_ble_eq_true rfl | apply And.intro | exact eCells_len1 _ _ ‹_› | exact eCells_isByte _ _ ‹_› | (intro hh_; have hg_ := hh_; (try simp only [condT_ff, condF_tt, notE_t, notE_f, Bool.and_eq_true, ne_eq, decide_eq_true_eq, decide_eq_false_iff_not] at hg_)) | intro _ | exact rfl | omega))
      all_goals trace_state
    rw [Int.toNat_natCast, hg]
    generalize L.getD i ex0 = y at *
    generalize foL col (L.take i) = F at hJ hF
    refine tr_le (s' := St.of [(1, .one (.e (eT col))), (4, .one (.ptr 4 0 0)), (7, .one (.ptr 7 0 0)), (8, .v (.bool nn)), (10, .one (.ptr 10 0 0)), (24, .one (.e (.sl (eExs L)))), (25, .one (.e (eI ((eExs L).length : Int)))), (26, .one (.e (eI (i : Int))))] [(4, ⟨0, .box (.es (eRg (0, 0))), 0⟩), (7, ⟨0, .box (.es (eRg (lo, hi))), 0⟩), (10, ⟨0, .box (.es [eI y.op, eI y.v.k, eI y.v.i, eQ y.v.b, eT y.v.t, eT y.n, .sl (eExs y.ar)]), 0⟩)]) (le_of (ad := []) (by refine ⟨?_, ?_, ?_, ?_, ?_, ?_, ?_, ?_, trivial⟩ <;> first | exact trivial | rfl | exact ⟨rfl, rfl⟩ | exact ⟨rfl, rfl, rfl⟩ | exact ⟨rfl, rfl, rfl, rfl⟩ | exact ⟨rfl, rfl, rfl, rfl, rfl⟩ | exact congrArg (fun z : Int => E.v (.int .i64 z)) (wrap64_id (by omega) (by omega)) | (refine ⟨rfl, ?_⟩; repeat' first | exact trivial | rfl | apply And.intro)) (memOk_box rfl rfl rfl (memOk_box rfl rfl rfl (memOk_box rfl rfl ((exAll y).trans (eEx_eq y)) trivial)))) ?_
    have hop : ([eI y.op, eI y.v.k, eI y.v.i, eQ y.v.b, eT y.v.t, eT y.n, .sl (eExs y.ar)].getD (0 + 0) E.dflt).int = y.op := rfl
    repeat' (first | refine tr_seq ?_ | refine tr_block ?_ | refine tr_skip ?_)
    first | refine reg (T := tab) tOk hnt rfl ?_ ?_ | refine regD (T := tab) tOk mixedR hnt rfl (by decide +kernel) ?_ ?_
    · (dsimp only [AllP]; (repeat' first | exact trivial | assumption | exact Nat.le_of_ble_eq_true rfl | apply And.intro | exact eCells_len1 _ _ ‹_› | exact eCells_isByte _ _ ‹_› | (intro hh_; have hg_ := hh_; (try simp only [condT_ff, condF_tt, notE_t, notE_f, Bool.and_eq_true, ne_eq, decide_eq_true_eq, decide_eq_false_iff_not] at hg_)) | intro _ | exact rfl | omega))
    repeat' (first | refine tr_seq ?_ | refine tr_block ?_ | refine tr_skip ?_)
    refine tr_cond rfl (fun hc => ?_) (fun hc => ?_)
    · simp only [condT_tt, condT_ff, condF_tt, condF_ff, notE_t, notE_f, decide_eq_true_eq, decide_eq_false_iff_not] at hc
      (try simp only [hop] at hc)
      (try simp only [condT_tt, condT_ff, condF_tt, condF_ff, notE_t, notE_f, decide_eq_true_eq, decide_eq_false_iff_not] at hc)
      have hno : cmpO y col = none := by unfold cmpO; exact if_neg (by omega)
      have hr := rg_no hno
      refine tr_exit ?_
      repeat' (first | refine tr_seq ?_ | refine reg (T := tab) tOk hnt rfl ?_ ?_ | refine regD (T := tab) tOk mixedR hnt rfl (by decide +kernel) ?_ ?_ | refine tr_block ?_ | refine tr_skip ?_)
      · (dsimp only [AllP]; (repeat' first | exact trivial | assumption | exact Nat.le_of_ble_eq_true rfl | apply And.intro | decide | intro _ | exact rfl))
      rw [h64]
      refine ⟨(i + 1, lo, hi, nn), ⟨by dsimp only; omega, by dsimp only; rw [hF, hr]; exact (Jr_step hJ rfl (fun _ _ => by dsimp only; omega) (fun _ _ => by dsimp only; omega))⟩, by dsimp only; omega, le_of (ad := []) (by refine ⟨?_, ?_, ?_, ?_, ?_, ?_, ?_, trivial⟩ <;> first | exact trivial | rfl | exact ⟨rfl, rfl⟩ | exact ⟨rfl, rfl, rfl⟩ | exact ⟨rfl, rfl, rfl, rfl⟩ | exact ⟨rfl, rfl, rfl, rfl, rfl⟩ | exact congrArg (fun z : Int => E.v (.int .i64 z)) (wrap64_id (by omega) (by omega)) | (refine ⟨rfl, ?_⟩; repeat' first | exact trivial | rfl | apply And.intro)) (memOk_box rfl rfl rfl (memOk_box rfl rfl rfl trivial))⟩
    simp only [condT_tt, condT_ff, condF_tt, condF_ff, notE_t, notE_f, decide_eq_true_eq, decide_eq_false_iff_not] at hc
    (try simp only [hop] at hc)
    (try simp only [condT_tt, condT_ff, condF_tt, condF_ff, notE_t, notE_f, decide_eq_true_eq, decide_eq_false_iff_not] at hc)
    have h9' : 9 ≤ y.op ∧ y.op ≤ 14 := by omega
    obtain ⟨a, b, ha, k1, k2⟩ := okX_two hyk (by omega)
    have ha7 := ex7 a
    have hb7 := ex7 b
    have ta7 := take_all ha7
    have tb7 := take_all hb7
    have f3 : 0 + 7 ≤ (Cs.es (eEx a)).len := by show 0 + 7 ≤ (eEx a).length; omega
    have f4 : 0 + 7 ≤ (Cs.es (eEx b)).len := by show 0 + 7 ≤ (eEx b).length; omega
    have h9 : y.op = 9 ∨ y.op = 10 ∨ y.op = 11 ∨ y.op = 12 ∨ y.op = 13 ∨ y.op = 14 := by omega
    clear hc hop
    rw [ha, show eExs [a, b] = [eEx a, eEx b] from rfl]
    rcases h9 with h | h | h | h | h | h
    · have g12 : ∀ q : List E, q = q := fun _ => rfl
      rw [h]
      repeat' (first | refine tr_seq ?_ | refine tr_block ?_ | refine tr_skip ?_)
      first | refine reg (T := tab) tOk hnt rfl ?_ ?_ | refine regD (T := tab) tOk mixedR hnt rfl (by decide +kernel) ?_ ?_
      · (dsimp only [AllP]; (repeat' first | exact trivial | assumption | exact Nat.le_of_ble_eq_true rfl | apply And.intro | exact eCells_len1 _ _ ‹_› | exact eCells_isByte _ _ ‹_› | (intro hh_; have hg_ := hh_; (try simp only [condT_ff, condF_tt, notE_t, notE_f, Bool.and_eq_true, ne_eq, decide_eq_true_eq, decide_eq_false_iff_not] at hg_)) | intro _ | exact rfl | omega))
        all_goals first | exact (show (0 : Int) < ((2 : Nat) : Int) by decide) | exact (show (1 : Int) < ((2 : Nat) : Int) by decide) | exact ha7 | exact hb7 | exact ta7 | exact tb7 | trace_state
      refine tr_le (s' := St.of [(1, .one (.e (eT col))), (4, .one (.ptr 4 0 0)), (7, .one (.ptr 7 0 0)), (8, .v (.bool nn)), (11, .one (.e (eI 9))), (12, .one (.ptr 12 0 0)), (13, .one (.ptr 13 0 0)), (24, .one (.e (.sl (eExs L)))), (25, .one (.e (eI ((eExs L).length : Int)))), (26, .one (.e (eI (i : Int))))] [(4, ⟨0, .box (.es (eRg (0, 0))), 0⟩), (7, ⟨0, .box (.es (eRg (lo, hi))), 0⟩), (12, ⟨0, .box (.es [eI a.op, eI a.v.k, eI a.v.i, eQ a.v.b, eT a.v.t, eT a.n, .sl (eExs a.ar)]), 0⟩), (13, ⟨0, .box (.es [eI b.op, eI b.v.k, eI b.v.i, eQ b.v.b, eT b.v.t, eT b.n, .sl (eExs b.ar)]), 0⟩)]) (le_of (ad := []) (by refine ⟨?_, ?_, ?_, ?_, ?_, ?_, ?_, ?_, ?_, ?_, trivial⟩ <;> first | exact trivial | rfl | exact ⟨rfl, rfl⟩ | exact ⟨rfl, rfl, rfl⟩ | exact ⟨rfl, rfl, rfl, rfl⟩ | exact ⟨rfl, rfl, rfl, rfl, rfl⟩ | exact congrArg (fun z : Int => E.v (.int .i64 z)) (wrap64_id (by omega) (by omega)) | (refine ⟨rfl, ?_⟩; repeat' first | exact trivial | rfl | apply And.intro)) (memOk_box rfl rfl rfl (memOk_box rfl rfl rfl (memOk_box rfl rfl ((exAll a).trans (eEx_eq a)) (memOk_box rfl rfl ((exAll b).trans (eEx_eq b)) trivial))))) ?_
      repeat' (first | refine tr_seq ?_ | refine tr_block ?_ | refine tr_skip ?_)
      first | refine reg (T := tab) tOk hnt rfl ?_ ?_ | refine regD (T := tab) tOk mixedR hnt rfl (by decide +kernel) ?_ ?_
      · (dsimp only [AllP]; (repeat' first | exact trivial | assumption | exact Nat.le_of_ble_eq_true rfl | apply And.intro | exact eCells_len1 _ _ ‹_› | exact eCells_isByte _ _ ‹_› | (intro hh_; have hg_ := hh_; (try simp only [condT_ff, condF_tt, notE_t, notE_f, Bool.and_eq_true, ne_eq, decide_eq_true_eq, decide_eq_false_iff_not] at hg_)) | intro _ | exact rfl | omega))
      repeat' (first | refine tr_seq ?_ | refine tr_block ?_ | refine tr_skip ?_)
      refine tr_cond rfl (fun hc => ?_) (fun hc => ?_)
      · have hne : a.op ≠ 2 := by
          have hc : (!decide (a.op = 2)) = true := hc
          intro h2
          rw [h2] at hc
          exact absurd hc (by decide)
        have hcm := cmp_right (col := col) h9' ha hne
        rw [h] at hcm
        have hcm : cmpO y col = if b.op = 2 ∧ b.n = col then (litO a).map fun n => (9, n) else none := hcm
        have hcq : b.op = 2 ∧ b.n = col → b.op = 2 ∧ b.n = col := id
        have hcq' : b.op = 2 ∧ b.n = col → (if b.op = 2 ∧ b.n = col then (litO a).map fun n => ((9 : Int), n) else none) = (litO a).map fun n => (9, n) := fun h => if_pos h
        repeat' (first | refine tr_seq ?_ | refine tr_block ?_ | refine tr_skip ?_)
        first | refine reg (T := tab) tOk hnt rfl ?_ ?_ | refine regD (T := tab) tOk mixedR hnt rfl (by decide +kernel) ?_ ?_
        · (dsimp only [AllP]; (repeat' first | exact trivial | assumption | exact Nat.le_of_ble_eq_true rfl | apply And.intro | exact eCells_len1 _ _ ‹_› | exact eCells_isByte _ _ ‹_› | (intro hh_; have hg_ := hh_; (try simp only [condT_ff, condF_tt, notE_t, notE_f, Bool.and_eq_true, ne_eq, decide_eq_true_eq, decide_eq_false_iff_not] at hg_)) | intro _ | exact rfl | omega))
          all_goals first | decide | trace_state
        refine tr_le (s' := St.of [(1, .one (.e (eT col))), (4, .one (.ptr 4 0 0)), (7, .one (.ptr 7 0 0)), (8, .v (.bool nn)), (11, .one (.e (eI 9))), (12, .one (.ptr 12 0 0)), (13, .one (.ptr 13 0 0)), (24, .one (.e (.sl (eExs L)))), (25, .one (.e (eI ((eExs L).length : Int)))), (26, .one (.e (eI (i : Int))))] [(4, ⟨0, .box (.es (eRg (0, 0))), 0⟩), (7, ⟨0, .box (.es (eRg (lo, hi))), 0⟩), (12, ⟨0, .box (.es [eI b.op, eI b.v.k, eI b.v.i, eQ b.v.b, eT b.v.t, eT b.n, .sl (eExs b.ar)]), 0⟩), (13, ⟨0, .box (.es [eI a.op, eI a.v.k, eI a.v.i, eQ a.v.b, eT a.v.t, eT a.n, .sl (eExs a.ar)]), 0⟩)]) (le_of (ad := []) (by refine ⟨?_, ?_, ?_, ?_, ?_, ?_, ?_, ?_, ?_, ?_, trivial⟩ <;> first | exact trivial | rfl | exact ⟨rfl, rfl⟩ | exact ⟨rfl, rfl, rfl⟩ | exact ⟨rfl, rfl, rfl, rfl⟩ | exact ⟨rfl, rfl, rfl, rfl, rfl⟩ | exact congrArg (fun z : Int => E.v (.int .i64 z)) (wrap64_id (by omega) (by omega)) | (refine ⟨rfl, ?_⟩; repeat' first | exact trivial | rfl | apply And.intro)) (memOk_box rfl rfl rfl (memOk_box rfl rfl rfl (memOk_box rfl rfl rfl (memOk_box rfl rfl rfl trivial))))) ?_
        have hlit := litNumber_fn a k1
        rw [eEx_eq] at hlit
        repeat' (first | refine tr_seq ?_ | refine tr_block ?_ | refine tr_skip ?_)
        refine tr_region (lex (T := tab) tOk hnt rfl ?_ (call rfl rfl rfl rfl rfl rfl rfl hnt (hlit) (lex (T := tab) tOk hnt rfl ?_ (Lex.nil _)))) ?_
        · (dsimp only [AllP]; (repeat' first | exact trivial | assumption | exact Nat.le_of_ble_eq_true rfl | apply And.intro | exact eCells_len1 _ _ ‹_› | exact eCells_isByte _ _ ‹_› | (intro hh_; have hg_ := hh_; (try simp only [condT_ff, condF_tt, notE_t, notE_f, Bool.and_eq_true, ne_eq, decide_eq_true_eq, decide_eq_false_iff_not] at hg_)) | intro _ | exact rfl | omega))
        · (dsimp only [AllP]; (repeat' first | exact trivial | assumption | exact Nat.le_of_ble_eq_true rfl | apply And.intro | decide | intro _ | exact rfl))
        repeat' (first | refine tr_seq ?_ | refine tr_block ?_ | refine tr_skip ?_)
        first | refine reg (T := tab) tOk hnt rfl ?_ ?_ | refine regD (T := tab) tOk mixedR hnt rfl (by decide +kernel) ?_ ?_
        · (dsimp only [AllP]; (repeat' first | exact trivial | assumption | exact Nat.le_of_ble_eq_true rfl | apply And.intro | exact eCells_len1 _ _ ‹_› | exact eCells_isByte _ _ ‹_› | (intro hh_; have hg_ := hh_; (try simp only [condT_ff, condF_tt, notE_t, notE_f, Bool.and_eq_true, ne_eq, decide_eq_true_eq, decide_eq_false_iff_not] at hg_)) | intro _ | exact rfl | omega))
        have hcv : (bif bif !(litD a).2 then true else !decide (b.op = 2) then true else !strEq (strB b.n) (strB col)) = decide (¬ ((litD a).2 = true ∧ b.op = 2 ∧ b.n = col)) := by
          rw [strEq_B]
          cases (litD a).2 <;> by_cases h1 : b.op = 2 <;> by_cases h2 : b.n = col <;> simp [h1, h2]
        repeat' (first | refine tr_seq ?_ | refine tr_block ?_ | refine tr_skip ?_)
        refine tr_cond rfl (fun hc => ?_) (fun hc => ?_)
        · have hc : (bif bif !(litD a).2 then true else !decide (b.op = 2) then true else !strEq (strB b.n) (strB col)) = true := hc
          rw [hcv] at hc
          have hc := of_decide_eq_true hc
          have hno : cmpO y col = none := by
            rw [hcm]
            split
            · rename_i hq
              cases hl : litO a with
              | none => rfl
              | some m => exact absurd ⟨by unfold litD; rw [hl]; rfl, hcq hq⟩ hc
            · rfl
          have hr := rg_no hno
          refine tr_exit ?_
          repeat' (first | refine tr_seq ?_ | refine reg (T := tab) tOk hnt rfl ?_ ?_ | refine regD (T := tab) tOk mixedR hnt rfl (by decide +kernel) ?_ ?_ | refine tr_block ?_ | refine tr_skip ?_)
          · (dsimp only [AllP]; (repeat' first | exact trivial | assumption | exact Nat.le_of_ble_eq_true rfl | apply And.intro | decide | intro _ | exact rfl))
          rw [h64]
          refine ⟨(i + 1, lo, hi, nn), ⟨by dsimp only; omega, by dsimp only; rw [hF, hr]; exact (Jr_step hJ rfl (fun _ _ => by dsimp only; omega) (fun _ _ => by dsimp only; omega))⟩, by dsimp only; omega, le_of (ad := []) (by refine ⟨?_, ?_, ?_, ?_, ?_, ?_, ?_, trivial⟩ <;> first | exact trivial | rfl | exact ⟨rfl, rfl⟩ | exact ⟨rfl, rfl, rfl⟩ | exact ⟨rfl, rfl, rfl, rfl⟩ | exact ⟨rfl, rfl, rfl, rfl, rfl⟩ | exact congrArg (fun z : Int => E.v (.int .i64 z)) (wrap64_id (by omega) (by omega)) | (refine ⟨rfl, ?_⟩; repeat' first | exact trivial | rfl | apply And.intro)) (memOk_box rfl rfl rfl (memOk_box rfl rfl rfl trivial))⟩
        have hc : (bif bif !(litD a).2 then true else !decide (b.op = 2) then true else !strEq (strB b.n) (strB col)) = false := hc
        rw [hcv] at hc
        have hc := Classical.not_not.1 (of_decide_eq_false hc)
        obtain ⟨n, hl⟩ : ∃ n, litO a = some n := by
          cases hl : litO a with
          | none =>
            have h0 : (litD a).2 = true := hc.1
            unfold litD at h0
            rw [hl] at h0
            exact absurd h0 Bool.false_ne_true
          | some m => exact ⟨m, rfl⟩
        have hld : litD a = (n, true) := by unfold litD; rw [hl]; rfl
        have hnr := litO_rng k1 hl
        rw [hcq' hc.2, hl] at hcm
        have hr := rg_cmp hcm
        rw [hld]
        clear hlit hcv hc hcm hcq hcq' hld hl
        have hr : rgO col y = (n, n) := by rw [hr]; simp [bdF]
        repeat' (first | refine tr_seq ?_ | refine reg (T := tab) tOk hnt rfl ?_ ?_ | refine regD (T := tab) tOk mixedR hnt rfl (by decide +kernel) ?_ ?_ | refine tr_block ?_ | refine tr_skip ?_)
        · (dsimp only [AllP]; (repeat' first | exact trivial | assumption | exact Nat.le_of_ble_eq_true rfl | apply And.intro | decide | intro _ | exact rfl))
        repeat' (first | refine tr_seq ?_ | refine tr_block ?_ | refine tr_skip ?_)
        refine tr_cond rfl (fun hc => ?_) (fun hc => ?_)
        · repeat' (first | refine tr_seq ?_ | refine reg (T := tab) tOk hnt rfl ?_ ?_ | refine regD (T := tab) tOk mixedR hnt rfl (by decide +kernel) ?_ ?_ | refine tr_block ?_ | refine tr_skip ?_)
          · (dsimp only [AllP]; (repeat' first | exact trivial | assumption | exact Nat.le_of_ble_eq_true rfl | apply And.intro | decide | intro _ | exact rfl))
          · (dsimp only [AllP]; (repeat' first | exact trivial | assumption | exact Nat.le_of_ble_eq_true rfl | apply And.intro | decide | intro _ | exact rfl))
          repeat' (first | refine tr_seq ?_ | refine tr_block ?_ | refine tr_skip ?_)
          refine tr_cond rfl (fun hc => ?_) (fun hc => ?_)
          · exact absurd (show false = true from hc) (by decide)
          repeat' (first | refine tr_seq ?_ | refine reg (T := tab) tOk hnt rfl ?_ ?_ | refine regD (T := tab) tOk mixedR hnt rfl (by decide +kernel) ?_ ?_ | refine tr_block ?_ | refine tr_skip ?_)
          · (dsimp only [AllP]; (repeat' first | exact trivial | assumption | exact Nat.le_of_ble_eq_true rfl | apply And.intro | decide | intro _ | exact rfl))
          · (dsimp only [AllP]; (repeat' first | exact trivial | assumption | exact Nat.le_of_ble_eq_true rfl | apply And.intro | decide | intro _ | exact rfl))
          repeat' (first | refine tr_seq ?_ | refine tr_block ?_ | refine tr_skip ?_)
          refine tr_cond rfl (fun hc => ?_) (fun hc => ?_)
          · repeat' (first | refine tr_seq ?_ | refine reg (T := tab) tOk hnt rfl ?_ ?_ | refine regD (T := tab) tOk mixedR hnt rfl (by decide +kernel) ?_ ?_ | refine tr_block ?_ | refine tr_skip ?_)
            · (dsimp only [AllP]; (repeat' first | exact trivial | assumption | exact Nat.le_of_ble_eq_true rfl | apply And.intro | decide | intro _ | exact rfl))
            · (dsimp only [AllP]; (repeat' first | exact trivial | assumption | exact Nat.le_of_ble_eq_true rfl | apply And.intro | decide | intro _ | exact rfl))
            repeat' (first | refine tr_seq ?_ | refine tr_block ?_ | refine tr_skip ?_)
            refine tr_cond rfl (fun hc => ?_) (fun hc => ?_)
            · exact absurd (show false = true from hc) (by decide)
            repeat' (first | refine tr_seq ?_ | refine reg (T := tab) tOk hnt rfl ?_ ?_ | refine regD (T := tab) tOk mixedR hnt rfl (by decide +kernel) ?_ ?_ | refine tr_block ?_ | refine tr_skip ?_)
            · (dsimp only [AllP]; (repeat' first | exact trivial | assumption | exact Nat.le_of_ble_eq_true rfl | apply And.intro | decide | intro _ | exact rfl))
            rw [h64]
            refine ⟨(i + 1, (if lo < n then n else lo), (if n < hi then n else hi), (bif nn then true else (bif decide ((9 : Int) = 13) then decide (n = 9223372036854775807) else false))), ⟨by dsimp only; omega, by dsimp only; rw [hF, hr]; exact (Jr_step hJ (by cases nn <;> rfl) (fun _ _ => by dsimp only; split <;> omega) (fun _ _ => by dsimp only; split <;> omega))⟩, by dsimp only; omega, le_of (ad := []) (by refine ⟨?_, ?_, ?_, ?_, ?_, ?_, ?_, trivial⟩ <;> first | exact trivial | rfl | exact ⟨rfl, rfl⟩ | exact ⟨rfl, rfl, rfl⟩ | exact ⟨rfl, rfl, rfl, rfl⟩ | exact ⟨rfl, rfl, rfl, rfl, rfl⟩ | exact congrArg (fun z : Int => E.v (.int .i64 z)) (wrap64_id (by omega) (by omega)) | (refine ⟨rfl, ?_⟩; repeat' first | exact trivial | rfl | apply And.intro)) (memOk_box rfl rfl rfl (memOk_box rfl rfl rfl trivial))⟩
          exact absurd (show true = false from hc) (by decide)
        exact absurd (show true = false from hc) (by decide)
      have heq : a.op = 2 := by
        have hc : (!decide (a.op = 2)) = false := hc
        by_cases h2 : a.op = 2
        · exact h2
        · rw [decide_eq_false h2] at hc; exact absurd hc (by decide)
      have hcm := cmp_left (col := col) h9' ha heq
      rw [h] at hcm
      have hcq : a.n = col → a.op = 2 ∧ a.n = col := fun hq => ⟨heq, hq⟩
      have hcq' : a.op = 2 ∧ a.n = col → (if a.n = col then (litO b).map fun n => ((9 : Int), n) else none) = (litO b).map fun n => (9, n) := fun h => if_pos h.2
      have hlit := litNumber_fn b k2
      rw [eEx_eq] at hlit
      repeat' (first | refine tr_seq ?_ | refine tr_block ?_ | refine tr_skip ?_)
      refine tr_region (lex (T := tab) tOk hnt rfl ?_ (call rfl rfl rfl rfl rfl rfl rfl hnt (hlit) (lex (T := tab) tOk hnt rfl ?_ (Lex.nil _)))) ?_
      · (dsimp only [AllP]; (repeat' first | exact trivial | assumption | exact Nat.le_of_ble_eq_true rfl | apply And.intro | exact eCells_len1 _ _ ‹_› | exact eCells_isByte _ _ ‹_› | (intro hh_; have hg_ := hh_; (try simp only [condT_ff, condF_tt, notE_t, notE_f, Bool.and_eq_true, ne_eq, decide_eq_true_eq, decide_eq_false_iff_not] at hg_)) | intro _ | exact rfl | omega))
      · (dsimp only [AllP]; (repeat' first | exact trivial | assumption | exact Nat.le_of_ble_eq_true rfl | apply And.intro | decide | intro _ | exact rfl))
      repeat' (first | refine tr_seq ?_ | refine tr_block ?_ | refine tr_skip ?_)
      first | refine reg (T := tab) tOk hnt rfl ?_ ?_ | refine regD (T := tab) tOk mixedR hnt rfl (by decide +kernel) ?_ ?_
      · (dsimp only [AllP]; (repeat' first | exact trivial | assumption | exact Nat.le_of_ble_eq_true rfl | apply And.intro | exact eCells_len1 _ _ ‹_› | exact eCells_isByte _ _ ‹_› | (intro hh_; have hg_ := hh_; (try simp only [condT_ff, condF_tt, notE_t, notE_f, Bool.and_eq_true, ne_eq, decide_eq_true_eq, decide_eq_false_iff_not] at hg_)) | intro _ | exact rfl | omega))
      have hcv : (bif bif !(litD b).2 then true else !decide (a.op = 2) then true else !strEq (strB a.n) (strB col)) = decide (¬ ((litD b).2 = true ∧ a.op = 2 ∧ a.n = col)) := by
        rw [strEq_B]
        cases (litD b).2 <;> by_cases h1 : a.op = 2 <;> by_cases h2 : a.n = col <;> simp [h1, h2]
      repeat' (first | refine tr_seq ?_ | refine tr_block ?_ | refine tr_skip ?_)
      refine tr_cond rfl (fun hc => ?_) (fun hc => ?_)
      · have hc : (bif bif !(litD b).2 then true else !decide (a.op = 2) then true else !strEq (strB a.n) (strB col)) = true := hc
        rw [hcv] at hc
        have hc := of_decide_eq_true hc
        have hno : cmpO y col = none := by
          rw [hcm]
          split
          · rename_i hq
            cases hl : litO b with
            | none => rfl
            | some m => exact absurd ⟨by unfold litD; rw [hl]; rfl, hcq hq⟩ hc
          · rfl
        have hr := rg_no hno
        refine tr_exit ?_
        repeat' (first | refine tr_seq ?_ | refine reg (T := tab) tOk hnt rfl ?_ ?_ | refine regD (T := tab) tOk mixedR hnt rfl (by decide +kernel) ?_ ?_ | refine tr_block ?_ | refine tr_skip ?_)
        · (dsimp only [AllP]; (repeat' first | exact trivial | assumption | exact Nat.le_of_ble_eq_true rfl | apply And.intro | decide | intro _ | exact rfl))
        rw [h64]
        refine ⟨(i + 1, lo, hi, nn), ⟨by dsimp only; omega, by dsimp only; rw [hF, hr]; exact (Jr_step hJ rfl (fun _ _ => by dsimp only; omega) (fun _ _ => by dsimp only; omega))⟩, by dsimp only; omega, le_of (ad := []) (by refine ⟨?_, ?_, ?_, ?_, ?_, ?_, ?_, trivial⟩ <;> first | exact trivial | rfl | exact ⟨rfl, rfl⟩ | exact ⟨rfl, rfl, rfl⟩ | exact ⟨rfl, rfl, rfl, rfl⟩ | exact ⟨rfl, rfl, rfl, rfl, rfl⟩ | exact congrArg (fun z : Int => E.v (.int .i64 z)) (wrap64_id (by omega) (by omega)) | (refine ⟨rfl, ?_⟩; repeat' first | exact trivial | rfl | apply And.intro)) (memOk_box rfl rfl rfl (memOk_box rfl rfl rfl trivial))⟩
      have hc : (bif bif !(litD b).2 then true else !decide (a.op = 2) then true else !strEq (strB a.n) (strB col)) = false := hc
      rw [hcv] at hc
      have hc := Classical.not_not.1 (of_decide_eq_false hc)
      obtain ⟨n, hl⟩ : ∃ n, litO b = some n := by
        cases hl : litO b with
        | none =>
          have h0 : (litD b).2 = true := hc.1
          unfold litD at h0
          rw [hl] at h0
          exact absurd h0 Bool.false_ne_true
        | some m => exact ⟨m, rfl⟩
      have hld : litD b = (n, true) := by unfold litD; rw [hl]; rfl
      have hnr := litO_rng k2 hl
      rw [hcq' hc.2, hl] at hcm
      have hr := rg_cmp hcm
      rw [hld]
      clear hlit hcv hc hcm hcq hcq' hld hl
      have hr : rgO col y = (n, n) := by rw [hr]; simp [bdF]
      repeat' (first | refine tr_seq ?_ | refine reg (T := tab) tOk hnt rfl ?_ ?_ | refine regD (T := tab) tOk mixedR hnt rfl (by decide +kernel) ?_ ?_ | refine tr_block ?_ | refine tr_skip ?_)
      · (dsimp only [AllP]; (repeat' first | exact trivial | assumption | exact Nat.le_of_ble_eq_true rfl | apply And.intro | decide | intro _ | exact rfl))
      repeat' (first | refine tr_seq ?_ | refine tr_block ?_ | refine tr_skip ?_)
      refine tr_cond rfl (fun hc => ?_) (fun hc => ?_)
      · repeat' (first | refine tr_seq ?_ | refine reg (T := tab) tOk hnt rfl ?_ ?_ | refine regD (T := tab) tOk mixedR hnt rfl (by decide +kernel) ?_ ?_ | refine tr_block ?_ | refine tr_skip ?_)
        · (dsimp only [AllP]; (repeat' first | exact trivial | assumption | exact Nat.le_of_ble_eq_true rfl | apply And.intro | decide | intro _ | exact rfl))
        · (dsimp only [AllP]; (repeat' first | exact trivial | assumption | exact Nat.le_of_ble_eq_true rfl | apply And.intro | decide | intro _ | exact rfl))
        repeat' (first | refine tr_seq ?_ | refine tr_block ?_ | refine tr_skip ?_)
        refine tr_cond rfl (fun hc => ?_) (fun hc => ?_)
        · exact absurd (show false = true from hc) (by decide)
        repeat' (first | refine tr_seq ?_ | refine reg (T := tab) tOk hnt rfl ?_ ?_ | refine regD (T := tab) tOk mixedR hnt rfl (by decide +kernel) ?_ ?_ | refine tr_block ?_ | refine tr_skip ?_)
        · (dsimp only [AllP]; (repeat' first | exact trivial | assumption | exact Nat.le_of_ble_eq_true rfl | apply And.intro | decide | intro _ | exact rfl))
        · (dsimp only [AllP]; (repeat' first | exact trivial | assumption | exact Nat.le_of_ble_eq_true rfl | apply And.intro | decide | intro _ | exact rfl))
        repeat' (first | refine tr_seq ?_ | refine tr_block ?_ | refine tr_skip ?_)
        refine tr_cond rfl (fun hc => ?_) (fun hc => ?_)
        · repeat' (first | refine tr_seq ?_ | refine reg (T := tab) tOk hnt rfl ?_ ?_ | refine regD (T := tab) tOk mixedR hnt rfl (by decide +kernel) ?_ ?_ | refine tr_block ?_ | refine tr_skip ?_)
          · (dsimp only [AllP]; (repeat' first | exact trivial | assumption | exact Nat.le_of_ble_eq_true rfl | apply And.intro | decide | intro _ | exact rfl))
          · (dsimp only [AllP]; (repeat' first | exact trivial | assumption | exact Nat.le_of_ble_eq_true rfl | apply And.intro | decide | intro _ | exact rfl))
          repeat' (first | refine tr_seq ?_ | refine tr_block ?_ | refine tr_skip ?_)
          refine tr_cond rfl (fun hc => ?_) (fun hc => ?_)
          · exact absurd (show false = true from hc) (by decide)
          repeat' (first | refine tr_seq ?_ | refine reg (T := tab) tOk hnt rfl ?_ ?_ | refine regD (T := tab) tOk mixedR hnt rfl (by decide +kernel) ?_ ?_ | refine tr_block ?_ | refine tr_skip ?_)
          · (dsimp only [AllP]; (repeat' first | exact trivial | assumption | exact Nat.le_of_ble_eq_true rfl | apply And.intro | decide | intro _ | exact rfl))
          rw [h64]
          refine ⟨(i + 1, (if lo < n then n else lo), (if n < hi then n else hi), (bif nn then true else (bif decide ((9 : Int) = 13) then decide (n = 9223372036854775807) else false))), ⟨by dsimp only; omega, by dsimp only; rw [hF, hr]; exact (Jr_step hJ (by cases nn <;> rfl) (fun _ _ => by dsimp only; split <;> omega) (fun _ _ => by dsimp only; split <;> omega))⟩, by dsimp only; omega, le_of (ad := []) (by refine ⟨?_, ?_, ?_, ?_, ?_, ?_, ?_, trivial⟩ <;> first | exact trivial | rfl | exact ⟨rfl, rfl⟩ | exact ⟨rfl, rfl, rfl⟩ | exact ⟨rfl, rfl, rfl, rfl⟩ | exact ⟨rfl, rfl, rfl, rfl, rfl⟩ | exact congrArg (fun z : Int => E.v (.int .i64 z)) (wrap64_id (by omega) (by omega)) | (refine ⟨rfl, ?_⟩; repeat' first | exact trivial | rfl | apply And.intro)) (memOk_box rfl rfl rfl (memOk_box rfl rfl rfl trivial))⟩
        exact absurd (show true = false from hc) (by decide)
      exact absurd (show true = false from hc) (by decide)
    · have g12 : ∀ q : List E, q = q := fun _ => rfl
      rw [h]
      repeat' (first | refine tr_seq ?_ | refine tr_block ?_ | refine tr_skip ?_)
      first | refine reg (T := tab) tOk hnt rfl ?_ ?_ | refine regD (T := tab) tOk mixedR hnt rfl (by decide +kernel) ?_ ?_
      · (dsimp only [AllP]; (repeat' first | exact trivial | assumption | exact Nat.le_of_ble_eq_true rfl | apply And.intro | exact eCells_len1 _ _ ‹_› | exact eCells_isByte _ _ ‹_› | (intro hh_; have hg_ := hh_; (try simp only [condT_ff, condF_tt, notE_t, notE_f, Bool.and_eq_true, ne_eq, decide_eq_true_eq, decide_eq_false_iff_not] at hg_)) | intro _ | exact rfl | omega))
        all_goals first | exact (show (0 : Int) < ((2 : Nat) : Int) by decide) | exact (show (1 : Int) < ((2 : Nat) : Int) by decide) | exact ha7 | exact hb7 | exact ta7 | exact tb7 | trace_state
      refine tr_le (s' := St.of [(1, .one (.e (eT col))), (4, .one (.ptr 4 0 0)), (7, .one (.ptr 7 0 0)), (8, .v (.bool nn)), (11, .one (.e (eI 10))), (12, .one (.ptr 12 0 0)), (13, .one (.ptr 13 0 0)), (24, .one (.e (.sl (eExs L)))), (25, .one (.e (eI ((eExs L).length : Int)))), (26, .one (.e (eI (i : Int))))] [(4, ⟨0, .box (.es (eRg (0, 0))), 0⟩), (7, ⟨0, .box (.es (eRg (lo, hi))), 0⟩), (12, ⟨0, .box (.es [eI a.op, eI a.v.k, eI a.v.i, eQ a.v.b, eT a.v.t, eT a.n, .sl (eExs a.ar)]), 0⟩), (13, ⟨0, .box (.es [eI b.op, eI b.v.k, eI b.v.i, eQ b.v.b, eT b.v.t, eT b.n, .sl (eExs b.ar)]), 0⟩)]) (le_of (ad := []) (by refine ⟨?_, ?_, ?_, ?_, ?_, ?_, ?_, ?_, ?_, ?_, trivial⟩ <;> first | exact trivial | rfl | exact ⟨rfl, rfl⟩ | exact ⟨rfl, rfl, rfl⟩ | exact ⟨rfl, rfl, rfl, rfl⟩ | exact ⟨rfl, rfl, rfl, rfl, rfl⟩ | exact congrArg (fun z : Int => E.v (.int .i64 z)) (wrap64_id (by omega) (by omega)) | (refine ⟨rfl, ?_⟩; repeat' first | exact trivial | rfl | apply And.intro)) (memOk_box rfl rfl rfl (memOk_box rfl rfl rfl (memOk_box rfl rfl ((exAll a).trans (eEx_eq a)) (memOk_box rfl rfl ((exAll b).trans (eEx_eq b)) trivial))))) ?_
      repeat' (first | refine tr_seq ?_ | refine tr_block ?_ | refine tr_skip ?_)
      first | refine reg (T := tab) tOk hnt rfl ?_ ?_ | refine regD (T := tab) tOk mixedR hnt rfl (by decide +kernel) ?_ ?_
      · (dsimp only [AllP]; (repeat' first | exact trivial | assumption | exact Nat.le_of_ble_eq_true rfl | apply And.intro | exact eCells_len1 _ _ ‹_› | exact eCells_isByte _ _ ‹_› | (intro hh_; have hg_ := hh_; (try simp only [condT_ff, condF_tt, notE_t, notE_f, Bool.and_eq_true, ne_eq, decide_eq_true_eq, decide_eq_false_iff_not] at hg_)) | intro _ | exact rfl | omega))
      repeat' (first | refine tr_seq ?_ | refine tr_block ?_ | refine tr_skip ?_)
      refine tr_cond rfl (fun hc => ?_) (fun hc => ?_)
      · have hne : a.op ≠ 2 := by
          have hc : (!decide (a.op = 2)) = true := hc
          intro h2
          rw [h2] at hc
          exact absurd hc (by decide)
        have hcm := cmp_right (col := col) h9' ha hne
        rw [h] at hcm
        have hcm : cmpO y col = if b.op = 2 ∧ b.n = col then (litO a).map fun n => (10, n) else none := hcm
        have hcq : b.op = 2 ∧ b.n = col → b.op = 2 ∧ b.n = col := id
        have hcq' : b.op = 2 ∧ b.n = col → (if b.op = 2 ∧ b.n = col then (litO a).map fun n => ((10 : Int), n) else none) = (litO a).map fun n => (10, n) := fun h => if_pos h
        repeat' (first | refine tr_seq ?_ | refine tr_block ?_ | refine tr_skip ?_)
        first | refine reg (T := tab) tOk hnt rfl ?_ ?_ | refine regD (T := tab) tOk mixedR hnt rfl (by decide +kernel) ?_ ?_
        · (dsimp only [AllP]; (repeat' first | exact trivial | assumption | exact Nat.le_of_ble_eq_true rfl | apply And.intro | exact eCells_len1 _ _ ‹_› | exact eCells_isByte _ _ ‹_› | (intro hh_; have hg_ := hh_; (try simp only [condT_ff, condF_tt, notE_t, notE_f, Bool.and_eq_true, ne_eq, decide_eq_true_eq, decide_eq_false_iff_not] at hg_)) | intro _ | exact rfl | omega))
          all_goals first | decide | trace_state
        refine tr_le (s' := St.of [(1, .one (.e (eT col))), (4, .one (.ptr 4 0 0)), (7, .one (.ptr 7 0 0)), (8, .v (.bool nn)), (11, .one (.e (eI 10))), (12, .one (.ptr 12 0 0)), (13, .one (.ptr 13 0 0)), (24, .one (.e (.sl (eExs L)))), (25, .one (.e (eI ((eExs L).length : Int)))), (26, .one (.e (eI (i : Int))))] [(4, ⟨0, .box (.es (eRg (0, 0))), 0⟩), (7, ⟨0, .box (.es (eRg (lo, hi))), 0⟩), (12, ⟨0, .box (.es [eI b.op, eI b.v.k, eI b.v.i, eQ b.v.b, eT b.v.t, eT b.n, .sl (eExs b.ar)]), 0⟩), (13, ⟨0, .box (.es [eI a.op, eI a.v.k, eI a.v.i, eQ a.v.b, eT a.v.t, eT a.n, .sl (eExs a.ar)]), 0⟩)]) (le_of (ad := []) (by refine ⟨?_, ?_, ?_, ?_, ?_, ?_, ?_, ?_, ?_, ?_, trivial⟩ <;> first | exact trivial | rfl | exact ⟨rfl, rfl⟩ | exact ⟨rfl, rfl, rfl⟩ | exact ⟨rfl, rfl, rfl, rfl⟩ | exact ⟨rfl, rfl, rfl, rfl, rfl⟩ | exact congrArg (fun z : Int => E.v (.int .i64 z)) (wrap64_id (by omega) (by omega)) | (refine ⟨rfl, ?_⟩; repeat' first | exact trivial | rfl | apply And.intro)) (memOk_box rfl rfl rfl (memOk_box rfl rfl rfl (memOk_box rfl rfl rfl (memOk_box rfl rfl rfl trivial))))) ?_
        have hlit := litNumber_fn a k1
        rw [eEx_eq] at hlit
        repeat' (first | refine tr_seq ?_ | refine tr_block ?_ | refine tr_skip ?_)
        refine tr_region (lex (T := tab) tOk hnt rfl ?_ (call rfl rfl rfl rfl rfl rfl rfl hnt (hlit) (lex (T := tab) tOk hnt rfl ?_ (Lex.nil _)))) ?_
        · (dsimp only [AllP]; (repeat' first | exact trivial | assumption | exact Nat.le_of_ble_eq_true rfl | apply And.intro | exact eCells_len1 _ _ ‹_› | exact eCells_isByte _ _ ‹_› | (intro hh_; have hg_ := hh_; (try simp only [condT_ff, condF_tt, notE_t, notE_f, Bool.and_eq_true, ne_eq, decide_eq_true_eq, decide_eq_false_iff_not] at hg_)) | intro _ | exact rfl | omega))
        · (dsimp only [AllP]; (repeat' first | exact trivial | assumption | exact Nat.le_of_ble_eq_true rfl | apply And.intro | decide | intro _ | exact rfl))
        repeat' (first | refine tr_seq ?_ | refine tr_block ?_ | refine tr_skip ?_)
        first | refine reg (T := tab) tOk hnt rfl ?_ ?_ | refine regD (T := tab) tOk mixedR hnt rfl (by decide +kernel) ?_ ?_
        · (dsimp only [AllP]; (repeat' first | exact trivial | assumption | exact Nat.le_of_ble_eq_true rfl | apply And.intro | exact eCells_len1 _ _ ‹_› | exact eCells_isByte _ _ ‹_› | (intro hh_; have hg_ := hh_; (try simp only [condT_ff, condF_tt, notE_t, notE_f, Bool.and_eq_true, ne_eq, decide_eq_true_eq, decide_eq_false_iff_not] at hg_)) | intro _ | exact rfl | omega))
        have hcv : (bif bif !(litD a).2 then true else !decide (b.op = 2) then true else !strEq (strB b.n) (strB col)) = decide (¬ ((litD a).2 = true ∧ b.op = 2 ∧ b.n = col)) := by
          rw [strEq_B]
          cases (litD a).2 <;> by_cases h1 : b.op = 2 <;> by_cases h2 : b.n = col <;> simp [h1, h2]
        repeat' (first | refine tr_seq ?_ | refine tr_block ?_ | refine tr_skip ?_)
        refine tr_cond rfl (fun hc => ?_) (fun hc => ?_)
        · have hc : (bif bif !(litD a).2 then true else !decide (b.op = 2) then true else !strEq (strB b.n) (strB col)) = true := hc
          rw [hcv] at hc
          have hc := of_decide_eq_true hc
          have hno : cmpO y col = none := by
            rw [hcm]
            split
            · rename_i hq
              cases hl : litO a with
              | none => rfl
              | some m => exact absurd ⟨by unfold litD; rw [hl]; rfl, hcq hq⟩ hc
            · rfl
          have hr := rg_no hno
          refine tr_exit ?_
          repeat' (first | refine tr_seq ?_ | refine reg (T := tab) tOk hnt rfl ?_ ?_ | refine regD (T := tab) tOk mixedR hnt rfl (by decide +kernel) ?_ ?_ | refine tr_block ?_ | refine tr_skip ?_)
          · (dsimp only [AllP]; (repeat' first | exact trivial | assumption | exact Nat.le_of_ble_eq_true rfl | apply And.intro | decide | intro _ | exact rfl))
          rw [h64]
          refine ⟨(i + 1, lo, hi, nn), ⟨by dsimp only; omega, by dsimp only; rw [hF, hr]; exact (Jr_step hJ rfl (fun _ _ => by dsimp only; omega) (fun _ _ => by dsimp only; omega))⟩, by dsimp only; omega, le_of (ad := []) (by refine ⟨?_, ?_, ?_, ?_, ?_, ?_, ?_, trivial⟩ <;> first | exact trivial | rfl | exact ⟨rfl, rfl⟩ | exact ⟨rfl, rfl, rfl⟩ | exact ⟨rfl, rfl, rfl, rfl⟩ | exact ⟨rfl, rfl, rfl, rfl, rfl⟩ | exact congrArg (fun z : Int => E.v (.int .i64 z)) (wrap64_id (by omega) (by omega)) | (refine ⟨rfl, ?_⟩; repeat' first | exact trivial | rfl | apply And.intro)) (memOk_box rfl rfl rfl (memOk_box rfl rfl rfl trivial))⟩
        have hc : (bif bif !(litD a).2 then true else !decide (b.op = 2) then true else !strEq (strB b.n) (strB col)) = false := hc
        rw [hcv] at hc
        have hc := Classical.not_not.1 (of_decide_eq_false hc)
        obtain ⟨n, hl⟩ : ∃ n, litO a = some n := by
          cases hl : litO a with
          | none =>
            have h0 : (litD a).2 = true := hc.1
            unfold litD at h0
            rw [hl] at h0
            exact absurd h0 Bool.false_ne_true
          | some m => exact ⟨m, rfl⟩
        have hld : litD a = (n, true) := by unfold litD; rw [hl]; rfl
        have hnr := litO_rng k1 hl
        rw [hcq' hc.2, hl] at hcm
        have hr := rg_cmp hcm
        rw [hld]
        clear hlit hcv hc hcm hcq hcq' hld hl
        have hr : rgO col y = (loI, hiI) := by rw [hr]; simp [bdF]
        repeat' (first | refine tr_seq ?_ | refine reg (T := tab) tOk hnt rfl ?_ ?_ | refine regD (T := tab) tOk mixedR hnt rfl (by decide +kernel) ?_ ?_ | refine tr_block ?_ | refine tr_skip ?_)
        · (dsimp only [AllP]; (repeat' first | exact trivial | assumption | exact Nat.le_of_ble_eq_true rfl | apply And.intro | decide | intro _ | exact rfl))
        repeat' (first | refine tr_seq ?_ | refine tr_block ?_ | refine tr_skip ?_)
        refine tr_cond rfl (fun hc => ?_) (fun hc => ?_)
        · exact absurd (show false = true from hc) (by decide)
        repeat' (first | refine tr_seq ?_ | refine reg (T := tab) tOk hnt rfl ?_ ?_ | refine regD (T := tab) tOk mixedR hnt rfl (by decide +kernel) ?_ ?_ | refine tr_block ?_ | refine tr_skip ?_)
        · (dsimp only [AllP]; (repeat' first | exact trivial | assumption | exact Nat.le_of_ble_eq_true rfl | apply And.intro | decide | intro _ | exact rfl))
        repeat' (first | refine tr_seq ?_ | refine tr_block ?_ | refine tr_skip ?_)
        refine tr_cond rfl (fun hc => ?_) (fun hc => ?_)
        · exact absurd (show false = true from hc) (by decide)
        repeat' (first | refine tr_seq ?_ | refine reg (T := tab) tOk hnt rfl ?_ ?_ | refine regD (T := tab) tOk mixedR hnt rfl (by decide +kernel) ?_ ?_ | refine tr_block ?_ | refine tr_skip ?_)
        · (dsimp only [AllP]; (repeat' first | exact trivial | assumption | exact Nat.le_of_ble_eq_true rfl | apply And.intro | decide | intro _ | exact rfl))
        repeat' (first | refine tr_seq ?_ | refine tr_block ?_ | refine tr_skip ?_)
        refine tr_cond rfl (fun hc => ?_) (fun hc => ?_)
        · exact absurd (show false = true from hc) (by decide)
        repeat' (first | refine tr_seq ?_ | refine reg (T := tab) tOk hnt rfl ?_ ?_ | refine regD (T := tab) tOk mixedR hnt rfl (by decide +kernel) ?_ ?_ | refine tr_block ?_ | refine tr_skip ?_)
        · (dsimp only [AllP]; (repeat' first | exact trivial | assumption | exact Nat.le_of_ble_eq_true rfl | apply And.intro | decide | intro _ | exact rfl))
        rw [h64]
        refine ⟨(i + 1, lo, hi, nn), ⟨by dsimp only; omega, by dsimp only; rw [hF, hr]; exact (Jr_step hJ rfl (fun _ _ => by dsimp only; omega) (fun _ _ => by dsimp only; omega))⟩, by dsimp only; omega, le_of (ad := []) (by refine ⟨?_, ?_, ?_, ?_, ?_, ?_, ?_, trivial⟩ <;> first | exact trivial | rfl | exact ⟨rfl, rfl⟩ | exact ⟨rfl, rfl, rfl⟩ | exact ⟨rfl, rfl, rfl, rfl⟩ | exact ⟨rfl, rfl, rfl, rfl, rfl⟩ | exact congrArg (fun z : Int => E.v (.int .i64 z)) (wrap64_id (by omega) (by omega)) | (refine ⟨rfl, ?_⟩; repeat' first | exact trivial | rfl | apply And.intro)) (memOk_box rfl rfl rfl (memOk_box rfl rfl rfl trivial))⟩
      have heq : a.op = 2 := by
        have hc : (!decide (a.op = 2)) = false := hc
        by_cases h2 : a.op = 2
        · exact h2
        · rw [decide_eq_false h2] at hc; exact absurd hc (by decide)
      have hcm := cmp_left (col := col) h9' ha heq
      rw [h] at hcm
      have hcq : a.n = col → a.op = 2 ∧ a.n = col := fun hq => ⟨heq, hq⟩
      have hcq' : a.op = 2 ∧ a.n = col → (if a.n = col then (litO b).map fun n => ((10 : Int), n) else none) = (litO b).map fun n => (10, n) := fun h => if_pos h.2
      have hlit := litNumber_fn b k2
      rw [eEx_eq] at hlit
      repeat' (first | refine tr_seq ?_ | refine tr_block ?_ | refine tr_skip ?_)
      refine tr_region (lex (T := tab) tOk hnt rfl ?_ (call rfl rfl rfl rfl rfl rfl rfl hnt (hlit) (lex (T := tab) tOk hnt rfl ?_ (Lex.nil _)))) ?_
      · (dsimp only [AllP]; (repeat' first | exact trivial | assumption | exact Nat.le_of_ble_eq_true rfl | apply And.intro | exact eCells_len1 _ _ ‹_› | exact eCells_isByte _ _ ‹_› | (intro hh_; have hg_ := hh_; (try simp only [condT_ff, condF_tt, notE_t, notE_f, Bool.and_eq_true, ne_eq, decide_eq_true_eq, decide_eq_false_iff_not] at hg_)) | intro _ | exact rfl | omega))
      · (dsimp only [AllP]; (repeat' first | exact trivial | assumption | exact Nat.le_of_ble_eq_true rfl | apply And.intro | decide | intro _ | exact rfl))
      repeat' (first | refine tr_seq ?_ | refine tr_block ?_ | refine tr_skip ?_)
      first | refine reg (T := tab) tOk hnt rfl ?_ ?_ | refine regD (T := tab) tOk mixedR hnt rfl (by decide +kernel) ?_ ?_
      · (dsimp only [AllP]; (repeat' first | exact trivial | assumption | exact Nat.le_of_ble_eq_true rfl | apply And.intro | exact eCells_len1 _ _ ‹_› | exact eCells_isByte _ _ ‹_› | (intro hh_; have hg_ := hh_; (try simp only [condT_ff, condF_tt, notE_t, notE_f, Bool.and_eq_true, ne_eq, decide_eq_true_eq, decide_eq_false_iff_not] at hg_)) | intro _ | exact rfl | omega))
      have hcv : (bif bif !(litD b).2 then true else !decide (a.op = 2) then true else !strEq (strB a.n) (strB col)) = decide (¬ ((litD b).2 = true ∧ a.op = 2 ∧ a.n = col)) := by
        rw [strEq_B]
        cases (litD b).2 <;> by_cases h1 : a.op = 2 <;> by_cases h2 : a.n = col <;> simp [h1, h2]
      repeat' (first | refine tr_seq ?_ | refine tr_block ?_ | refine tr_skip ?_)
      refine tr_cond rfl (fun hc => ?_) (fun hc => ?_)
      · have hc : (bif bif !(litD b).2 then true else !decide (a.op = 2) then true else !strEq (strB a.n) (strB col)) = true := hc
        rw [hcv] at hc
        have hc := of_decide_eq_true hc
        have hno : cmpO y col = none := by
          rw [hcm]
          split
          · rename_i hq
            cases hl : litO b with
            | none => rfl
            | some m => exact absurd ⟨by unfold litD; rw [hl]; rfl, hcq hq⟩ hc
          · rfl
        have hr := rg_no hno
        refine tr_exit ?_
        repeat' (first | refine tr_seq ?_ | refine reg (T := tab) tOk hnt rfl ?_ ?_ | refine regD (T := tab) tOk mixedR hnt rfl (by decide +kernel) ?_ ?_ | refine tr_block ?_ | refine tr_skip ?_)
        · (dsimp only [AllP]; (repeat' first | exact trivial | assumption | exact Nat.le_of_ble_eq_true rfl | apply And.intro | decide | intro _ | exact rfl))
        rw [h64]
        refine ⟨(i + 1, lo, hi, nn), ⟨by dsimp only; omega, by dsimp only; rw [hF, hr]; exact (Jr_step hJ rfl (fun _ _ => by dsimp only; omega) (fun _ _ => by dsimp only; omega))⟩, by dsimp only; omega, le_of (ad := []) (by refine ⟨?_, ?_, ?_, ?_, ?_, ?_, ?_, trivial⟩ <;> first | exact trivial | rfl | exact ⟨rfl, rfl⟩ | exact ⟨rfl, rfl, rfl⟩ | exact ⟨rfl, rfl, rfl, rfl⟩ | exact ⟨rfl, rfl, rfl, rfl, rfl⟩ | exact congrArg (fun z : Int => E.v (.int .i64 z)) (wrap64_id (by omega) (by omega)) | (refine ⟨rfl, ?_⟩; repeat' first | exact trivial | rfl | apply And.intro)) (memOk_box rfl rfl rfl (memOk_box rfl rfl rfl trivial))⟩
      have hc : (bif bif !(litD b).2 then true else !decide (a.op = 2) then true else !strEq (strB a.n) (strB col)) = false := hc
      rw [hcv] at hc
      have hc := Classical.not_not.1 (of_decide_eq_false hc)
      obtain ⟨n, hl⟩ : ∃ n, litO b = some n := by
        cases hl : litO b with
        | none =>
          have h0 : (litD b).2 = true := hc.1
          unfold litD at h0
          rw [hl] at h0
          exact absurd h0 Bool.false_ne_true
        | some m => exact ⟨m, rfl⟩
      have hld : litD b = (n, true) := by unfold litD; rw [hl]; rfl
      have hnr := litO_rng k2 hl
      rw [hcq' hc.2, hl] at hcm
      have hr := rg_cmp hcm
      rw [hld]
      clear hlit hcv hc hcm hcq hcq' hld hl
      have hr : rgO col y = (loI, hiI) := by rw [hr]; simp [bdF]
      repeat' (first | refine tr_seq ?_ | refine reg (T := tab) tOk hnt rfl ?_ ?_ | refine regD (T := tab) tOk mixedR hnt rfl (by decide +kernel) ?_ ?_ | refine tr_block ?_ | refine tr_skip ?_)
      · (dsimp only [AllP]; (repeat' first | exact trivial | assumption | exact Nat.le_of_ble_eq_true rfl | apply And.intro | decide | intro _ | exact rfl))
      repeat' (first | refine tr_seq ?_ | refine tr_block ?_ | refine tr_skip ?_)
      refine tr_cond rfl (fun hc => ?_) (fun hc => ?_)
      · exact absurd (show false = true from hc) (by decide)
      repeat' (first | refine tr_seq ?_ | refine reg (T := tab) tOk hnt rfl ?_ ?_ | refine regD (T := tab) tOk mixedR hnt rfl (by decide +kernel) ?_ ?_ | refine tr_block ?_ | refine tr_skip ?_)
      · (dsimp only [AllP]; (repeat' first | exact trivial | assumption | exact Nat.le_of_ble_eq_true rfl | apply And.intro | decide | intro _ | exact rfl))
      repeat' (first | refine tr_seq ?_ | refine tr_block ?_ | refine tr_skip ?_)
      refine tr_cond rfl (fun hc => ?_) (fun hc => ?_)
      · exact absurd (show false = true from hc) (by decide)
      repeat' (first | refine tr_seq ?_ | refine reg (T := tab) tOk hnt rfl ?_ ?_ | refine regD (T := tab) tOk mixedR hnt rfl (by decide +kernel) ?_ ?_ | refine tr_block ?_ | refine tr_skip ?_)
      · (dsimp only [AllP]; (repeat' first | exact trivial | assumption | exact Nat.le_of_ble_eq_true rfl | apply And.intro | decide | intro _ | exact rfl))
      repeat' (first | refine tr_seq ?_ | refine tr_block ?_ | refine tr_skip ?_)
      refine tr_cond rfl (fun hc => ?_) (fun hc => ?_)
      · exact absurd (show false = true from hc) (by decide)
      repeat' (first | refine tr_seq ?_ | refine reg (T := tab) tOk hnt rfl ?_ ?_ | refine regD (T := tab) tOk mixedR hnt rfl (by decide +kernel) ?_ ?_ | refine tr_block ?_ | refine tr_skip ?_)
      · (dsimp only [AllP]; (repeat' first | exact trivial | assumption | exact Nat.le_of_ble_eq_true rfl | apply And.intro | decide | intro _ | exact rfl))
      rw [h64]
      refine ⟨(i + 1, lo, hi, nn), ⟨by dsimp only; omega, by dsimp only; rw [hF, hr]; exact (Jr_step hJ rfl (fun _ _ => by dsimp only; omega) (fun _ _ => by dsimp only; omega))⟩, by dsimp only; omega, le_of (ad := []) (by refine ⟨?_, ?_, ?_, ?_, ?_, ?_, ?_, trivial⟩ <;> first | exact trivial | rfl | exact ⟨rfl, rfl⟩ | exact ⟨rfl, rfl, rfl⟩ | exact ⟨rfl, rfl, rfl, rfl⟩ | exact ⟨rfl, rfl, rfl, rfl, rfl⟩ | exact congrArg (fun z : Int => E.v (.int .i64 z)) (wrap64_id (by omega) (by omega)) | (refine ⟨rfl, ?_⟩; repeat' first | exact trivial | rfl | apply And.intro)) (memOk_box rfl rfl rfl (memOk_box rfl rfl rfl trivial))⟩
    · have g12 : ∀ q : List E, q = q := fun _ => rfl
      rw [h]
      repeat' (first | refine tr_seq ?_ | refine tr_block ?_ | refine tr_skip ?_)
      first | refine reg (T := tab) tOk hnt rfl ?_ ?_ | refine regD (T := tab) tOk mixedR hnt rfl (by decide +kernel) ?_ ?_
      · (dsimp only [AllP]; (repeat' first | exact trivial | assumption | exact Nat.le_of_ble_eq_true rfl | apply And.intro | exact eCells_len1 _ _ ‹_› | exact eCells_isByte _ _ ‹_› | (intro hh_; have hg_ := hh_; (try simp only [condT_ff, condF_tt, notE_t, notE_f, Bool.and_eq_true, ne_eq, decide_eq_true_eq, decide_eq_false_iff_not] at hg_)) | intro _ | exact rfl | omega))
        all_goals first | exact (show (0 : Int) < ((2 : Nat) : Int) by decide) | exact (show (1 : Int) < ((2 : Nat) : Int) by decide) | exact ha7 | exact hb7 | exact ta7 | exact tb7 | trace_state
      refine tr_le (s' := St.of [(1, .one (.e (eT col))), (4, .one (.ptr 4 0 0)), (7, .one (.ptr 7 0 0)), (8, .v (.bool nn)), (11, .one (.e (eI 11))), (12, .one (.ptr 12 0 0)), (13, .one (.ptr 13 0 0)), (24, .one (.e (.sl (eExs L)))), (25, .one (.e (eI ((eExs L).length : Int)))), (26, .one (.e (eI (i : Int))))] [(4, ⟨0, .box (.es (eRg (0, 0))), 0⟩), (7, ⟨0, .box (.es (eRg (lo, hi))), 0⟩), (12, ⟨0, .box (.es [eI a.op, eI a.v.k, eI a.v.i, eQ a.v.b, eT a.v.t, eT a.n, .sl (eExs a.ar)]), 0⟩), (13, ⟨0, .box (.es [eI b.op, eI b.v.k, eI b.v.i, eQ b.v.b, eT b.v.t, eT b.n, .sl (eExs b.ar)]), 0⟩)]) (le_of (ad := []) (by refine ⟨?_, ?_, ?_, ?_, ?_, ?_, ?_, ?_, ?_, ?_, trivial⟩ <;> first | exact trivial | rfl | exact ⟨rfl, rfl⟩ | exact ⟨rfl, rfl, rfl⟩ | exact ⟨rfl, rfl, rfl, rfl⟩ | exact ⟨rfl, rfl, rfl, rfl, rfl⟩ | exact congrArg (fun z : Int => E.v (.int .i64 z)) (wrap64_id (by omega) (by omega)) | (refine ⟨rfl, ?_⟩; repeat' first | exact trivial | rfl | apply And.intro)) (memOk_box rfl rfl rfl (memOk_box rfl rfl rfl (memOk_box rfl rfl ((exAll a).trans (eEx_eq a)) (memOk_box rfl rfl ((exAll b).trans (eEx_eq b)) trivial))))) ?_
      repeat' (first | refine tr_seq ?_ | refine tr_block ?_ | refine tr_skip ?_)
      first | refine reg (T := tab) tOk hnt rfl ?_ ?_ | refine regD (T := tab) tOk mixedR hnt rfl (by decide +kernel) ?_ ?_
      · (dsimp only [AllP]; (repeat' first | exact trivial | assumption | exact Nat.le_of_ble_eq_true rfl | apply And.intro | exact eCells_len1 _ _ ‹_› | exact eCells_isByte _ _ ‹_› | (intro hh_; have hg_ := hh_; (try simp only [condT_ff, condF_tt, notE_t, notE_f, Bool.and_eq_true, ne_eq, decide_eq_true_eq, decide_eq_false_iff_not] at hg_)) | intro _ | exact rfl | omega))
      repeat' (first | refine tr_seq ?_ | refine tr_block ?_ | refine tr_skip ?_)
      refine tr_cond rfl (fun hc => ?_) (fun hc => ?_)
      · have hne : a.op ≠ 2 := by
          have hc : (!decide (a.op = 2)) = true := hc
          intro h2
          rw [h2] at hc
          exact absurd hc (by decide)
        have hcm := cmp_right (col := col) h9' ha hne
        rw [h] at hcm
        have hcm : cmpO y col = if b.op = 2 ∧ b.n = col then (litO a).map fun n => (13, n) else none := hcm
        have hcq : b.op = 2 ∧ b.n = col → b.op = 2 ∧ b.n = col := id
        have hcq' : b.op = 2 ∧ b.n = col → (if b.op = 2 ∧ b.n = col then (litO a).map fun n => ((13 : Int), n) else none) = (litO a).map fun n => (13, n) := fun h => if_pos h
        repeat' (first | refine tr_seq ?_ | refine tr_block ?_ | refine tr_skip ?_)
        first | refine reg (T := tab) tOk hnt rfl ?_ ?_ | refine regD (T := tab) tOk mixedR hnt rfl (by decide +kernel) ?_ ?_
        · (dsimp only [AllP]; (repeat' first | exact trivial | assumption | exact Nat.le_of_ble_eq_true rfl | apply And.intro | exact eCells_len1 _ _ ‹_› | exact eCells_isByte _ _ ‹_› | (intro hh_; have hg_ := hh_; (try simp only [condT_ff, condF_tt, notE_t, notE_f, Bool.and_eq_true, ne_eq, decide_eq_true_eq, decide_eq_false_iff_not] at hg_)) | intro _ | exact rfl | omega))
          all_goals first | decide | trace_state
        refine tr_le (s' := St.of [(1, .one (.e (eT col))), (4, .one (.ptr 4 0 0)), (7, .one (.ptr 7 0 0)), (8, .v (.bool nn)), (11, .one (.e (eI 13))), (12, .one (.ptr 12 0 0)), (13, .one (.ptr 13 0 0)), (24, .one (.e (.sl (eExs L)))), (25, .one (.e (eI ((eExs L).length : Int)))), (26, .one (.e (eI (i : Int))))] [(4, ⟨0, .box (.es (eRg (0, 0))), 0⟩), (7, ⟨0, .box (.es (eRg (lo, hi))), 0⟩), (12, ⟨0, .box (.es [eI b.op, eI b.v.k, eI b.v.i, eQ b.v.b, eT b.v.t, eT b.n, .sl (eExs b.ar)]), 0⟩), (13, ⟨0, .box (.es [eI a.op, eI a.v.k, eI a.v.i, eQ a.v.b, eT a.v.t, eT a.n, .sl (eExs a.ar)]), 0⟩)]) (le_of (ad := []) (by refine ⟨?_, ?_, ?_, ?_, ?_, ?_, ?_, ?_, ?_, ?_, trivial⟩ <;> first | exact trivial | rfl | exact ⟨rfl, rfl⟩ | exact ⟨rfl, rfl, rfl⟩ | exact ⟨rfl, rfl, rfl, rfl⟩ | exact ⟨rfl, rfl, rfl, rfl, rfl⟩ | exact congrArg (fun z : Int => E.v (.int .i64 z)) (wrap64_id (by omega) (by omega)) | (refine ⟨rfl, ?_⟩; repeat' first | exact trivial | rfl | apply And.intro)) (memOk_box rfl rfl rfl (memOk_box rfl rfl rfl (memOk_box rfl rfl rfl (memOk_box rfl rfl rfl trivial))))) ?_
        have hlit := litNumber_fn a k1
        rw [eEx_eq] at hlit
        repeat' (first | refine tr_seq ?_ | refine tr_block ?_ | refine tr_skip ?_)
        refine tr_region (lex (T := tab) tOk hnt rfl ?_ (call rfl rfl rfl rfl rfl rfl rfl hnt (hlit) (lex (T := tab) tOk hnt rfl ?_ (Lex.nil _)))) ?_
        · (dsimp only [AllP]; (repeat' first | exact trivial | assumption | exact Nat.le_of_ble_eq_true rfl | apply And.intro | exact eCells_len1 _ _ ‹_› | exact eCells_isByte _ _ ‹_› | (intro hh_; have hg_ := hh_; (try simp only [condT_ff, condF_tt, notE_t, notE_f, Bool.and_eq_true, ne_eq, decide_eq_true_eq, decide_eq_false_iff_not] at hg_)) | intro _ | exact rfl | omega))
        · (dsimp only [AllP]; (repeat' first | exact trivial | assumption | exact Nat.le_of_ble_eq_true rfl | apply And.intro | decide | intro _ | exact rfl))
        repeat' (first | refine tr_seq ?_ | refine tr_block ?_ | refine tr_skip ?_)
        first | refine reg (T := tab) tOk hnt rfl ?_ ?_ | refine regD (T := tab) tOk mixedR hnt rfl (by decide +kernel) ?_ ?_
        · (dsimp only [AllP]; (repeat' first | exact trivial | assumption | exact Nat.le_of_ble_eq_true rfl | apply And.intro | exact eCells_len1 _ _ ‹_› | exact eCells_isByte _ _ ‹_› | (intro hh_; have hg_ := hh_; (try simp only [condT_ff, condF_tt, notE_t, notE_f, Bool.and_eq_true, ne_eq, decide_eq_true_eq, decide_eq_false_iff_not] at hg_)) | intro _ | exact rfl | omega))
        have hcv : (bif bif !(litD a).2 then true else !decide (b.op = 2) then true else !strEq (strB b.n) (strB col)) = decide (¬ ((litD a).2 = true ∧ b.op = 2 ∧ b.n = col)) := by
          rw [strEq_B]
          cases (litD a).2 <;> by_cases h1 : b.op = 2 <;> by_cases h2 : b.n = col <;> simp [h1, h2]
        repeat' (first | refine tr_seq ?_ | refine tr_block ?_ | refine tr_skip ?_)
        refine tr_cond rfl (fun hc => ?_) (fun hc => ?_)
        · have hc : (bif bif !(litD a).2 then true else !decide (b.op = 2) then true else !strEq (strB b.n) (strB col)) = true := hc
          rw [hcv] at hc
          have hc := of_decide_eq_true hc
          have hno : cmpO y col = none := by
            rw [hcm]
            split
            · rename_i hq
              cases hl : litO a with
              | none => rfl
              | some m => exact absurd ⟨by unfold litD; rw [hl]; rfl, hcq hq⟩ hc
            · rfl
          have hr := rg_no hno
          refine tr_exit ?_
          repeat' (first | refine tr_seq ?_ | refine reg (T := tab) tOk hnt rfl ?_ ?_ | refine regD (T := tab) tOk mixedR hnt rfl (by decide +kernel) ?_ ?_ | refine tr_block ?_ | refine tr_skip ?_)
          · (dsimp only [AllP]; (repeat' first | exact trivial | assumption | exact Nat.le_of_ble_eq_true rfl | apply And.intro | decide | intro _ | exact rfl))
          rw [h64]
          refine ⟨(i + 1, lo, hi, nn), ⟨by dsimp only; omega, by dsimp only; rw [hF, hr]; exact (Jr_step hJ rfl (fun _ _ => by dsimp only; omega) (fun _ _ => by dsimp only; omega))⟩, by dsimp only; omega, le_of (ad := []) (by refine ⟨?_, ?_, ?_, ?_, ?_, ?_, ?_, trivial⟩ <;> first | exact trivial | rfl | exact ⟨rfl, rfl⟩ | exact ⟨rfl, rfl, rfl⟩ | exact ⟨rfl, rfl, rfl, rfl⟩ | exact ⟨rfl, rfl, rfl, rfl, rfl⟩ | exact congrArg (fun z : Int => E.v (.int .i64 z)) (wrap64_id (by omega) (by omega)) | (refine ⟨rfl, ?_⟩; repeat' first | exact trivial | rfl | apply And.intro)) (memOk_box rfl rfl rfl (memOk_box rfl rfl rfl trivial))⟩
        have hc : (bif bif !(litD a).2 then true else !decide (b.op = 2) then true else !strEq (strB b.n) (strB col)) = false := hc
        rw [hcv] at hc
        have hc := Classical.not_not.1 (of_decide_eq_false hc)
        obtain ⟨n, hl⟩ : ∃ n, litO a = some n := by
          cases hl : litO a with
          | none =>
            have h0 : (litD a).2 = true := hc.1
            unfold litD at h0
            rw [hl] at h0
            exact absurd h0 Bool.false_ne_true
          | some m => exact ⟨m, rfl⟩
        have hld : litD a = (n, true) := by unfold litD; rw [hl]; rfl
        have hnr := litO_rng k1 hl
        rw [hcq' hc.2, hl] at hcm
        have hr := rg_cmp hcm
        rw [hld]
        clear hlit hcv hc hcm hcq hcq' hld hl
        repeat' (first | refine tr_seq ?_ | refine reg (T := tab) tOk hnt rfl ?_ ?_ | refine regD (T := tab) tOk mixedR hnt rfl (by decide +kernel) ?_ ?_ | refine tr_block ?_ | refine tr_skip ?_)
        · (dsimp only [AllP]; (repeat' first | exact trivial | assumption | exact Nat.le_of_ble_eq_true rfl | apply And.intro | decide | intro _ | exact rfl))
        repeat' (first | refine tr_seq ?_ | refine tr_block ?_ | refine tr_skip ?_)
        refine tr_cond rfl (fun hc => ?_) (fun hc => ?_)
        · repeat' (first | refine tr_seq ?_ | refine reg (T := tab) tOk hnt rfl ?_ ?_ | refine regD (T := tab) tOk mixedR hnt rfl (by decide +kernel) ?_ ?_ | refine tr_block ?_ | refine tr_skip ?_)
          · (dsimp only [AllP]; (repeat' first | exact trivial | assumption | exact Nat.le_of_ble_eq_true rfl | apply And.intro | decide | intro _ | exact rfl))
          · (dsimp only [AllP]; (repeat' first | exact trivial | assumption | exact Nat.le_of_ble_eq_true rfl | apply And.intro | decide | intro _ | exact rfl))
          repeat' (first | refine tr_seq ?_ | refine tr_block ?_ | refine tr_skip ?_)
          refine tr_cond rfl (fun hc => ?_) (fun hc => ?_)
          · have hc : decide (n < 9223372036854775807) = true := hc
            have hc := of_decide_eq_true hc
            have hr : rgO col y = (n + 1, hiI) := by rw [hr]; unfold bdF; rw [if_neg (by decide), if_neg (by decide), if_neg (by decide), if_pos rfl, if_neg (by show ¬ n = 9223372036854775807; omega)]
            have hw : IntKind.i64.wrap (n + 1) = n + 1 := wrap64_id (by omega) (by omega)
            repeat' (first | refine tr_seq ?_ | refine reg (T := tab) tOk hnt rfl ?_ ?_ | refine regD (T := tab) tOk mixedR hnt rfl (by decide +kernel) ?_ ?_ | refine tr_block ?_ | refine tr_skip ?_)
            · (dsimp only [AllP]; (repeat' first | exact trivial | assumption | exact Nat.le_of_ble_eq_true rfl | apply And.intro | decide | intro _ | exact rfl))
            · (dsimp only [AllP]; (repeat' first | exact trivial | assumption | exact Nat.le_of_ble_eq_true rfl | apply And.intro | decide | intro _ | exact rfl))
            rw [hw]
            refine tr_exit ?_
            repeat' (first | refine tr_seq ?_ | refine reg (T := tab) tOk hnt rfl ?_ ?_ | refine regD (T := tab) tOk mixedR hnt rfl (by decide +kernel) ?_ ?_ | refine tr_block ?_ | refine tr_skip ?_)
            · (dsimp only [AllP]; (repeat' first | exact trivial | assumption | exact Nat.le_of_ble_eq_true rfl | apply And.intro | decide | intro _ | exact rfl))
            rw [h64]
            refine ⟨(i + 1, (if lo < n + 1 then n + 1 else lo), hi, (bif nn then true else (bif decide ((13 : Int) = 13) then decide (n = 9223372036854775807) else false))), ⟨by dsimp only; omega, by dsimp only; rw [hF, hr]; exact (Jr_step hJ (by rw [decide_eq_false (show ¬ n = 9223372036854775807 by omega)]; cases nn <;> rfl) (fun _ _ => by dsimp only; split <;> omega) (fun _ _ => by dsimp only; omega))⟩, by dsimp only; omega, le_of (ad := []) (by refine ⟨?_, ?_, ?_, ?_, ?_, ?_, ?_, trivial⟩ <;> first | exact trivial | rfl | exact ⟨rfl, rfl⟩ | exact ⟨rfl, rfl, rfl⟩ | exact ⟨rfl, rfl, rfl, rfl⟩ | exact ⟨rfl, rfl, rfl, rfl, rfl⟩ | exact congrArg (fun z : Int => E.v (.int .i64 z)) (wrap64_id (by omega) (by omega)) | (refine ⟨rfl, ?_⟩; repeat' first | exact trivial | rfl | apply And.intro)) (memOk_box rfl rfl rfl (memOk_box rfl rfl rfl trivial))⟩
          have hc : decide (n < 9223372036854775807) = false := hc
          have hc := of_decide_eq_false hc
          have hm : n = 9223372036854775807 := by omega
          have hr : rgO col y = (1, 0) := by rw [hr]; unfold bdF; rw [if_neg (by decide), if_neg (by decide), if_neg (by decide), if_pos rfl, if_pos hm]
          repeat' (first | refine tr_seq ?_ | refine reg (T := tab) tOk hnt rfl ?_ ?_ | refine regD (T := tab) tOk mixedR hnt rfl (by decide +kernel) ?_ ?_ | refine tr_block ?_ | refine tr_skip ?_)
          · (dsimp only [AllP]; (repeat' first | exact trivial | assumption | exact Nat.le_of_ble_eq_true rfl | apply And.intro | decide | intro _ | exact rfl))
          · (dsimp only [AllP]; (repeat' first | exact trivial | assumption | exact Nat.le_of_ble_eq_true rfl | apply And.intro | decide | intro _ | exact rfl))
          repeat' (first | refine tr_seq ?_ | refine tr_block ?_ | refine tr_skip ?_)
          refine tr_cond rfl (fun hc => ?_) (fun hc => ?_)
          · exact absurd (show false = true from hc) (by decide)
          repeat' (first | refine tr_seq ?_ | refine reg (T := tab) tOk hnt rfl ?_ ?_ | refine regD (T := tab) tOk mixedR hnt rfl (by decide +kernel) ?_ ?_ | refine tr_block ?_ | refine tr_skip ?_)
          · (dsimp only [AllP]; (repeat' first | exact trivial | assumption | exact Nat.le_of_ble_eq_true rfl | apply And.intro | decide | intro _ | exact rfl))
          repeat' (first | refine tr_seq ?_ | refine tr_block ?_ | refine tr_skip ?_)
          refine tr_cond rfl (fun hc => ?_) (fun hc => ?_)
          · exact absurd (show false = true from hc) (by decide)
          repeat' (first | refine tr_seq ?_ | refine reg (T := tab) tOk hnt rfl ?_ ?_ | refine regD (T := tab) tOk mixedR hnt rfl (by decide +kernel) ?_ ?_ | refine tr_block ?_ | refine tr_skip ?_)
          · (dsimp only [AllP]; (repeat' first | exact trivial | assumption | exact Nat.le_of_ble_eq_true rfl | apply And.intro | decide | intro _ | exact rfl))
          rw [h64]
          refine ⟨(i + 1, (if lo < n then n else lo), hi, (bif nn then true else (bif decide ((13 : Int) = 13) then decide (n = 9223372036854775807) else false))), ⟨by dsimp only; omega, by dsimp only; rw [hF, hr]; exact (Jr_none hJ (by rw [decide_eq_true hm]; cases nn <;> rfl))⟩, by dsimp only; omega, le_of (ad := []) (by refine ⟨?_, ?_, ?_, ?_, ?_, ?_, ?_, trivial⟩ <;> first | exact trivial | rfl | exact ⟨rfl, rfl⟩ | exact ⟨rfl, rfl, rfl⟩ | exact ⟨rfl, rfl, rfl, rfl⟩ | exact ⟨rfl, rfl, rfl, rfl, rfl⟩ | exact congrArg (fun z : Int => E.v (.int .i64 z)) (wrap64_id (by omega) (by omega)) | (refine ⟨rfl, ?_⟩; repeat' first | exact trivial | rfl | apply And.intro)) (memOk_box rfl rfl rfl (memOk_box rfl rfl rfl trivial))⟩
        exact absurd (show true = false from hc) (by decide)
      have heq : a.op = 2 := by
        have hc : (!decide (a.op = 2)) = false := hc
        by_cases h2 : a.op = 2
        · exact h2
        · rw [decide_eq_false h2] at hc; exact absurd hc (by decide)
      have hcm := cmp_left (col := col) h9' ha heq
      rw [h] at hcm
      have hcq : a.n = col → a.op = 2 ∧ a.n = col := fun hq => ⟨heq, hq⟩
      have hcq' : a.op = 2 ∧ a.n = col → (if a.n = col then (litO b).map fun n => ((11 : Int), n) else none) = (litO b).map fun n => (11, n) := fun h => if_pos h.2
      have hlit := litNumber_fn b k2
      rw [eEx_eq] at hlit
      repeat' (first | refine tr_seq ?_ | refine tr_block ?_ | refine tr_skip ?_)
      refine tr_region (lex (T := tab) tOk hnt rfl ?_ (call rfl rfl rfl rfl rfl rfl rfl hnt (hlit) (lex (T := tab) tOk hnt rfl ?_ (Lex.nil _)))) ?_
      · (dsimp only [AllP]; (repeat' first | exact trivial | assumption | exact Nat.le_of_ble_eq_true rfl | apply And.intro | exact eCells_len1 _ _ ‹_› | exact eCells_isByte _ _ ‹_› | (intro hh_; have hg_ := hh_; (try simp only [condT_ff, condF_tt, notE_t, notE_f, Bool.and_eq_true, ne_eq, decide_eq_true_eq, decide_eq_false_iff_not] at hg_)) | intro _ | exact rfl | omega))
      · (dsimp only [AllP]; (repeat' first | exact trivial | assumption | exact Nat.le_of_ble_eq_true rfl | apply And.intro | decide | intro _ | exact rfl))
      repeat' (first | refine tr_seq ?_ | refine tr_block ?_ | refine tr_skip ?_)
      first | refine reg (T := tab) tOk hnt rfl ?_ ?_ | refine regD (T := tab) tOk mixedR hnt rfl (by decide +kernel) ?_ ?_
      · (dsimp only [AllP]; (repeat' first | exact trivial | assumption | exact Nat.le_of_ble_eq_true rfl | apply And.intro | exact eCells_len1 _ _ ‹_› | exact eCells_isByte _ _ ‹_› | (intro hh_; have hg_ := hh_; (try simp only [condT_ff, condF_tt, notE_t, notE_f, Bool.and_eq_true, ne_eq, decide_eq_true_eq, decide_eq_false_iff_not] at hg_)) | intro _ | exact rfl | omega))
      have hcv : (bif bif !(litD b).2 then true else !decide (a.op = 2) then true else !strEq (strB a.n) (strB col)) = decide (¬ ((litD b).2 = true ∧ a.op = 2 ∧ a.n = col)) := by
        rw [strEq_B]
        cases (litD b).2 <;> by_cases h1 : a.op = 2 <;> by_cases h2 : a.n = col <;> simp [h1, h2]
      repeat' (first | refine tr_seq ?_ | refine tr_block ?_ | refine tr_skip ?_)
      refine tr_cond rfl (fun hc => ?_) (fun hc => ?_)
      · have hc : (bif bif !(litD b).2 then true else !decide (a.op = 2) then true else !strEq (strB a.n) (strB col)) = true := hc
        rw [hcv] at hc
        have hc := of_decide_eq_true hc
        have hno : cmpO y col = none := by
          rw [hcm]
          split
          · rename_i hq
            cases hl : litO b with
            | none => rfl
            | some m => exact absurd ⟨by unfold litD; rw [hl]; rfl, hcq hq⟩ hc
          · rfl
        have hr := rg_no hno
        refine tr_exit ?_
        repeat' (first | refine tr_seq ?_ | refine reg (T := tab) tOk hnt rfl ?_ ?_ | refine regD (T := tab) tOk mixedR hnt rfl (by decide +kernel) ?_ ?_ | refine tr_block ?_ | refine tr_skip ?_)
        · (dsimp only [AllP]; (repeat' first | exact trivial | assumption | exact Nat.le_of_ble_eq_true rfl | apply And.intro | decide | intro _ | exact rfl))
        rw [h64]
        refine ⟨(i + 1, lo, hi, nn), ⟨by dsimp only; omega, by dsimp only; rw [hF, hr]; exact (Jr_step hJ rfl (fun _ _ => by dsimp only; omega) (fun _ _ => by dsimp only; omega))⟩, by dsimp only; omega, le_of (ad := []) (by refine ⟨?_, ?_, ?_, ?_, ?_, ?_, ?_, trivial⟩ <;> first | exact trivial | rfl | exact ⟨rfl, rfl⟩ | exact ⟨rfl, rfl, rfl⟩ | exact ⟨rfl, rfl, rfl, rfl⟩ | exact ⟨rfl, rfl, rfl, rfl, rfl⟩ | exact congrArg (fun z : Int => E.v (.int .i64 z)) (wrap64_id (by omega) (by omega)) | (refine ⟨rfl, ?_⟩; repeat' first | exact trivial | rfl | apply And.intro)) (memOk_box rfl rfl rfl (memOk_box rfl rfl rfl trivial))⟩
      have hc : (bif bif !(litD b).2 then true else !decide (a.op = 2) then true else !strEq (strB a.n) (strB col)) = false := hc
      rw [hcv] at hc
      have hc := Classical.not_not.1 (of_decide_eq_false hc)
      obtain ⟨n, hl⟩ : ∃ n, litO b = some n := by
        cases hl : litO b with
        | none =>
          have h0 : (litD b).2 = true := hc.1
          unfold litD at h0
          rw [hl] at h0
          exact absurd h0 Bool.false_ne_true
        | some m => exact ⟨m, rfl⟩
      have hld : litD b = (n, true) := by unfold litD; rw [hl]; rfl
      have hnr := litO_rng k2 hl
      rw [hcq' hc.2, hl] at hcm
      have hr := rg_cmp hcm
      rw [hld]
      clear hlit hcv hc hcm hcq hcq' hld hl
      have hr : rgO col y = (loI, n - 1) := by rw [hr]; simp [bdF]
      have hw : IntKind.i64.wrap (n - 1) = n - 1 := wrap64_id (by omega) (by omega)
      repeat' (first | refine tr_seq ?_ | refine reg (T := tab) tOk hnt rfl ?_ ?_ | refine regD (T := tab) tOk mixedR hnt rfl (by decide +kernel) ?_ ?_ | refine tr_block ?_ | refine tr_skip ?_)
      · (dsimp only [AllP]; (repeat' first | exact trivial | assumption | exact Nat.le_of_ble_eq_true rfl | apply And.intro | decide | intro _ | exact rfl))
      repeat' (first | refine tr_seq ?_ | refine tr_block ?_ | refine tr_skip ?_)
      refine tr_cond rfl (fun hc => ?_) (fun hc => ?_)
      · exact absurd (show false = true from hc) (by decide)
      repeat' (first | refine tr_seq ?_ | refine reg (T := tab) tOk hnt rfl ?_ ?_ | refine regD (T := tab) tOk mixedR hnt rfl (by decide +kernel) ?_ ?_ | refine tr_block ?_ | refine tr_skip ?_)
      · (dsimp only [AllP]; (repeat' first | exact trivial | assumption | exact Nat.le_of_ble_eq_true rfl | apply And.intro | decide | intro _ | exact rfl))
      repeat' (first | refine tr_seq ?_ | refine tr_block ?_ | refine tr_skip ?_)
      refine tr_cond rfl (fun hc => ?_) (fun hc => ?_)
      · exact absurd (show false = true from hc) (by decide)
      repeat' (first | refine tr_seq ?_ | refine reg (T := tab) tOk hnt rfl ?_ ?_ | refine regD (T := tab) tOk mixedR hnt rfl (by decide +kernel) ?_ ?_ | refine tr_block ?_ | refine tr_skip ?_)
      · (dsimp only [AllP]; (repeat' first | exact trivial | assumption | exact Nat.le_of_ble_eq_true rfl | apply And.intro | decide | intro _ | exact rfl))
      repeat' (first | refine tr_seq ?_ | refine tr_block ?_ | refine tr_skip ?_)
      refine tr_cond rfl (fun hc => ?_) (fun hc => ?_)
      · repeat' (first | refine tr_seq ?_ | refine reg (T := tab) tOk hnt rfl ?_ ?_ | refine regD (T := tab) tOk mixedR hnt rfl (by decide +kernel) ?_ ?_ | refine tr_block ?_ | refine tr_skip ?_)
        · (dsimp only [AllP]; (repeat' first | exact trivial | assumption | exact Nat.le_of_ble_eq_true rfl | apply And.intro | decide | intro _ | exact rfl))
        · (dsimp only [AllP]; (repeat' first | exact trivial | assumption | exact Nat.le_of_ble_eq_true rfl | apply And.intro | decide | intro _ | exact rfl))
        rw [h64, hw]
        refine ⟨(i + 1, lo, (if n - 1 < hi then n - 1 else hi), nn), ⟨by dsimp only; omega, by dsimp only; rw [hF, hr]; exact (Jr_step hJ rfl (fun _ _ => by dsimp only; omega) (fun _ _ => by dsimp only; split <;> omega))⟩, by dsimp only; omega, le_of (ad := []) (by refine ⟨?_, ?_, ?_, ?_, ?_, ?_, ?_, trivial⟩ <;> first | exact trivial | rfl | exact ⟨rfl, rfl⟩ | exact ⟨rfl, rfl, rfl⟩ | exact ⟨rfl, rfl, rfl, rfl⟩ | exact ⟨rfl, rfl, rfl, rfl, rfl⟩ | exact congrArg (fun z : Int => E.v (.int .i64 z)) (wrap64_id (by omega) (by omega)) | (refine ⟨rfl, ?_⟩; repeat' first | exact trivial | rfl | apply And.intro)) (memOk_box rfl rfl rfl (memOk_box rfl rfl rfl trivial))⟩
      exact absurd (show true = false from hc) (by decide)
    · have g12 : ∀ q : List E, q = q := fun _ => rfl
      rw [h]
      repeat' (first | refine tr_seq ?_ | refine tr_block ?_ | refine tr_skip ?_)
      first | refine reg (T := tab) tOk hnt rfl ?_ ?_ | refine regD (T := tab) tOk mixedR hnt rfl (by decide +kernel) ?_ ?_
      · (dsimp only [AllP]; (repeat' first | exact trivial | assumption | exact Nat.le_of_ble_eq_true rfl | apply And.intro | exact eCells_len1 _ _ ‹_› | exact eCells_isByte _ _ ‹_› | (intro hh_; have hg_ := hh_; (try simp only [condT_ff, condF_tt, notE_t, notE_f, Bool.and_eq_true, ne_eq, decide_eq_true_eq, decide_eq_false_iff_not] at hg_)) | intro _ | exact rfl | omega))
        all_goals first | exact (show (0 : Int) < ((2 : Nat) : Int) by decide) | exact (show (1 : Int) < ((2 : Nat) : Int) by decide) | exact ha7 | exact hb7 | exact ta7 | exact tb7 | trace_state
      refine tr_le (s' := St.of [(1, .one (.e (eT col))), (4, .one (.ptr 4 0 0)), (7, .one (.ptr 7 0 0)), (8, .v (.bool nn)), (11, .one (.e (eI 12))), (12, .one (.ptr 12 0 0)), (13, .one (.ptr 13 0 0)), (24, .one (.e (.sl (eExs L)))), (25, .one (.e (eI ((eExs L).length : Int)))), (26, .one (.e (eI (i : Int))))] [(4, ⟨0, .box (.es (eRg (0, 0))), 0⟩), (7, ⟨0, .box (.es (eRg (lo, hi))), 0⟩), (12, ⟨0, .box (.es [eI a.op, eI a.v.k, eI a.v.i, eQ a.v.b, eT a.v.t, eT a.n, .sl (eExs a.ar)]), 0⟩), (13, ⟨0, .box (.es [eI b.op, eI b.v.k, eI b.v.i, eQ b.v.b, eT b.v.t, eT b.n, .sl (eExs b.ar)]), 0⟩)]) (le_of (ad := []) (by refine ⟨?_, ?_, ?_, ?_, ?_, ?_, ?_, ?_, ?_, ?_, trivial⟩ <;> first | exact trivial | rfl | exact ⟨rfl, rfl⟩ | exact ⟨rfl, rfl, rfl⟩ | exact ⟨rfl, rfl, rfl, rfl⟩ | exact ⟨rfl, rfl, rfl, rfl, rfl⟩ | exact congrArg (fun z : Int => E.v (.int .i64 z)) (wrap64_id (by omega) (by omega)) | (refine ⟨rfl, ?_⟩; repeat' first | exact trivial | rfl | apply And.intro)) (memOk_box rfl rfl rfl (memOk_box rfl rfl rfl (memOk_box rfl rfl ((exAll a).trans (eEx_eq a)) (memOk_box rfl rfl ((exAll b).trans (eEx_eq b)) trivial))))) ?_
      repeat' (first | refine tr_seq ?_ | refine tr_block ?_ | refine tr_skip ?_)
      first | refine reg (T := tab) tOk hnt rfl ?_ ?_ | refine regD (T := tab) tOk mixedR hnt rfl (by decide +kernel) ?_ ?_
      · (dsimp only [AllP]; (repeat' first | exact trivial | assumption | exact Nat.le_of_ble_eq_true rfl | apply And.intro | exact eCells_len1 _ _ ‹_› | exact eCells_isByte _ _ ‹_› | (intro hh_; have hg_ := hh_; (try simp only [condT_ff, condF_tt, notE_t, notE_f, Bool.and_eq_true, ne_eq, decide_eq_true_eq, decide_eq_false_iff_not] at hg_)) | intro _ | exact rfl | omega))
      repeat' (first | refine tr_seq ?_ | refine tr_block ?_ | refine tr_skip ?_)
      refine tr_cond rfl (fun hc => ?_) (fun hc => ?_)
      · have hne : a.op ≠ 2 := by
          have hc : (!decide (a.op = 2)) = true := hc
          intro h2
          rw [h2] at hc
          exact absurd hc (by decide)
        have hcm := cmp_right (col := col) h9' ha hne
        rw [h] at hcm
        have hcm : cmpO y col = if b.op = 2 ∧ b.n = col then (litO a).map fun n => (14, n) else none := hcm
        have hcq : b.op = 2 ∧ b.n = col → b.op = 2 ∧ b.n = col := id
        have hcq' : b.op = 2 ∧ b.n = col → (if b.op = 2 ∧ b.n = col then (litO a).map fun n => ((14 : Int), n) else none) = (litO a).map fun n => (14, n) := fun h => if_pos h
        repeat' (first | refine tr_seq ?_ | refine tr_block ?_ | refine tr_skip ?_)
        first | refine reg (T := tab) tOk hnt rfl ?_ ?_ | refine regD (T := tab) tOk mixedR hnt rfl (by decide +kernel) ?_ ?_
        · (dsimp only [AllP]; (repeat' first | exact trivial | assumption | exact Nat.le_of_ble_eq_true rfl | apply And.intro | exact eCells_len1 _ _ ‹_› | exact eCells_isByte _ _ ‹_› | (intro hh_; have hg_ := hh_; (try simp only [condT_ff, condF_tt, notE_t, notE_f, Bool.and_eq_true, ne_eq, decide_eq_true_eq, decide_eq_false_iff_not] at hg_)) | intro _ | exact rfl | omega))
          all_goals first | decide | trace_state
        refine tr_le (s' := St.of [(1, .one (.e (eT col))), (4, .one (.ptr 4 0 0)), (7, .one (.ptr 7 0 0)), (8, .v (.bool nn)), (11, .one (.e (eI 14))), (12, .one (.ptr 12 0 0)), (13, .one (.ptr 13 0 0)), (24, .one (.e (.sl (eExs L)))), (25, .one (.e (eI ((eExs L).length : Int)))), (26, .one (.e (eI (i : Int))))] [(4, ⟨0, .box (.es (eRg (0, 0))), 0⟩), (7, ⟨0, .box (.es (eRg (lo, hi))), 0⟩), (12, ⟨0, .box (.es [eI b.op, eI b.v.k, eI b.v.i, eQ b.v.b, eT b.v.t, eT b.n, .sl (eExs b.ar)]), 0⟩), (13, ⟨0, .box (.es [eI a.op, eI a.v.k, eI a.v.i, eQ a.v.b, eT a.v.t, eT a.n, .sl (eExs a.ar)]), 0⟩)]) (le_of (ad := []) (by refine ⟨?_, ?_, ?_, ?_, ?_, ?_, ?_, ?_, ?_, ?_, trivial⟩ <;> first | exact trivial | rfl | exact ⟨rfl, rfl⟩ | exact ⟨rfl, rfl, rfl⟩ | exact ⟨rfl, rfl, rfl, rfl⟩ | exact ⟨rfl, rfl, rfl, rfl, rfl⟩ | exact congrArg (fun z : Int => E.v (.int .i64 z)) (wrap64_id (by omega) (by omega)) | (refine ⟨rfl, ?_⟩; repeat' first | exact trivial | rfl | apply And.intro)) (memOk_box rfl rfl rfl (memOk_box rfl rfl rfl (memOk_box rfl rfl rfl (memOk_box rfl rfl rfl trivial))))) ?_
        have hlit := litNumber_fn a k1
        rw [eEx_eq] at hlit
        repeat' (first | refine tr_seq ?_ | refine tr_block ?_ | refine tr_skip ?_)
        refine tr_region (lex (T := tab) tOk hnt rfl ?_ (call rfl rfl rfl rfl rfl rfl rfl hnt (hlit) (lex (T := tab) tOk hnt rfl ?_ (Lex.nil _)))) ?_
        · (dsimp only [AllP]; (repeat' first | exact trivial | assumption | exact Nat.le_of_ble_eq_true rfl | apply And.intro | exact eCells_len1 _ _ ‹_› | exact eCells_isByte _ _ ‹_› | (intro hh_; have hg_ := hh_; (try simp only [condT_ff, condF_tt, notE_t, notE_f, Bool.and_eq_true, ne_eq, decide_eq_true_eq, decide_eq_false_iff_not] at hg_)) | intro _ | exact rfl | omega))
        · (dsimp only [AllP]; (repeat' first | exact trivial | assumption | exact Nat.le_of_ble_eq_true rfl | apply And.intro | decide | intro _ | exact rfl))
        repeat' (first | refine tr_seq ?_ | refine tr_block ?_ | refine tr_skip ?_)
        first | refine reg (T := tab) tOk hnt rfl ?_ ?_ | refine regD (T := tab) tOk mixedR hnt rfl (by decide +kernel) ?_ ?_
        · (dsimp only [AllP]; (repeat' first | exact trivial | assumption | exact Nat.le_of_ble_eq_true rfl | apply And.intro | exact eCells_len1 _ _ ‹_› | exact eCells_isByte _ _ ‹_› | (intro hh_; have hg_ := hh_; (try simp only [condT_ff, condF_tt, notE_t, notE_f, Bool.and_eq_true, ne_eq, decide_eq_true_eq, decide_eq_false_iff_not] at hg_)) | intro _ | exact rfl | omega))
        have hcv : (bif bif !(litD a).2 then true else !decide (b.op = 2) then true else !strEq (strB b.n) (strB col)) = decide (¬ ((litD a).2 = true ∧ b.op = 2 ∧ b.n = col)) := by
          rw [strEq_B]
          cases (litD a).2 <;> by_cases h1 : b.op = 2 <;> by_cases h2 : b.n = col <;> simp [h1, h2]
        repeat' (first | refine tr_seq ?_ | refine tr_block ?_ | refine tr_skip ?_)
        refine tr_cond rfl (fun hc => ?_) (fun hc => ?_)
        · have hc : (bif bif !(litD a).2 then true else !decide (b.op = 2) then true else !strEq (strB b.n) (strB col)) = true := hc
          rw [hcv] at hc
          have hc := of_decide_eq_true hc
          have hno : cmpO y col = none := by
            rw [hcm]
            split
            · rename_i hq
              cases hl : litO a with
              | none => rfl
              | some m => exact absurd ⟨by unfold litD; rw [hl]; rfl, hcq hq⟩ hc
            · rfl
          have hr := rg_no hno
          refine tr_exit ?_
          repeat' (first | refine tr_seq ?_ | refine reg (T := tab) tOk hnt rfl ?_ ?_ | refine regD (T := tab) tOk mixedR hnt rfl (by decide +kernel) ?_ ?_ | refine tr_block ?_ | refine tr_skip ?_)
          · (dsimp only [AllP]; (repeat' first | exact trivial | assumption | exact Nat.le_of_ble_eq_true rfl | apply And.intro | decide | intro _ | exact rfl))
          rw [h64]
          refine ⟨(i + 1, lo, hi, nn), ⟨by dsimp only; omega, by dsimp only; rw [hF, hr]; exact (Jr_step hJ rfl (fun _ _ => by dsimp only; omega) (fun _ _ => by dsimp only; omega))⟩, by dsimp only; omega, le_of (ad := []) (by refine ⟨?_, ?_, ?_, ?_, ?_, ?_, ?_, trivial⟩ <;> first | exact trivial | rfl | exact ⟨rfl, rfl⟩ | exact ⟨rfl, rfl, rfl⟩ | exact ⟨rfl, rfl, rfl, rfl⟩ | exact ⟨rfl, rfl, rfl, rfl, rfl⟩ | exact congrArg (fun z : Int => E.v (.int .i64 z)) (wrap64_id (by omega) (by omega)) | (refine ⟨rfl, ?_⟩; repeat' first | exact trivial | rfl | apply And.intro)) (memOk_box rfl rfl rfl (memOk_box rfl rfl rfl trivial))⟩
        have hc : (bif bif !(litD a).2 then true else !decide (b.op = 2) then true else !strEq (strB b.n) (strB col)) = false := hc
        rw [hcv] at hc
        have hc := Classical.not_not.1 (of_decide_eq_false hc)
        obtain ⟨n, hl⟩ : ∃ n, litO a = some n := by
          cases hl : litO a with
          | none =>
            have h0 : (litD a).2 = true := hc.1
            unfold litD at h0
            rw [hl] at h0
            exact absurd h0 Bool.false_ne_true
          | some m => exact ⟨m, rfl⟩
        have hld : litD a = (n, true) := by unfold litD; rw [hl]; rfl
        have hnr := litO_rng k1 hl
        rw [hcq' hc.2, hl] at hcm
        have hr := rg_cmp hcm
        rw [hld]
        clear hlit hcv hc hcm hcq hcq' hld hl
        have hr : rgO col y = (n, hiI) := by rw [hr]; simp [bdF]
        repeat' (first | refine tr_seq ?_ | refine reg (T := tab) tOk hnt rfl ?_ ?_ | refine regD (T := tab) tOk mixedR hnt rfl (by decide +kernel) ?_ ?_ | refine tr_block ?_ | refine tr_skip ?_)
        · (dsimp only [AllP]; (repeat' first | exact trivial | assumption | exact Nat.le_of_ble_eq_true rfl | apply And.intro | decide | intro _ | exact rfl))
        repeat' (first | refine tr_seq ?_ | refine tr_block ?_ | refine tr_skip ?_)
        refine tr_cond rfl (fun hc => ?_) (fun hc => ?_)
        · repeat' (first | refine tr_seq ?_ | refine reg (T := tab) tOk hnt rfl ?_ ?_ | refine regD (T := tab) tOk mixedR hnt rfl (by decide +kernel) ?_ ?_ | refine tr_block ?_ | refine tr_skip ?_)
          · (dsimp only [AllP]; (repeat' first | exact trivial | assumption | exact Nat.le_of_ble_eq_true rfl | apply And.intro | decide | intro _ | exact rfl))
          · (dsimp only [AllP]; (repeat' first | exact trivial | assumption | exact Nat.le_of_ble_eq_true rfl | apply And.intro | decide | intro _ | exact rfl))
          repeat' (first | refine tr_seq ?_ | refine tr_block ?_ | refine tr_skip ?_)
          refine tr_cond rfl (fun hc => ?_) (fun hc => ?_)
          · exact absurd (show false = true from hc) (by decide)
          repeat' (first | refine tr_seq ?_ | refine reg (T := tab) tOk hnt rfl ?_ ?_ | refine regD (T := tab) tOk mixedR hnt rfl (by decide +kernel) ?_ ?_ | refine tr_block ?_ | refine tr_skip ?_)
          · (dsimp only [AllP]; (repeat' first | exact trivial | assumption | exact Nat.le_of_ble_eq_true rfl | apply And.intro | decide | intro _ | exact rfl))
          · (dsimp only [AllP]; (repeat' first | exact trivial | assumption | exact Nat.le_of_ble_eq_true rfl | apply And.intro | decide | intro _ | exact rfl))
          repeat' (first | refine tr_seq ?_ | refine tr_block ?_ | refine tr_skip ?_)
          refine tr_cond rfl (fun hc => ?_) (fun hc => ?_)
          · exact absurd (show false = true from hc) (by decide)
          repeat' (first | refine tr_seq ?_ | refine reg (T := tab) tOk hnt rfl ?_ ?_ | refine regD (T := tab) tOk mixedR hnt rfl (by decide +kernel) ?_ ?_ | refine tr_block ?_ | refine tr_skip ?_)
          · (dsimp only [AllP]; (repeat' first | exact trivial | assumption | exact Nat.le_of_ble_eq_true rfl | apply And.intro | decide | intro _ | exact rfl))
          repeat' (first | refine tr_seq ?_ | refine tr_block ?_ | refine tr_skip ?_)
          refine tr_cond rfl (fun hc => ?_) (fun hc => ?_)
          · exact absurd (show false = true from hc) (by decide)
          repeat' (first | refine tr_seq ?_ | refine reg (T := tab) tOk hnt rfl ?_ ?_ | refine regD (T := tab) tOk mixedR hnt rfl (by decide +kernel) ?_ ?_ | refine tr_block ?_ | refine tr_skip ?_)
          · (dsimp only [AllP]; (repeat' first | exact trivial | assumption | exact Nat.le_of_ble_eq_true rfl | apply And.intro | decide | intro _ | exact rfl))
          rw [h64]
          refine ⟨(i + 1, (if lo < n then n else lo), hi, (bif nn then true else (bif decide ((14 : Int) = 13) then decide (n = 9223372036854775807) else false))), ⟨by dsimp only; omega, by dsimp only; rw [hF, hr]; exact (Jr_step hJ (by cases nn <;> rfl) (fun _ _ => by dsimp only; split <;> omega) (fun _ _ => by dsimp only; omega))⟩, by dsimp only; omega, le_of (ad := []) (by refine ⟨?_, ?_, ?_, ?_, ?_, ?_, ?_, trivial⟩ <;> first | exact trivial | rfl | exact ⟨rfl, rfl⟩ | exact ⟨rfl, rfl, rfl⟩ | exact ⟨rfl, rfl, rfl, rfl⟩ | exact ⟨rfl, rfl, rfl, rfl, rfl⟩ | exact congrArg (fun z : Int => E.v (.int .i64 z)) (wrap64_id (by omega) (by omega)) | (refine ⟨rfl, ?_⟩; repeat' first | exact trivial | rfl | apply And.intro)) (memOk_box rfl rfl rfl (memOk_box rfl rfl rfl trivial))⟩
        exact absurd (show true = false from hc) (by decide)
      have heq : a.op = 2 := by
        have hc : (!decide (a.op = 2)) = false := hc
        by_cases h2 : a.op = 2
        · exact h2
        · rw [decide_eq_false h2] at hc; exact absurd hc (by decide)
      have hcm := cmp_left (col := col) h9' ha heq
      rw [h] at hcm
      have hcq : a.n = col → a.op = 2 ∧ a.n = col := fun hq => ⟨heq, hq⟩
      have hcq' : a.op = 2 ∧ a.n = col → (if a.n = col then (litO b).map fun n => ((12 : Int), n) else none) = (litO b).map fun n => (12, n) := fun h => if_pos h.2
      have hlit := litNumber_fn b k2
      rw [eEx_eq] at hlit
      repeat' (first | refine tr_seq ?_ | refine tr_block ?_ | refine tr_skip ?_)
      refine tr_region (lex (T := tab) tOk hnt rfl ?_ (call rfl rfl rfl rfl rfl rfl rfl hnt (hlit) (lex (T := tab) tOk hnt rfl ?_ (Lex.nil _)))) ?_
      · (dsimp only [AllP]; (repeat' first | exact trivial | assumption | exact Nat.le_of_ble_eq_true rfl | apply And.intro | exact eCells_len1 _ _ ‹_› | exact eCells_isByte _ _ ‹_› | (intro hh_; have hg_ := hh_; (try simp only [condT_ff, condF_tt, notE_t, notE_f, Bool.and_eq_true, ne_eq, decide_eq_true_eq, decide_eq_false_iff_not] at hg_)) | intro _ | exact rfl | omega))
      · (dsimp only [AllP]; (repeat' first | exact trivial | assumption | exact Nat.le_of_ble_eq_true rfl | apply And.intro | decide | intro _ | exact rfl))
      repeat' (first | refine tr_seq ?_ | refine tr_block ?_ | refine tr_skip ?_)
      first | refine reg (T := tab) tOk hnt rfl ?_ ?_ | refine regD (T := tab) tOk mixedR hnt rfl (by decide +kernel) ?_ ?_
      · (dsimp only [AllP]; (repeat' first | exact trivial | assumption | exact Nat.le_of_ble_eq_true rfl | apply And.intro | exact eCells_len1 _ _ ‹_› | exact eCells_isByte _ _ ‹_› | (intro hh_; have hg_ := hh_; (try simp only [condT_ff, condF_tt, notE_t, notE_f, Bool.and_eq_true, ne_eq, decide_eq_true_eq, decide_eq_false_iff_not] at hg_)) | intro _ | exact rfl | omega))
      have hcv : (bif bif !(litD b).2 then true else !decide (a.op = 2) then true else !strEq (strB a.n) (strB col)) = decide (¬ ((litD b).2 = true ∧ a.op = 2 ∧ a.n = col)) := by
        rw [strEq_B]
        cases (litD b).2 <;> by_cases h1 : a.op = 2 <;> by_cases h2 : a.n = col <;> simp [h1, h2]
      repeat' (first | refine tr_seq ?_ | refine tr_block ?_ | refine tr_skip ?_)
      refine tr_cond rfl (fun hc => ?_) (fun hc => ?_)
      · have hc : (bif bif !(litD b).2 then true else !decide (a.op = 2) then true else !strEq (strB a.n) (strB col)) = true := hc
        rw [hcv] at hc
        have hc := of_decide_eq_true hc
        have hno : cmpO y col = none := by
          rw [hcm]
          split
          · rename_i hq
            cases hl : litO b with
            | none => rfl
            | some m => exact absurd ⟨by unfold litD; rw [hl]; rfl, hcq hq⟩ hc
          · rfl
        have hr := rg_no hno
        refine tr_exit ?_
        repeat' (first | refine tr_seq ?_ | refine reg (T := tab) tOk hnt rfl ?_ ?_ | refine regD (T := tab) tOk mixedR hnt rfl (by decide +kernel) ?_ ?_ | refine tr_block ?_ | refine tr_skip ?_)
        · (dsimp only [AllP]; (repeat' first | exact trivial | assumption | exact Nat.le_of_ble_eq_true rfl | apply And.intro | decide | intro _ | exact rfl))
        rw [h64]
        refine ⟨(i + 1, lo, hi, nn), ⟨by dsimp only; omega, by dsimp only; rw [hF, hr]; exact (Jr_step hJ rfl (fun _ _ => by dsimp only; omega) (fun _ _ => by dsimp only; omega))⟩, by dsimp only; omega, le_of (ad := []) (by refine ⟨?_, ?_, ?_, ?_, ?_, ?_, ?_, trivial⟩ <;> first | exact trivial | rfl | exact ⟨rfl, rfl⟩ | exact ⟨rfl, rfl, rfl⟩ | exact ⟨rfl, rfl, rfl, rfl⟩ | exact ⟨rfl, rfl, rfl, rfl, rfl⟩ | exact congrArg (fun z : Int => E.v (.int .i64 z)) (wrap64_id (by omega) (by omega)) | (refine ⟨rfl, ?_⟩; repeat' first | exact trivial | rfl | apply And.intro)) (memOk_box rfl rfl rfl (memOk_box rfl rfl rfl trivial))⟩
      have hc : (bif bif !(litD b).2 then true else !decide (a.op = 2) then true else !strEq (strB a.n) (strB col)) = false := hc
      rw [hcv] at hc
      have hc := Classical.not_not.1 (of_decide_eq_false hc)
      obtain ⟨n, hl⟩ : ∃ n, litO b = some n := by
        cases hl : litO b with
        | none =>
          have h0 : (litD b).2 = true := hc.1
          unfold litD at h0
          rw [hl] at h0
          exact absurd h0 Bool.false_ne_true
        | some m => exact ⟨m, rfl⟩
      have hld : litD b = (n, true) := by unfold litD; rw [hl]; rfl
      have hnr := litO_rng k2 hl
      rw [hcq' hc.2, hl] at hcm
      have hr := rg_cmp hcm
      rw [hld]
      clear hlit hcv hc hcm hcq hcq' hld hl
      have hr : rgO col y = (loI, n) := by rw [hr]; simp [bdF]
      repeat' (first | refine tr_seq ?_ | refine reg (T := tab) tOk hnt rfl ?_ ?_ | refine regD (T := tab) tOk mixedR hnt rfl (by decide +kernel) ?_ ?_ | refine tr_block ?_ | refine tr_skip ?_)
      · (dsimp only [AllP]; (repeat' first | exact trivial | assumption | exact Nat.le_of_ble_eq_true rfl | apply And.intro | decide | intro _ | exact rfl))
      repeat' (first | refine tr_seq ?_ | refine tr_block ?_ | refine tr_skip ?_)
      refine tr_cond rfl (fun hc => ?_) (fun hc => ?_)
      · exact absurd (show false = true from hc) (by decide)
      repeat' (first | refine tr_seq ?_ | refine reg (T := tab) tOk hnt rfl ?_ ?_ | refine regD (T := tab) tOk mixedR hnt rfl (by decide +kernel) ?_ ?_ | refine tr_block ?_ | refine tr_skip ?_)
      · (dsimp only [AllP]; (repeat' first | exact trivial | assumption | exact Nat.le_of_ble_eq_true rfl | apply And.intro | decide | intro _ | exact rfl))
      repeat' (first | refine tr_seq ?_ | refine tr_block ?_ | refine tr_skip ?_)
      refine tr_cond rfl (fun hc => ?_) (fun hc => ?_)
      · repeat' (first | refine tr_seq ?_ | refine reg (T := tab) tOk hnt rfl ?_ ?_ | refine regD (T := tab) tOk mixedR hnt rfl (by decide +kernel) ?_ ?_ | refine tr_block ?_ | refine tr_skip ?_)
        · (dsimp only [AllP]; (repeat' first | exact trivial | assumption | exact Nat.le_of_ble_eq_true rfl | apply And.intro | decide | intro _ | exact rfl))
        · (dsimp only [AllP]; (repeat' first | exact trivial | assumption | exact Nat.le_of_ble_eq_true rfl | apply And.intro | decide | intro _ | exact rfl))
        repeat' (first | refine tr_seq ?_ | refine tr_block ?_ | refine tr_skip ?_)
        refine tr_cond rfl (fun hc => ?_) (fun hc => ?_)
        · exact absurd (show false = true from hc) (by decide)
        repeat' (first | refine tr_seq ?_ | refine reg (T := tab) tOk hnt rfl ?_ ?_ | refine regD (T := tab) tOk mixedR hnt rfl (by decide +kernel) ?_ ?_ | refine tr_block ?_ | refine tr_skip ?_)
        · (dsimp only [AllP]; (repeat' first | exact trivial | assumption | exact Nat.le_of_ble_eq_true rfl | apply And.intro | decide | intro _ | exact rfl))
        rw [h64]
        refine ⟨(i + 1, lo, (if n < hi then n else hi), nn), ⟨by dsimp only; omega, by dsimp only; rw [hF, hr]; exact (Jr_step hJ rfl (fun _ _ => by dsimp only; omega) (fun _ _ => by dsimp only; split <;> omega))⟩, by dsimp only; omega, le_of (ad := []) (by refine ⟨?_, ?_, ?_, ?_, ?_, ?_, ?_, trivial⟩ <;> first | exact trivial | rfl | exact ⟨rfl, rfl⟩ | exact ⟨rfl, rfl, rfl⟩ | exact ⟨rfl, rfl, rfl, rfl⟩ | exact ⟨rfl, rfl, rfl, rfl, rfl⟩ | exact congrArg (fun z : Int => E.v (.int .i64 z)) (wrap64_id (by omega) (by omega)) | (refine ⟨rfl, ?_⟩; repeat' first | exact trivial | rfl | apply And.intro)) (memOk_box rfl rfl rfl (memOk_box rfl rfl rfl trivial))⟩
      exact absurd (show true = false from hc) (by decide)
    · have g12 : ∀ q : List E, q = q := fun _ => rfl
      rw [h]
      repeat' (first | refine tr_seq ?_ | refine tr_block ?_ | refine tr_skip ?_)
      first | refine reg (T := tab) tOk hnt rfl ?_ ?_ | refine regD (T := tab) tOk mixedR hnt rfl (by decide +kernel) ?_ ?_
      · (dsimp only [AllP]; (repeat' first | exact trivial | assumption | exact Nat.le_of_ble_eq_true rfl | apply And.intro | exact eCells_len1 _ _ ‹_› | exact eCells_isByte _ _ ‹_› | (intro hh_; have hg_ := hh_; (try simp only [condT_ff, condF_tt, notE_t, notE_f, Bool.and_eq_true, ne_eq, decide_eq_true_eq, decide_eq_false_iff_not] at hg_)) | intro _ | exact rfl | omega))
        all_goals first | exact (show (0 : Int) < ((2 : Nat) : Int) by decide) | exact (show (1 : Int) < ((2 : Nat) : Int) by decide) | exact ha7 | exact hb7 | exact ta7 | exact tb7 | trace_state
      refine tr_le (s' := St.of [(1, .one (.e (eT col))), (4, .one (.ptr 4 0 0)), (7, .one (.ptr 7 0 0)), (8, .v (.bool nn)), (11, .one (.e (eI 13))), (12, .one (.ptr 12 0 0)), (13, .one (.ptr 13 0 0)), (24, .one (.e (.sl (eExs L)))), (25, .one (.e (eI ((eExs L).length : Int)))), (26, .one (.e (eI (i : Int))))] [(4, ⟨0, .box (.es (eRg (0, 0))), 0⟩), (7, ⟨0, .box (.es (eRg (lo, hi))), 0⟩), (12, ⟨0, .box (.es [eI a.op, eI a.v.k, eI a.v.i, eQ a.v.b, eT a.v.t, eT a.n, .sl (eExs a.ar)]), 0⟩), (13, ⟨0, .box (.es [eI b.op, eI b.v.k, eI b.v.i, eQ b.v.b, eT b.v.t, eT b.n, .sl (eExs b.ar)]), 0⟩)]) (le_of (ad := []) (by refine ⟨?_, ?_, ?_, ?_, ?_, ?_, ?_, ?_, ?_, ?_, trivial⟩ <;> first | exact trivial | rfl | exact ⟨rfl, rfl⟩ | exact ⟨rfl, rfl, rfl⟩ | exact ⟨rfl, rfl, rfl, rfl⟩ | exact ⟨rfl, rfl, rfl, rfl, rfl⟩ | exact congrArg (fun z : Int => E.v (.int .i64 z)) (wrap64_id (by omega) (by omega)) | (refine ⟨rfl, ?_⟩; repeat' first | exact trivial | rfl | apply And.intro)) (memOk_box rfl rfl rfl (memOk_box rfl rfl rfl (memOk_box rfl rfl ((exAll a).trans (eEx_eq a)) (memOk_box rfl rfl ((exAll b).trans (eEx_eq b)) trivial))))) ?_
      repeat' (first | refine tr_seq ?_ | refine tr_block ?_ | refine tr_skip ?_)
      first | refine reg (T := tab) tOk hnt rfl ?_ ?_ | refine regD (T := tab) tOk mixedR hnt rfl (by decide +kernel) ?_ ?_
      · (dsimp only [AllP]; (repeat' first | exact trivial | assumption | exact Nat.le_of_ble_eq_true rfl | apply And.intro | exact eCells_len1 _ _ ‹_› | exact eCells_isByte _ _ ‹_› | (intro hh_; have hg_ := hh_; (try simp only [condT_ff, condF_tt, notE_t, notE_f, Bool.and_eq_true, ne_eq, decide_eq_true_eq, decide_eq_false_iff_not] at hg_)) | intro _ | exact rfl | omega))
      repeat' (first | refine tr_seq ?_ | refine tr_block ?_ | refine tr_skip ?_)
      refine tr_cond rfl (fun hc => ?_) (fun hc => ?_)
      · have hne : a.op ≠ 2 := by
          have hc : (!decide (a.op = 2)) = true := hc
          intro h2
          rw [h2] at hc
          exact absurd hc (by decide)
        have hcm := cmp_right (col := col) h9' ha hne
        rw [h] at hcm
        have hcm : cmpO y col = if b.op = 2 ∧ b.n = col then (litO a).map fun n => (11, n) else none := hcm
        have hcq : b.op = 2 ∧ b.n = col → b.op = 2 ∧ b.n = col := id
        have hcq' : b.op = 2 ∧ b.n = col → (if b.op = 2 ∧ b.n = col then (litO a).map fun n => ((11 : Int), n) else none) = (litO a).map fun n => (11, n) := fun h => if_pos h
        repeat' (first | refine tr_seq ?_ | refine tr_block ?_ | refine tr_skip ?_)
        first | refine reg (T := tab) tOk hnt rfl ?_ ?_ | refine regD (T := tab) tOk mixedR hnt rfl (by decide +kernel) ?_ ?_
        · (dsimp only [AllP]; (repeat' first | exact trivial | assumption | exact Nat.le_of_ble_eq_true rfl | apply And.intro | exact eCells_len1 _ _ ‹_› | exact eCells_isByte _ _ ‹_› | (intro hh_; have hg_ := hh_; (try simp only [condT_ff, condF_tt, notE_t, notE_f, Bool.and_eq_true, ne_eq, decide_eq_true_eq, decide_eq_false_iff_not] at hg_)) | intro _ | exact rfl | omega))
          all_goals first | decide | trace_state
        refine tr_le (s' := St.of [(1, .one (.e (eT col))), (4, .one (.ptr 4 0 0)), (7, .one (.ptr 7 0 0)), (8, .v (.bool nn)), (11, .one (.e (eI 11))), (12, .one (.ptr 12 0 0)), (13, .one (.ptr 13 0 0)), (24, .one (.e (.sl (eExs L)))), (25, .one (.e (eI ((eExs L).length : Int)))), (26, .one (.e (eI (i : Int))))] [(4, ⟨0, .box (.es (eRg (0, 0))), 0⟩), (7, ⟨0, .box (.es (eRg (lo, hi))), 0⟩), (12, ⟨0, .box (.es [eI b.op, eI b.v.k, eI b.v.i, eQ b.v.b, eT b.v.t, eT b.n, .sl (eExs b.ar)]), 0⟩), (13, ⟨0, .box (.es [eI a.op, eI a.v.k, eI a.v.i, eQ a.v.b, eT a.v.t, eT a.n, .sl (eExs a.ar)]), 0⟩)]) (le_of (ad := []) (by refine ⟨?_, ?_, ?_, ?_, ?_, ?_, ?_, ?_, ?_, ?_, trivial⟩ <;> first | exact trivial | rfl | exact ⟨rfl, rfl⟩ | exact ⟨rfl, rfl, rfl⟩ | exact ⟨rfl, rfl, rfl, rfl⟩ | exact ⟨rfl, rfl, rfl, rfl, rfl⟩ | exact congrArg (fun z : Int => E.v (.int .i64 z)) (wrap64_id (by omega) (by omega)) | (refine ⟨rfl, ?_⟩; repeat' first | exact trivial | rfl | apply And.intro)) (memOk_box rfl rfl rfl (memOk_box rfl rfl rfl (memOk_box rfl rfl rfl (memOk_box rfl rfl rfl trivial))))) ?_
        have hlit := litNumber_fn a k1
        rw [eEx_eq] at hlit
        repeat' (first | refine tr_seq ?_ | refine tr_block ?_ | refine tr_skip ?_)
        refine tr_region (lex (T := tab) tOk hnt rfl ?_ (call rfl rfl rfl rfl rfl rfl rfl hnt (hlit) (lex (T := tab) tOk hnt rfl ?_ (Lex.nil _)))) ?_
        · (dsimp only [AllP]; (repeat' first | exact trivial | assumption | exact Nat.le_of_ble_eq_true rfl | apply And.intro | exact eCells_len1 _ _ ‹_› | exact eCells_isByte _ _ ‹_› | (intro hh_; have hg_ := hh_; (try simp only [condT_ff, condF_tt, notE_t, notE_f, Bool.and_eq_true, ne_eq, decide_eq_true_eq, decide_eq_false_iff_not] at hg_)) | intro _ | exact rfl | omega))
        · (dsimp only [AllP]; (repeat' first | exact trivial | assumption | exact Nat.le_of_ble_eq_true rfl | apply And.intro | decide | intro _ | exact rfl))
        repeat' (first | refine tr_seq ?_ | refine tr_block ?_ | refine tr_skip ?_)
        first | refine reg (T := tab) tOk hnt rfl ?_ ?_ | refine regD (T := tab) tOk mixedR hnt rfl (by decide +kernel) ?_ ?_
        · (dsimp only [AllP]; (repeat' first | exact trivial | assumption | exact Nat.le_of_ble_eq_true rfl | apply And.intro | exact eCells_len1 _ _ ‹_› | exact eCells_isByte _ _ ‹_› | (intro hh_; have hg_ := hh_; (try simp only [condT_ff, condF_tt, notE_t, notE_f, Bool.and_eq_true, ne_eq, decide_eq_true_eq, decide_eq_false_iff_not] at hg_)) | intro _ | exact rfl | omega))
        have hcv : (bif bif !(litD a).2 then true else !decide (b.op = 2) then true else !strEq (strB b.n) (strB col)) = decide (¬ ((litD a).2 = true ∧ b.op = 2 ∧ b.n = col)) := by
          rw [strEq_B]
          cases (litD a).2 <;> by_cases h1 : b.op = 2 <;> by_cases h2 : b.n = col <;> simp [h1, h2]
        repeat' (first | refine tr_seq ?_ | refine tr_block ?_ | refine tr_skip ?_)
        refine tr_cond rfl (fun hc => ?_) (fun hc => ?_)
        · have hc : (bif bif !(litD a).2 then true else !decide (b.op = 2) then true else !strEq (strB b.n) (strB col)) = true := hc
          rw [hcv] at hc
          have hc := of_decide_eq_true hc
          have hno : cmpO y col = none := by
            rw [hcm]
            split
            · rename_i hq
              cases hl : litO a with
              | none => rfl
              | some m => exact absurd ⟨by unfold litD; rw [hl]; rfl, hcq hq⟩ hc
            · rfl
          have hr := rg_no hno
          refine tr_exit ?_
          repeat' (first | refine tr_seq ?_ | refine reg (T := tab) tOk hnt rfl ?_ ?_ | refine regD (T := tab) tOk mixedR hnt rfl (by decide +kernel) ?_ ?_ | refine tr_block ?_ | refine tr_skip ?_)
          · (dsimp only [AllP]; (repeat' first | exact trivial | assumption | exact Nat.le_of_ble_eq_true rfl | apply And.intro | decide | intro _ | exact rfl))
          rw [h64]
          refine ⟨(i + 1, lo, hi, nn), ⟨by dsimp only; omega, by dsimp only; rw [hF, hr]; exact (Jr_step hJ rfl (fun _ _ => by dsimp only; omega) (fun _ _ => by dsimp only; omega))⟩, by dsimp only; omega, le_of (ad := []) (by refine ⟨?_, ?_, ?_, ?_, ?_, ?_, ?_, trivial⟩ <;> first | exact trivial | rfl | exact ⟨rfl, rfl⟩ | exact ⟨rfl, rfl, rfl⟩ | exact ⟨rfl, rfl, rfl, rfl⟩ | exact ⟨rfl, rfl, rfl, rfl, rfl⟩ | exact congrArg (fun z : Int => E.v (.int .i64 z)) (wrap64_id (by omega) (by omega)) | (refine ⟨rfl, ?_⟩; repeat' first | exact trivial | rfl | apply And.intro)) (memOk_box rfl rfl rfl (memOk_box rfl rfl rfl trivial))⟩
        have hc : (bif bif !(litD a).2 then true else !decide (b.op = 2) then true else !strEq (strB b.n) (strB col)) = false := hc
        rw [hcv] at hc
        have hc := Classical.not_not.1 (of_decide_eq_false hc)
        obtain ⟨n, hl⟩ : ∃ n, litO a = some n := by
          cases hl : litO a with
          | none =>
            have h0 : (litD a).2 = true := hc.1
            unfold litD at h0
            rw [hl] at h0
            exact absurd h0 Bool.false_ne_true
          | some m => exact ⟨m, rfl⟩
        have hld : litD a = (n, true) := by unfold litD; rw [hl]; rfl
        have hnr := litO_rng k1 hl
        rw [hcq' hc.2, hl] at hcm
        have hr := rg_cmp hcm
        rw [hld]
        clear hlit hcv hc hcm hcq hcq' hld hl
        have hr : rgO col y = (loI, n - 1) := by rw [hr]; simp [bdF]
        have hw : IntKind.i64.wrap (n - 1) = n - 1 := wrap64_id (by omega) (by omega)
        repeat' (first | refine tr_seq ?_ | refine reg (T := tab) tOk hnt rfl ?_ ?_ | refine regD (T := tab) tOk mixedR hnt rfl (by decide +kernel) ?_ ?_ | refine tr_block ?_ | refine tr_skip ?_)
        · (dsimp only [AllP]; (repeat' first | exact trivial | assumption | exact Nat.le_of_ble_eq_true rfl | apply And.intro | decide | intro _ | exact rfl))
        repeat' (first | refine tr_seq ?_ | refine tr_block ?_ | refine tr_skip ?_)
        refine tr_cond rfl (fun hc => ?_) (fun hc => ?_)
        · exact absurd (show false = true from hc) (by decide)
        repeat' (first | refine tr_seq ?_ | refine reg (T := tab) tOk hnt rfl ?_ ?_ | refine regD (T := tab) tOk mixedR hnt rfl (by decide +kernel) ?_ ?_ | refine tr_block ?_ | refine tr_skip ?_)
        · (dsimp only [AllP]; (repeat' first | exact trivial | assumption | exact Nat.le_of_ble_eq_true rfl | apply And.intro | decide | intro _ | exact rfl))
        repeat' (first | refine tr_seq ?_ | refine tr_block ?_ | refine tr_skip ?_)
        refine tr_cond rfl (fun hc => ?_) (fun hc => ?_)
        · exact absurd (show false = true from hc) (by decide)
        repeat' (first | refine tr_seq ?_ | refine reg (T := tab) tOk hnt rfl ?_ ?_ | refine regD (T := tab) tOk mixedR hnt rfl (by decide +kernel) ?_ ?_ | refine tr_block ?_ | refine tr_skip ?_)
        · (dsimp only [AllP]; (repeat' first | exact trivial | assumption | exact Nat.le_of_ble_eq_true rfl | apply And.intro | decide | intro _ | exact rfl))
        repeat' (first | refine tr_seq ?_ | refine tr_block ?_ | refine tr_skip ?_)
        refine tr_cond rfl (fun hc => ?_) (fun hc => ?_)
        · repeat' (first | refine tr_seq ?_ | refine reg (T := tab) tOk hnt rfl ?_ ?_ | refine regD (T := tab) tOk mixedR hnt rfl (by decide +kernel) ?_ ?_ | refine tr_block ?_ | refine tr_skip ?_)
          · (dsimp only [AllP]; (repeat' first | exact trivial | assumption | exact Nat.le_of_ble_eq_true rfl | apply And.intro | decide | intro _ | exact rfl))
          · (dsimp only [AllP]; (repeat' first | exact trivial | assumption | exact Nat.le_of_ble_eq_true rfl | apply And.intro | decide | intro _ | exact rfl))
          rw [h64, hw]
          refine ⟨(i + 1, lo, (if n - 1 < hi then n - 1 else hi), nn), ⟨by dsimp only; omega, by dsimp only; rw [hF, hr]; exact (Jr_step hJ rfl (fun _ _ => by dsimp only; omega) (fun _ _ => by dsimp only; split <;> omega))⟩, by dsimp only; omega, le_of (ad := []) (by refine ⟨?_, ?_, ?_, ?_, ?_, ?_, ?_, trivial⟩ <;> first | exact trivial | rfl | exact ⟨rfl, rfl⟩ | exact ⟨rfl, rfl, rfl⟩ | exact ⟨rfl, rfl, rfl, rfl⟩ | exact ⟨rfl, rfl, rfl, rfl, rfl⟩ | exact congrArg (fun z : Int => E.v (.int .i64 z)) (wrap64_id (by omega) (by omega)) | (refine ⟨rfl, ?_⟩; repeat' first | exact trivial | rfl | apply And.intro)) (memOk_box rfl rfl rfl (memOk_box rfl rfl rfl trivial))⟩
        exact absurd (show true = false from hc) (by decide)
      have heq : a.op = 2 := by
        have hc : (!decide (a.op = 2)) = false := hc
        by_cases h2 : a.op = 2
        · exact h2
        · rw [decide_eq_false h2] at hc; exact absurd hc (by decide)
      have hcm := cmp_left (col := col) h9' ha heq
      rw [h] at hcm
      have hcq : a.n = col → a.op = 2 ∧ a.n = col := fun hq => ⟨heq, hq⟩
      have hcq' : a.op = 2 ∧ a.n = col → (if a.n = col then (litO b).map fun n => ((13 : Int), n) else none) = (litO b).map fun n => (13, n) := fun h => if_pos h.2
      have hlit := litNumber_fn b k2
      rw [eEx_eq] at hlit
      repeat' (first | refine tr_seq ?_ | refine tr_block ?_ | refine tr_skip ?_)
      refine tr_region (lex (T := tab) tOk hnt rfl ?_ (call rfl rfl rfl rfl rfl rfl rfl hnt (hlit) (lex (T := tab) tOk hnt rfl ?_ (Lex.nil _)))) ?_
      · (dsimp only [AllP]; (repeat' first | exact trivial | assumption | exact Nat.le_of_ble_eq_true rfl | apply And.intro | exact eCells_len1 _ _ ‹_› | exact eCells_isByte _ _ ‹_› | (intro hh_; have hg_ := hh_; (try simp only [condT_ff, condF_tt, notE_t, notE_f, Bool.and_eq_true, ne_eq, decide_eq_true_eq, decide_eq_false_iff_not] at hg_)) | intro _ | exact rfl | omega))
      · (dsimp only [AllP]; (repeat' first | exact trivial | assumption | exact Nat.le_of_ble_eq_true rfl | apply And.intro | decide | intro _ | exact rfl))
      repeat' (first | refine tr_seq ?_ | refine tr_block ?_ | refine tr_skip ?_)
      first | refine reg (T := tab) tOk hnt rfl ?_ ?_ | refine regD (T := tab) tOk mixedR hnt rfl (by decide +kernel) ?_ ?_
      · (dsimp only [AllP]; (repeat' first | exact trivial | assumption | exact Nat.le_of_ble_eq_true rfl | apply And.intro | exact eCells_len1 _ _ ‹_› | exact eCells_isByte _ _ ‹_› | (intro hh_; have hg_ := hh_; (try simp only [condT_ff, condF_tt, notE_t, notE_f, Bool.and_eq_true, ne_eq, decide_eq_true_eq, decide_eq_false_iff_not] at hg_)) | intro _ | exact rfl | omega))
      have hcv : (bif bif !(litD b).2 then true else !decide (a.op = 2) then true else !strEq (strB a.n) (strB col)) = decide (¬ ((litD b).2 = true ∧ a.op = 2 ∧ a.n = col)) := by
        rw [strEq_B]
        cases (litD b).2 <;> by_cases h1 : a.op = 2 <;> by_cases h2 : a.n = col <;> simp [h1, h2]
      repeat' (first | refine tr_seq ?_ | refine tr_block ?_ | refine tr_skip ?_)
      refine tr_cond rfl (fun hc => ?_) (fun hc => ?_)
      · have hc : (bif bif !(litD b).2 then true else !decide (a.op = 2) then true else !strEq (strB a.n) (strB col)) = true := hc
        rw [hcv] at hc
        have hc := of_decide_eq_true hc
        have hno : cmpO y col = none := by
          rw [hcm]
          split
          · rename_i hq
            cases hl : litO b with
            | none => rfl
            | some m => exact absurd ⟨by unfold litD; rw [hl]; rfl, hcq hq⟩ hc
          · rfl
        have hr := rg_no hno
        refine tr_exit ?_
        repeat' (first | refine tr_seq ?_ | refine reg (T := tab) tOk hnt rfl ?_ ?_ | refine regD (T := tab) tOk mixedR hnt rfl (by decide +kernel) ?_ ?_ | refine tr_block ?_ | refine tr_skip ?_)
        · (dsimp only [AllP]; (repeat' first | exact trivial | assumption | exact Nat.le_of_ble_eq_true rfl | apply And.intro | decide | intro _ | exact rfl))
        rw [h64]
        refine ⟨(i + 1, lo, hi, nn), ⟨by dsimp only; omega, by dsimp only; rw [hF, hr]; exact (Jr_step hJ rfl (fun _ _ => by dsimp only; omega) (fun _ _ => by dsimp only; omega))⟩, by dsimp only; omega, le_of (ad := []) (by refine ⟨?_, ?_, ?_, ?_, ?_, ?_, ?_, trivial⟩ <;> first | exact trivial | rfl | exact ⟨rfl, rfl⟩ | exact ⟨rfl, rfl, rfl⟩ | exact ⟨rfl, rfl, rfl, rfl⟩ | exact ⟨rfl, rfl, rfl, rfl, rfl⟩ | exact congrArg (fun z : Int => E.v (.int .i64 z)) (wrap64_id (by omega) (by omega)) | (refine ⟨rfl, ?_⟩; repeat' first | exact trivial | rfl | apply And.intro)) (memOk_box rfl rfl rfl (memOk_box rfl rfl rfl trivial))⟩
      have hc : (bif bif !(litD b).2 then true else !decide (a.op = 2) then true else !strEq (strB a.n) (strB col)) = false := hc
      rw [hcv] at hc
      have hc := Classical.not_not.1 (of_decide_eq_false hc)
      obtain ⟨n, hl⟩ : ∃ n, litO b = some n := by
        cases hl : litO b with
        | none =>
          have h0 : (litD b).2 = true := hc.1
          unfold litD at h0
          rw [hl] at h0
          exact absurd h0 Bool.false_ne_true
        | some m => exact ⟨m, rfl⟩
      have hld : litD b = (n, true) := by unfold litD; rw [hl]; rfl
      have hnr := litO_rng k2 hl
      rw [hcq' hc.2, hl] at hcm
      have hr := rg_cmp hcm
      rw [hld]
      clear hlit hcv hc hcm hcq hcq' hld hl
      repeat' (first | refine tr_seq ?_ | refine reg (T := tab) tOk hnt rfl ?_ ?_ | refine regD (T := tab) tOk mixedR hnt rfl (by decide +kernel) ?_ ?_ | refine tr_block ?_ | refine tr_skip ?_)
      · (dsimp only [AllP]; (repeat' first | exact trivial | assumption | exact Nat.le_of_ble_eq_true rfl | apply And.intro | decide | intro _ | exact rfl))
      repeat' (first | refine tr_seq ?_ | refine tr_block ?_ | refine tr_skip ?_)
      refine tr_cond rfl (fun hc => ?_) (fun hc => ?_)
      · repeat' (first | refine tr_seq ?_ | refine reg (T := tab) tOk hnt rfl ?_ ?_ | refine regD (T := tab) tOk mixedR hnt rfl (by decide +kernel) ?_ ?_ | refine tr_block ?_ | refine tr_skip ?_)
        · (dsimp only [AllP]; (repeat' first | exact trivial | assumption | exact Nat.le_of_ble_eq_true rfl | apply And.intro | decide | intro _ | exact rfl))
        · (dsimp only [AllP]; (repeat' first | exact trivial | assumption | exact Nat.le_of_ble_eq_true rfl | apply And.intro | decide | intro _ | exact rfl))
        repeat' (first | refine tr_seq ?_ | refine tr_block ?_ | refine tr_skip ?_)
        refine tr_cond rfl (fun hc => ?_) (fun hc => ?_)
        · have hc : decide (n < 9223372036854775807) = true := hc
          have hc := of_decide_eq_true hc
          have hr : rgO col y = (n + 1, hiI) := by rw [hr]; unfold bdF; rw [if_neg (by decide), if_neg (by decide), if_neg (by decide), if_pos rfl, if_neg (by show ¬ n = 9223372036854775807; omega)]
          have hw : IntKind.i64.wrap (n + 1) = n + 1 := wrap64_id (by omega) (by omega)
          repeat' (first | refine tr_seq ?_ | refine reg (T := tab) tOk hnt rfl ?_ ?_ | refine regD (T := tab) tOk mixedR hnt rfl (by decide +kernel) ?_ ?_ | refine tr_block ?_ | refine tr_skip ?_)
          · (dsimp only [AllP]; (repeat' first | exact trivial | assumption | exact Nat.le_of_ble_eq_true rfl | apply And.intro | decide | intro _ | exact rfl))
          · (dsimp only [AllP]; (repeat' first | exact trivial | assumption | exact Nat.le_of_ble_eq_true rfl | apply And.intro | decide | intro _ | exact rfl))
          rw [hw]
          refine tr_exit ?_
          repeat' (first | refine tr_seq ?_ | refine reg (T := tab) tOk hnt rfl ?_ ?_ | refine regD (T := tab) tOk mixedR hnt rfl (by decide +kernel) ?_ ?_ | refine tr_block ?_ | refine tr_skip ?_)
          · (dsimp only [AllP]; (repeat' first | exact trivial | assumption | exact Nat.le_of_ble_eq_true rfl | apply And.intro | decide | intro _ | exact rfl))
          rw [h64]
          refine ⟨(i + 1, (if lo < n + 1 then n + 1 else lo), hi, (bif nn then true else (bif decide ((13 : Int) = 13) then decide (n = 9223372036854775807) else false))), ⟨by dsimp only; omega, by dsimp only; rw [hF, hr]; exact (Jr_step hJ (by rw [decide_eq_false (show ¬ n = 9223372036854775807 by omega)]; cases nn <;> rfl) (fun _ _ => by dsimp only; split <;> omega) (fun _ _ => by dsimp only; omega))⟩, by dsimp only; omega, le_of (ad := []) (by refine ⟨?_, ?_, ?_, ?_, ?_, ?_, ?_, trivial⟩ <;> first | exact trivial | rfl | exact ⟨rfl, rfl⟩ | exact ⟨rfl, rfl, rfl⟩ | exact ⟨rfl, rfl, rfl, rfl⟩ | exact ⟨rfl, rfl, rfl, rfl, rfl⟩ | exact congrArg (fun z : Int => E.v (.int .i64 z)) (wrap64_id (by omega) (by omega)) | (refine ⟨rfl, ?_⟩; repeat' first | exact trivial | rfl | apply And.intro)) (memOk_box rfl rfl rfl (memOk_box rfl rfl rfl trivial))⟩
        have hc : decide (n < 9223372036854775807) = false := hc
        have hc := of_decide_eq_false hc
        have hm : n = 9223372036854775807 := by omega
        have hr : rgO col y = (1, 0) := by rw [hr]; unfold bdF; rw [if_neg (by decide), if_neg (by decide), if_neg (by decide), if_pos rfl, if_pos hm]
        repeat' (first | refine tr_seq ?_ | refine reg (T := tab) tOk hnt rfl ?_ ?_ | refine regD (T := tab) tOk mixedR hnt rfl (by decide +kernel) ?_ ?_ | refine tr_block ?_ | refine tr_skip ?_)
        · (dsimp only [AllP]; (repeat' first | exact trivial | assumption | exact Nat.le_of_ble_eq_true rfl | apply And.intro | decide | intro _ | exact rfl))
        · (dsimp only [AllP]; (repeat' first | exact trivial | assumption | exact Nat.le_of_ble_eq_true rfl | apply And.intro | decide | intro _ | exact rfl))
        repeat' (first | refine tr_seq ?_ | refine tr_block ?_ | refine tr_skip ?_)
        refine tr_cond rfl (fun hc => ?_) (fun hc => ?_)
        · exact absurd (show false = true from hc) (by decide)
        repeat' (first | refine tr_seq ?_ | refine reg (T := tab) tOk hnt rfl ?_ ?_ | refine regD (T := tab) tOk mixedR hnt rfl (by decide +kernel) ?_ ?_ | refine tr_block ?_ | refine tr_skip ?_)
        · (dsimp only [AllP]; (repeat' first | exact trivial | assumption | exact Nat.le_of_ble_eq_true rfl | apply And.intro | decide | intro _ | exact rfl))
        repeat' (first | refine tr_seq ?_ | refine tr_block ?_ | refine tr_skip ?_)
        refine tr_cond rfl (fun hc => ?_) (fun hc => ?_)
        · exact absurd (show false = true from hc) (by decide)
        repeat' (first | refine tr_seq ?_ | refine reg (T := tab) tOk hnt rfl ?_ ?_ | refine regD (T := tab) tOk mixedR hnt rfl (by decide +kernel) ?_ ?_ | refine tr_block ?_ | refine tr_skip ?_)
        · (dsimp only [AllP]; (repeat' first | exact trivial | assumption | exact Nat.le_of_ble_eq_true rfl | apply And.intro | decide | intro _ | exact rfl))
        rw [h64]
        refine ⟨(i + 1, (if lo < n then n else lo), hi, (bif nn then true else (bif decide ((13 : Int) = 13) then decide (n = 9223372036854775807) else false))), ⟨by dsimp only; omega, by dsimp only; rw [hF, hr]; exact (Jr_none hJ (by rw [decide_eq_true hm]; cases nn <;> rfl))⟩, by dsimp only; omega, le_of (ad := []) (by refine ⟨?_, ?_, ?_, ?_, ?_, ?_, ?_, trivial⟩ <;> first | exact trivial | rfl | exact ⟨rfl, rfl⟩ | exact ⟨rfl, rfl, rfl⟩ | exact ⟨rfl, rfl, rfl, rfl⟩ | exact ⟨rfl, rfl, rfl, rfl, rfl⟩ | exact congrArg (fun z : Int => E.v (.int .i64 z)) (wrap64_id (by omega) (by omega)) | (refine ⟨rfl, ?_⟩; repeat' first | exact trivial | rfl | apply And.intro)) (memOk_box rfl rfl rfl (memOk_box rfl rfl rfl trivial))⟩
      exact absurd (show true = false from hc) (by decide)
    · have g12 : ∀ q : List E, q = q := fun _ => rfl
      rw [h]
      repeat' (first | refine tr_seq ?_ | refine tr_block ?_ | refine tr_skip ?_)
      first | refine reg (T := tab) tOk hnt rfl ?_ ?_ | refine regD (T := tab) tOk mixedR hnt rfl (by decide +kernel) ?_ ?_
      · (dsimp only [AllP]; (repeat' first | exact trivial | assumption | exact Nat.le_of_ble_eq_true rfl | apply And.intro | exact eCells_len1 _ _ ‹_› | exact eCells_isByte _ _ ‹_› | (intro hh_; have hg_ := hh_; (try simp only [condT_ff, condF_tt, notE_t, notE_f, Bool.and_eq_true, ne_eq, decide_eq_true_eq, decide_eq_false_iff_not] at hg_)) | intro _ | exact rfl | omega))
        all_goals first | exact (show (0 : Int) < ((2 : Nat) : Int) by decide) | exact (show (1 : Int) < ((2 : Nat) : Int) by decide) | exact ha7 | exact hb7 | exact ta7 | exact tb7 | trace_state
      refine tr_le (s' := St.of [(1, .one (.e (eT col))), (4, .one (.ptr 4 0 0)), (7, .one (.ptr 7 0 0)), (8, .v (.bool nn)), (11, .one (.e (eI 14))), (12, .one (.ptr 12 0 0)), (13, .one (.ptr 13 0 0)), (24, .one (.e (.sl (eExs L)))), (25, .one (.e (eI ((eExs L).length : Int)))), (26, .one (.e (eI (i : Int))))] [(4, ⟨0, .box (.es (eRg (0, 0))), 0⟩), (7, ⟨0, .box (.es (eRg (lo, hi))), 0⟩), (12, ⟨0, .box (.es [eI a.op, eI a.v.k, eI a.v.i, eQ a.v.b, eT a.v.t, eT a.n, .sl (eExs a.ar)]), 0⟩), (13, ⟨0, .box (.es [eI b.op, eI b.v.k, eI b.v.i, eQ b.v.b, eT b.v.t, eT b.n, .sl (eExs b.ar)]), 0⟩)]) (le_of (ad := []) (by refine ⟨?_, ?_, ?_, ?_, ?_, ?_, ?_, ?_, ?_, ?_, trivial⟩ <;> first | exact trivial | rfl | exact ⟨rfl, rfl⟩ | exact ⟨rfl, rfl, rfl⟩ | exact ⟨rfl, rfl, rfl, rfl⟩ | exact ⟨rfl, rfl, rfl, rfl, rfl⟩ | exact congrArg (fun z : Int => E.v (.int .i64 z)) (wrap64_id (by omega) (by omega)) | (refine ⟨rfl, ?_⟩; repeat' first | exact trivial | rfl | apply And.intro)) (memOk_box rfl rfl rfl (memOk_box rfl rfl rfl (memOk_box rfl rfl ((exAll a).trans (eEx_eq a)) (memOk_box rfl rfl ((exAll b).trans (eEx_eq b)) trivial))))) ?_
      repeat' (first | refine tr_seq ?_ | refine tr_block ?_ | refine tr_skip ?_)
      first | refine reg (T := tab) tOk hnt rfl ?_ ?_ | refine regD (T := tab) tOk mixedR hnt rfl (by decide +kernel) ?_ ?_
      · (dsimp only [AllP]; (repeat' first | exact trivial | assumption | exact Nat.le_of_ble_eq_true rfl | apply And.intro | exact eCells_len1 _ _ ‹_› | exact eCells_isByte _ _ ‹_› | (intro hh_; have hg_ := hh_; (try simp only [condT_ff, condF_tt, notE_t, notE_f, Bool.and_eq_true, ne_eq, decide_eq_true_eq, decide_eq_false_iff_not] at hg_)) | intro _ | exact rfl | omega))
      repeat' (first | refine tr_seq ?_ | refine tr_block ?_ | refine tr_skip ?_)
      refine tr_cond rfl (fun hc => ?_) (fun hc => ?_)
      · have hne : a.op ≠ 2 := by
          have hc : (!decide (a.op = 2)) = true := hc
          intro h2
          rw [h2] at hc
          exact absurd hc (by decide)
        have hcm := cmp_right (col := col) h9' ha hne
        rw [h] at hcm
        have hcm : cmpO y col = if b.op = 2 ∧ b.n = col then (litO a).map fun n => (12, n) else none := hcm
        have hcq : b.op = 2 ∧ b.n = col → b.op = 2 ∧ b.n = col := id
        have hcq' : b.op = 2 ∧ b.n = col → (if b.op = 2 ∧ b.n = col then (litO a).map fun n => ((12 : Int), n) else none) = (litO a).map fun n => (12, n) := fun h => if_pos h
        repeat' (first | refine tr_seq ?_ | refine tr_block ?_ | refine tr_skip ?_)
        first | refine reg (T := tab) tOk hnt rfl ?_ ?_ | refine regD (T := tab) tOk mixedR hnt rfl (by decide +kernel) ?_ ?_
        · (dsimp only [AllP]; (repeat' first | exact trivial | assumption | exact Nat.le_of_ble_eq_true rfl | apply And.intro | exact eCells_len1 _ _ ‹_› | exact eCells_isByte _ _ ‹_› | (intro hh_; have hg_ := hh_; (try simp only [condT_ff, condF_tt, notE_t, notE_f, Bool.and_eq_true, ne_eq, decide_eq_true_eq, decide_eq_false_iff_not] at hg_)) | intro _ | exact rfl | omega))
          all_goals first | decide | trace_state
        refine tr_le (s' := St.of [(1, .one (.e (eT col))), (4, .one (.ptr 4 0 0)), (7, .one (.ptr 7 0 0)), (8, .v (.bool nn)), (11, .one (.e (eI 12))), (12, .one (.ptr 12 0 0)), (13, .one (.ptr 13 0 0)), (24, .one (.e (.sl (eExs L)))), (25, .one (.e (eI ((eExs L).length : Int)))), (26, .one (.e (eI (i : Int))))] [(4, ⟨0, .box (.es (eRg (0, 0))), 0⟩), (7, ⟨0, .box (.es (eRg (lo, hi))), 0⟩), (12, ⟨0, .box (.es [eI b.op, eI b.v.k, eI b.v.i, eQ b.v.b, eT b.v.t, eT b.n, .sl (eExs b.ar)]), 0⟩), (13, ⟨0, .box (.es [eI a.op, eI a.v.k, eI a.v.i, eQ a.v.b, eT a.v.t, eT a.n, .sl (eExs a.ar)]), 0⟩)]) (le_of (ad := []) (by refine ⟨?_, ?_, ?_, ?_, ?_, ?_, ?_, ?_, ?_, ?_, trivial⟩ <;> first | exact trivial | rfl | exact ⟨rfl, rfl⟩ | exact ⟨rfl, rfl, rfl⟩ | exact ⟨rfl, rfl, rfl, rfl⟩ | exact ⟨rfl, rfl, rfl, rfl, rfl⟩ | exact congrArg (fun z : Int => E.v (.int .i64 z)) (wrap64_id (by omega) (by omega)) | (refine ⟨rfl, ?_⟩; repeat' first | exact trivial | rfl | apply And.intro)) (memOk_box rfl rfl rfl (memOk_box rfl rfl rfl (memOk_box rfl rfl rfl (memOk_box rfl rfl rfl trivial))))) ?_
        have hlit := litNumber_fn a k1
        rw [eEx_eq] at hlit
        repeat' (first | refine tr_seq ?_ | refine tr_block ?_ | refine tr_skip ?_)
        refine tr_region (lex (T := tab) tOk hnt rfl ?_ (call rfl rfl rfl rfl rfl rfl rfl hnt (hlit) (lex (T := tab) tOk hnt rfl ?_ (Lex.nil _)))) ?_
        · (dsimp only [AllP]; (repeat' first | exact trivial | assumption | exact Nat.le_of_ble_eq_true rfl | apply And.intro | exact eCells_len1 _ _ ‹_› | exact eCells_isByte _ _ ‹_› | (intro hh_; have hg_ := hh_; (try simp only [condT_ff, condF_tt, notE_t, notE_f, Bool.and_eq_true, ne_eq, decide_eq_true_eq, decide_eq_false_iff_not] at hg_)) | intro _ | exact rfl | omega))
        · (dsimp only [AllP]; (repeat' first | exact trivial | assumption | exact Nat.le_of_ble_eq_true rfl | apply And.intro | decide | intro _ | exact rfl))
        repeat' (first | refine tr_seq ?_ | refine tr_block ?_ | refine tr_skip ?_)
        first | refine reg (T := tab) tOk hnt rfl ?_ ?_ | refine regD (T := tab) tOk mixedR hnt rfl (by decide +kernel) ?_ ?_
        · (dsimp only [AllP]; (repeat' first | exact trivial | assumption | exact Nat.le_of_ble_eq_true rfl | apply And.intro | exact eCells_len1 _ _ ‹_› | exact eCells_isByte _ _ ‹_› | (intro hh_; have hg_ := hh_; (try simp only [condT_ff, condF_tt, notE_t, notE_f, Bool.and_eq_true, ne_eq, decide_eq_true_eq, decide_eq_false_iff_not] at hg_)) | intro _ | exact rfl | omega))
        have hcv : (bif bif !(litD a).2 then true else !decide (b.op = 2) then true else !strEq (strB b.n) (strB col)) = decide (¬ ((litD a).2 = true ∧ b.op = 2 ∧ b.n = col)) := by
          rw [strEq_B]
          cases (litD a).2 <;> by_cases h1 : b.op = 2 <;> by_cases h2 : b.n = col <;> simp [h1, h2]
        repeat' (first | refine tr_seq ?_ | refine tr_block ?_ | refine tr_skip ?_)
        refine tr_cond rfl (fun hc => ?_) (fun hc => ?_)
        · have hc : (bif bif !(litD a).2 then true else !decide (b.op = 2) then true else !strEq (strB b.n) (strB col)) = true := hc
          rw [hcv] at hc
          have hc := of_decide_eq_true hc
          have hno : cmpO y col = none := by
            rw [hcm]
            split
            · rename_i hq
              cases hl : litO a with
              | none => rfl
              | some m => exact absurd ⟨by unfold litD; rw [hl]; rfl, hcq hq⟩ hc
            · rfl
          have hr := rg_no hno
          refine tr_exit ?_
          repeat' (first | refine tr_seq ?_ | refine reg (T := tab) tOk hnt rfl ?_ ?_ | refine regD (T := tab) tOk mixedR hnt rfl (by decide +kernel) ?_ ?_ | refine tr_block ?_ | refine tr_skip ?_)
          · (dsimp only [AllP]; (repeat' first | exact trivial | assumption | exact Nat.le_of_ble_eq_true rfl | apply And.intro | decide | intro _ | exact rfl))
          rw [h64]
          refine ⟨(i + 1, lo, hi, nn), ⟨by dsimp only; omega, by dsimp only; rw [hF, hr]; exact (Jr_step hJ rfl (fun _ _ => by dsimp only; omega) (fun _ _ => by dsimp only; omega))⟩, by dsimp only; omega, le_of (ad := []) (by refine ⟨?_, ?_, ?_, ?_, ?_, ?_, ?_, trivial⟩ <;> first | exact trivial | rfl | exact ⟨rfl, rfl⟩ | exact ⟨rfl, rfl, rfl⟩ | exact ⟨rfl, rfl, rfl, rfl⟩ | exact ⟨rfl, rfl, rfl, rfl, rfl⟩ | exact congrArg (fun z : Int => E.v (.int .i64 z)) (wrap64_id (by omega) (by omega)) | (refine ⟨rfl, ?_⟩; repeat' first | exact trivial | rfl | apply And.intro)) (memOk_box rfl rfl rfl (memOk_box rfl rfl rfl trivial))⟩
        have hc : (bif bif !(litD a).2 then true else !decide (b.op = 2) then true else !strEq (strB b.n) (strB col)) = false := hc
        rw [hcv] at hc
        have hc := Classical.not_not.1 (of_decide_eq_false hc)
        obtain ⟨n, hl⟩ : ∃ n, litO a = some n := by
          cases hl : litO a with
          | none =>
            have h0 : (litD a).2 = true := hc.1
            unfold litD at h0
            rw [hl] at h0
            exact absurd h0 Bool.false_ne_true
          | some m => exact ⟨m, rfl⟩
        have hld : litD a = (n, true) := by unfold litD; rw [hl]; rfl
        have hnr := litO_rng k1 hl
        rw [hcq' hc.2, hl] at hcm
        have hr := rg_cmp hcm
        rw [hld]
        clear hlit hcv hc hcm hcq hcq' hld hl
        have hr : rgO col y = (loI, n) := by rw [hr]; simp [bdF]
        repeat' (first | refine tr_seq ?_ | refine reg (T := tab) tOk hnt rfl ?_ ?_ | refine regD (T := tab) tOk mixedR hnt rfl (by decide +kernel) ?_ ?_ | refine tr_block ?_ | refine tr_skip ?_)
        · (dsimp only [AllP]; (repeat' first | exact trivial | assumption | exact Nat.le_of_ble_eq_true rfl | apply And.intro | decide | intro _ | exact rfl))
        repeat' (first | refine tr_seq ?_ | refine tr_block ?_ | refine tr_skip ?_)
        refine tr_cond rfl (fun hc => ?_) (fun hc => ?_)
        · exact absurd (show false = true from hc) (by decide)
        repeat' (first | refine tr_seq ?_ | refine reg (T := tab) tOk hnt rfl ?_ ?_ | refine regD (T := tab) tOk mixedR hnt rfl (by decide +kernel) ?_ ?_ | refine tr_block ?_ | refine tr_skip ?_)
        · (dsimp only [AllP]; (repeat' first | exact trivial | assumption | exact Nat.le_of_ble_eq_true rfl | apply And.intro | decide | intro _ | exact rfl))
        repeat' (first | refine tr_seq ?_ | refine tr_block ?_ | refine tr_skip ?_)
        refine tr_cond rfl (fun hc => ?_) (fun hc => ?_)
        · repeat' (first | refine tr_seq ?_ | refine reg (T := tab) tOk hnt rfl ?_ ?_ | refine regD (T := tab) tOk mixedR hnt rfl (by decide +kernel) ?_ ?_ | refine tr_block ?_ | refine tr_skip ?_)
          · (dsimp only [AllP]; (repeat' first | exact trivial | assumption | exact Nat.le_of_ble_eq_true rfl | apply And.intro | decide | intro _ | exact rfl))
          · (dsimp only [AllP]; (repeat' first | exact trivial | assumption | exact Nat.le_of_ble_eq_true rfl | apply And.intro | decide | intro _ | exact rfl))
          repeat' (first | refine tr_seq ?_ | refine tr_block ?_ | refine tr_skip ?_)
          refine tr_cond rfl (fun hc => ?_) (fun hc => ?_)
          · exact absurd (show false = true from hc) (by decide)
          repeat' (first | refine tr_seq ?_ | refine reg (T := tab) tOk hnt rfl ?_ ?_ | refine regD (T := tab) tOk mixedR hnt rfl (by decide +kernel) ?_ ?_ | refine tr_block ?_ | refine tr_skip ?_)
          · (dsimp only [AllP]; (repeat' first | exact trivial | assumption | exact Nat.le_of_ble_eq_true rfl | apply And.intro | decide | intro _ | exact rfl))
          rw [h64]
          refine ⟨(i + 1, lo, (if n < hi then n else hi), nn), ⟨by dsimp only; omega, by dsimp only; rw [hF, hr]; exact (Jr_step hJ rfl (fun _ _ => by dsimp only; omega) (fun _ _ => by dsimp only; split <;> omega))⟩, by dsimp only; omega, le_of (ad := []) (by refine ⟨?_, ?_, ?_, ?_, ?_, ?_, ?_, trivial⟩ <;> first | exact trivial | rfl | exact ⟨rfl, rfl⟩ | exact ⟨rfl, rfl, rfl⟩ | exact ⟨rfl, rfl, rfl, rfl⟩ | exact ⟨rfl, rfl, rfl, rfl, rfl⟩ | exact congrArg (fun z : Int => E.v (.int .i64 z)) (wrap64_id (by omega) (by omega)) | (refine ⟨rfl, ?_⟩; repeat' first | exact trivial | rfl | apply And.intro)) (memOk_box rfl rfl rfl (memOk_box rfl rfl rfl trivial))⟩
        exact absurd (show true = false from hc) (by decide)
      have heq : a.op = 2 := by
        have hc : (!decide (a.op = 2)) = false := hc
        by_cases h2 : a.op = 2
        · exact h2
        · rw [decide_eq_false h2] at hc; exact absurd hc (by decide)
      have hcm := cmp_left (col := col) h9' ha heq
      rw [h] at hcm
      have hcq : a.n = col → a.op = 2 ∧ a.n = col := fun hq => ⟨heq, hq⟩
      have hcq' : a.op = 2 ∧ a.n = col → (if a.n = col then (litO b).map fun n => ((14 : Int), n) else none) = (litO b).map fun n => (14, n) := fun h => if_pos h.2
      have hlit := litNumber_fn b k2
      rw [eEx_eq] at hlit
      repeat' (first | refine tr_seq ?_ | refine tr_block ?_ | refine tr_skip ?_)
      refine tr_region (lex (T := tab) tOk hnt rfl ?_ (call rfl rfl rfl rfl rfl rfl rfl hnt (hlit) (lex (T := tab) tOk hnt rfl ?_ (Lex.nil _)))) ?_
      · (dsimp only [AllP]; (repeat' first | exact trivial | assumption | exact Nat.le_of_ble_eq_true rfl | apply And.intro | exact eCells_len1 _ _ ‹_› | exact eCells_isByte _ _ ‹_› | (intro hh_; have hg_ := hh_; (try simp only [condT_ff, condF_tt, notE_t, notE_f, Bool.and_eq_true, ne_eq, decide_eq_true_eq, decide_eq_false_iff_not] at hg_)) | intro _ | exact rfl | omega))
      · (dsimp only [AllP]; (repeat' first | exact trivial | assumption | exact Nat.le_of_ble_eq_true rfl | apply And.intro | decide | intro _ | exact rfl))
      repeat' (first | refine tr_seq ?_ | refine tr_block ?_ | refine tr_skip ?_)
      first | refine reg (T := tab) tOk hnt rfl ?_ ?_ | refine regD (T := tab) tOk mixedR hnt rfl (by decide +kernel) ?_ ?_
      · (dsimp only [AllP]; (repeat' first | exact trivial | assumption | exact Nat.le_of_ble_eq_true rfl | apply And.intro | exact eCells_len1 _ _ ‹_› | exact eCells_isByte _ _ ‹_› | (intro hh_; have hg_ := hh_; (try simp only [condT_ff, condF_tt, notE_t, notE_f, Bool.and_eq_true, ne_eq, decide_eq_true_eq, decide_eq_false_iff_not] at hg_)) | intro _ | exact rfl | omega))
      have hcv : (bif bif !(litD b).2 then true else !decide (a.op = 2) then true else !strEq (strB a.n) (strB col)) = decide (¬ ((litD b).2 = true ∧ a.op = 2 ∧ a.n = col)) := by
        rw [strEq_B]
        cases (litD b).2 <;> by_cases h1 : a.op = 2 <;> by_cases h2 : a.n = col <;> simp [h1, h2]
      repeat' (first | refine tr_seq ?_ | refine tr_block ?_ | refine tr_skip ?_)
      refine tr_cond rfl (fun hc => ?_) (fun hc => ?_)
      · have hc : (bif bif !(litD b).2 then true else !decide (a.op = 2) then true else !strEq (strB a.n) (strB col)) = true := hc
        rw [hcv] at hc
        have hc := of_decide_eq_true hc
        have hno : cmpO y col = none := by
          rw [hcm]
          split
          · rename_i hq
            cases hl : litO b with
            | none => rfl
            | some m => exact absurd ⟨by unfold litD; rw [hl]; rfl, hcq hq⟩ hc
          · rfl
        have hr := rg_no hno
        refine tr_exit ?_
        repeat' (first | refine tr_seq ?_ | refine reg (T := tab) tOk hnt rfl ?_ ?_ | refine regD (T := tab) tOk mixedR hnt rfl (by decide +kernel) ?_ ?_ | refine tr_block ?_ | refine tr_skip ?_)
        · (dsimp only [AllP]; (repeat' first | exact trivial | assumption | exact Nat.le_of_ble_eq_true rfl | apply And.intro | decide | intro _ | exact rfl))
        rw [h64]
        refine ⟨(i + 1, lo, hi, nn), ⟨by dsimp only; omega, by dsimp only; rw [hF, hr]; exact (Jr_step hJ rfl (fun _ _ => by dsimp only; omega) (fun _ _ => by dsimp only; omega))⟩, by dsimp only; omega, le_of (ad := []) (by refine ⟨?_, ?_, ?_, ?_, ?_, ?_, ?_, trivial⟩ <;> first | exact trivial | rfl | exact ⟨rfl, rfl⟩ | exact ⟨rfl, rfl, rfl⟩ | exact ⟨rfl, rfl, rfl, rfl⟩ | exact ⟨rfl, rfl, rfl, rfl, rfl⟩ | exact congrArg (fun z : Int => E.v (.int .i64 z)) (wrap64_id (by omega) (by omega)) | (refine ⟨rfl, ?_⟩; repeat' first | exact trivial | rfl | apply And.intro)) (memOk_box rfl rfl rfl (memOk_box rfl rfl rfl trivial))⟩
      have hc : (bif bif !(litD b).2 then true else !decide (a.op = 2) then true else !strEq (strB a.n) (strB col)) = false := hc
      rw [hcv] at hc
      have hc := Classical.not_not.1 (of_decide_eq_false hc)
      obtain ⟨n, hl⟩ : ∃ n, litO b = some n := by
        cases hl : litO b with
        | none =>
          have h0 : (litD b).2 = true := hc.1
          unfold litD at h0
          rw [hl] at h0
          exact absurd h0 Bool.false_ne_true
        | some m => exact ⟨m, rfl⟩
      have hld : litD b = (n, true) := by unfold litD; rw [hl]; rfl
      have hnr := litO_rng k2 hl
      rw [hcq' hc.2, hl] at hcm
      have hr := rg_cmp hcm
      rw [hld]
      clear hlit hcv hc hcm hcq hcq' hld hl
      have hr : rgO col y = (n, hiI) := by rw [hr]; simp [bdF]
      repeat' (first | refine tr_seq ?_ | refine reg (T := tab) tOk hnt rfl ?_ ?_ | refine regD (T := tab) tOk mixedR hnt rfl (by decide +kernel) ?_ ?_ | refine tr_block ?_ | refine tr_skip ?_)
      · (dsimp only [AllP]; (repeat' first | exact trivial | assumption | exact Nat.le_of_ble_eq_true rfl | apply And.intro | decide | intro _ | exact rfl))
      repeat' (first | refine tr_seq ?_ | refine tr_block ?_ | refine tr_skip ?_)
      refine tr_cond rfl (fun hc => ?_) (fun hc => ?_)
      · repeat' (first | refine tr_seq ?_ | refine reg (T := tab) tOk hnt rfl ?_ ?_ | refine regD (T := tab) tOk mixedR hnt rfl (by decide +kernel) ?_ ?_ | refine tr_block ?_ | refine tr_skip ?_)
        · (dsimp only [AllP]; (repeat' first | exact trivial | assumption | exact Nat.le_of_ble_eq_true rfl | apply And.intro | decide | intro _ | exact rfl))
        · (dsimp only [AllP]; (repeat' first | exact trivial | assumption | exact Nat.le_of_ble_eq_true rfl | apply And.intro | decide | intro _ | exact rfl))
        repeat' (first | refine tr_seq ?_ | refine tr_block ?_ | refine tr_skip ?_)
        refine tr_cond rfl (fun hc => ?_) (fun hc => ?_)
        · exact absurd (show false = true from hc) (by decide)
        repeat' (first | refine tr_seq ?_ | refine reg (T := tab) tOk hnt rfl ?_ ?_ | refine regD (T := tab) tOk mixedR hnt rfl (by decide +kernel) ?_ ?_ | refine tr_block ?_ | refine tr_skip ?_)
        · (dsimp only [AllP]; (repeat' first | exact trivial | assumption | exact Nat.le_of_ble_eq_true rfl | apply And.intro | decide | intro _ | exact rfl))
        · (dsimp only [AllP]; (repeat' first | exact trivial | assumption | exact Nat.le_of_ble_eq_true rfl | apply And.intro | decide | intro _ | exact rfl))
        repeat' (first | refine tr_seq ?_ | refine tr_block ?_ | refine tr_skip ?_)
        refine tr_cond rfl (fun hc => ?_) (fun hc => ?_)
        · exact absurd (show false = true from hc) (by decide)
        repeat' (first | refine tr_seq ?_ | refine reg (T := tab) tOk hnt rfl ?_ ?_ | refine regD (T := tab) tOk mixedR hnt rfl (by decide +kernel) ?_ ?_ | refine tr_block ?_ | refine tr_skip ?_)
        · (dsimp only [AllP]; (repeat' first | exact trivial | assumption | exact Nat.le_of_ble_eq_true rfl | apply And.intro | decide | intro _ | exact rfl))
        repeat' (first | refine tr_seq ?_ | refine tr_block ?_ | refine tr_skip ?_)
        refine tr_cond rfl (fun hc => ?_) (fun hc => ?_)
        · exact absurd (show false = true from hc) (by decide)
        repeat' (first | refine tr_seq ?_ | refine reg (T := tab) tOk hnt rfl ?_ ?_ | refine regD (T := tab) tOk mixedR hnt rfl (by decide +kernel) ?_ ?_ | refine tr_block ?_ | refine tr_skip ?_)
        · (dsimp only [AllP]; (repeat' first | exact trivial | assumption | exact Nat.le_of_ble_eq_true rfl | apply And.intro | decide | intro _ | exact rfl))
        rw [h64]
        refine ⟨(i + 1, (if lo < n then n else lo), hi, (bif nn then true else (bif decide ((14 : Int) = 13) then decide (n = 9223372036854775807) else false))), ⟨by dsimp only; omega, by dsimp only; rw [hF, hr]; exact (Jr_step hJ (by cases nn <;> rfl) (fun _ _ => by dsimp only; split <;> omega) (fun _ _ => by dsimp only; omega))⟩, by dsimp only; omega, le_of (ad := []) (by refine ⟨?_, ?_, ?_, ?_, ?_, ?_, ?_, trivial⟩ <;> first | exact trivial | rfl | exact ⟨rfl, rfl⟩ | exact ⟨rfl, rfl, rfl⟩ | exact ⟨rfl, rfl, rfl, rfl⟩ | exact ⟨rfl, rfl, rfl, rfl, rfl⟩ | exact congrArg (fun z : Int => E.v (.int .i64 z)) (wrap64_id (by omega) (by omega)) | (refine ⟨rfl, ?_⟩; repeat' first | exact trivial | rfl | apply And.intro)) (memOk_box rfl rfl rfl (memOk_box rfl rfl rfl trivial))⟩
      exact absurd (show true = false from hc) (by decide)
  simp only [condT_tt, condT_ff, condF_tt, condF_ff, notE_t, notE_f, decide_eq_true_eq, decide_eq_false_iff_not] at hc
  (try simp only [hel] at hc)
  (try simp only [condT_tt, condT_ff, condF_tt, condF_ff, notE_t, notE_f, decide_eq_true_eq, decide_eq_false_iff_not] at hc)
  refine tr_exit ?_
  rw [List.take_of_length_le (by omega)] at hJ
  obtain ⟨⟨b1, b2⟩, j1, j2⟩ := hJ
  repeat' (first | refine tr_seq ?_ | refine reg (T := tab) tOk hnt rfl ?_ ?_ | refine regD (T := tab) tOk mixedR hnt rfl (by decide +kernel) ?_ ?_ | refine tr_block ?_ | refine tr_skip ?_)
  · (dsimp only [AllP]; (repeat' first | exact trivial | assumption | exact Nat.le_of_ble_eq_true rfl | apply And.intro | decide | intro _ | exact rfl))
  repeat' (first | refine tr_seq ?_ | refine tr_block ?_ | refine tr_skip ?_)
  refine tr_cond rfl (fun hc => ?_) (fun hc => ?_)
  · have hc : (bif nn then true else decide (hi < lo)) = true := hc
    have hlt : (foL col L).2 < (foL col L).1 := by
      cases nn with
      | true => have := j2 rfl; omega
      | false =>
        have hc := of_decide_eq_true (show decide (hi < lo) = true from hc)
        have := j1 rfl
        omega
    rw [if_pos hlt]
    repeat' (first | refine tr_seq ?_ | refine reg (T := tab) tOk hnt rfl ?_ ?_ | refine regD (T := tab) tOk mixedR hnt rfl (by decide +kernel) ?_ ?_ | refine tr_block ?_ | refine tr_skip ?_)
    · (dsimp only [AllP]; (repeat' first | exact trivial | assumption | exact Nat.le_of_ble_eq_true rfl | apply And.intro | decide | intro _ | exact rfl))
    refine tr_ret ⟨.inr rfl, _, _, rfl, by (repeat' first | exact trivial | exact Nat.le_of_ble_eq_true rfl | apply And.intro), ?_⟩
    exact rfl
  have hc : (bif nn then true else decide (hi < lo)) = false := hc
  have hn : nn = false := by cases nn with | true => exact absurd (show true = false from hc) (by decide) | false => rfl
  subst hn
  have hc := of_decide_eq_false (show decide (hi < lo) = false from hc)
  obtain ⟨e1, e2⟩ := j1 rfl
  rw [if_neg (by omega)]
  generalize foL col L = F at *
  obtain ⟨F1, F2⟩ := F
  dsimp only at e1 e2
  subst e1
  subst e2
  repeat' (first | refine tr_seq ?_ | refine reg (T := tab) tOk hnt rfl ?_ ?_ | refine regD (T := tab) tOk mixedR hnt rfl (by decide +kernel) ?_ ?_ | refine tr_block ?_ | refine tr_skip ?_)
  · (dsimp only [AllP]; (repeat' first | exact trivial | assumption | exact Nat.le_of_ble_eq_true rfl | apply And.intro | decide | intro _ | exact rfl))
  repeat' (first | refine tr_seq ?_ | refine tr_block ?_ | refine tr_skip ?_)
  refine tr_ret ⟨.inr rfl, _, _, rfl, by (repeat' first | exact trivial | exact Nat.le_of_ble_eq_true rfl | apply And.intro), ?_⟩
  exact rfl
end Go.Proofs.YtcjeeoimjkhijaaDoor
