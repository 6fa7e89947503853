/- disk.Write and the document's Wrote. No condition. -/
import Derived.Test.YtphaholcndhonaaTDk
namespace Go.Proofs.Ytphaholcndhonaa
open Go Go.RowKit Go.Proofs.Ytphaholcndhonaa.Ab
set_option linter.unusedSimpArgs false
set_option linter.unusedVariables false

set_option maxRecDepth 10000 in
set_option maxHeartbeats 2000000 in
theorem fresh_fn (d : Dsk) (h : d.ok) (hl : d.l.length ≤ 400) (hw : d.w.length ≤ 60) : FnO Try.prog 56 ([]) [.agg (.es (eDsk d))] (.agg (.ds [.own 3 0, .own 7 0])) [(3, ⟨0, .row 32 (eLs d.l), 0⟩), (7, ⟨0, .row 33 (eWs d.w), 0⟩)] := by
  refine fn_introO (T := tab) tOk Try.func56 rfl (by kernel_rfl) (by simp [Try.ntmps56]) ?_
  intro X hX
  have hnt : X.nt = 12 := hX
  clear hX
  have hll : (d.l.map eSec).length = d.l.length := List.length_map ..
  have hwl : (d.w.map ePut).length = d.w.length := List.length_map ..
  have h32 : ∀ cs ∈ d.l.map eSec, cs.length = 32 := fun cs hc => by obtain ⟨s, hs, rfl⟩ := List.mem_map.1 hc; exact eSec_len (h.l s hs)
  have h33 : ∀ cs ∈ d.w.map ePut, cs.length = 33 := fun cs hc => by obtain ⟨s, hs, rfl⟩ := List.mem_map.1 hc; exact ePut_len (h.w s hs)
  have m1 : ([] : List (List E)).length + ((eDsk d).getD (0 + 1) E.dflt).xs.length ≤ maxLen := by rw [dl1, hwl]; show 0 + d.w.length ≤ maxLen; unfold maxLen; omega
  have m2 : (([] : List (List E)).length + ((eDsk d).getD (0 + 1) E.dflt).xs.length) * 40 ≤ 140737488355328 := by rw [dl1, hwl]; show (0 + d.w.length) * 40 ≤ _; omega
  have m3 : ([] : List (List E)).length + ((eDsk d).getD (0 + 0) E.dflt).xs.length ≤ maxLen := by rw [dl0, hll]; show 0 + d.l.length ≤ maxLen; unfold maxLen; omega
  have m4 : (([] : List (List E)).length + ((eDsk d).getD (0 + 0) E.dflt).xs.length) * 32 ≤ 140737488355328 := by rw [dl0, hll]; show (0 + d.l.length) * 32 ≤ _; omega
  repeat' (first | refine tr_seq ?_ | refine tr_block ?_ | refine tr_skip ?_)
  first | refine reg (T := tab) tOk hnt rfl ?_ ?_ | refine regD (T := tab) tOk mixedR hnt rfl (by decide +kernel) ?_ ?_
  · (dsimp only [AllP]; (repeat' first | exact trivial | assumption | exact Nat.le_of_ble_eq_true rfl | apply And.intro | decide | intro _ | exact rfl))
  repeat' (first | refine tr_seq ?_ | refine tr_block ?_ | refine tr_skip ?_)
  first | refine reg (T := tab) tOk hnt rfl ?_ ?_ | refine regD (T := tab) tOk mixedR hnt rfl (by decide +kernel) ?_ ?_
  · (dsimp only [AllP]; (repeat' first | exact trivial | assumption | exact Nat.le_of_ble_eq_true rfl | apply And.intro | exact eCells_len1 _ _ ‹_› | exact eCells_isByte _ _ ‹_› | (intro hh_; have hg_ := hh_; (try simp only [condT_ff, condF_tt, notE_t, notE_f, Bool.and_eq_true, ne_eq, decide_eq_true_eq, decide_eq_false_iff_not] at hg_)) | intro _ | exact rfl | omega))
  exact tr_ret ⟨.inr rfl, _, _, _, rfl, by (repeat' first | exact trivial | exact Nat.le_of_ble_eq_true rfl | apply And.intro), rfl, fun X => le_of (ad := []) ⟨⟨⟨rfl, rfl, rfl, rfl⟩, ⟨rfl, rfl, rfl, rfl⟩, trivial⟩, trivial⟩ (memOk_row rfl rfl rfl (memOk_row rfl rfl rfl trivial))⟩
def rDk (q : Dsk × Int) : D := .tup [(true, .es (eDsk q.1)), (false, .es [eI q.2])]
def dk0 : Dsk := ⟨[], []⟩
def wrF (d : Dsk) (i : Int) (b : List UInt8) : Dsk × Int :=
  if scF d i ≠ 0 then (dk0, scF d i) else if d.w.length = 60 then (dk0, 9) else (⟨d.l, d.w ++ [⟨i, b⟩]⟩, 0)
theorem dk_le {d : Dsk} (h : dkF d = 0) : 1 ≤ d.l.length ∧ d.l.length ≤ 400 ∧ d.w.length ≤ 60 := by
  unfold dkF at h
  split at h
  · exact absurd h (by decide)
  · omega
theorem scF_bad {d : Dsk} (i : Int) (h : dkF d ≠ 0) : scF d i = dkF d := by unfold scF; rw [if_pos h]
theorem scF_rng {d : Dsk} {i : Int} (h : dkF d = 0) (hr : i < 0 ∨ (d.l.length : Int) ≤ i) : scF d i = 6 := by unfold scF; rw [if_neg (not_not_intro h), if_pos hr]
theorem scF_fit {d : Dsk} {i : Int} (h : dkF d = 0) (hr : ¬ (i < 0 ∨ (d.l.length : Int) ≤ i)) : scF d i = 0 := by unfold scF; rw [if_neg (not_not_intro h), if_neg hr]
set_option maxRecDepth 10000 in
set_option maxHeartbeats 2000000 in
theorem write_fn (d : Dsk) (i : Int) (b : List UInt8) (h : d.ok) (hb : b.length = 32) : FnD Try.prog 50 [.agg (.es (eDsk d)), .one (.e (eI i)), .agg (.es (eSec b))] (rDk (wrF d i b)) := by
  refine fn_intro (T := tab) tOk Try.func50 rfl (by kernel_rfl) (by simp [Try.ntmps50]) ?_
  intro X hX
  have hnt : X.nt = 41 := hX
  clear hX
  have hll : (d.l.map eSec).length = d.l.length := List.length_map ..
  have hwl : (d.w.map ePut).length = d.w.length := List.length_map ..
  have h1 := dCheck_fn d h
  have hsl := eSec_len hb
  have hf32 : 0 + 32 ≤ (Cs.es (eSec b)).len := by show _ ≤ (eSec b).length; omega
  have ht32 := take_all hsl
  unfold wrF
  repeat' (first | refine tr_seq ?_ | refine tr_block ?_ | refine tr_skip ?_)
  first | refine reg (T := tab) tOk hnt rfl ?_ ?_ | refine regD (T := tab) tOk mixedR hnt rfl (by decide +kernel) ?_ ?_
  · (dsimp only [AllP]; (repeat' first | exact trivial | assumption | exact Nat.le_of_ble_eq_true rfl | apply And.intro | exact eCells_len1 _ _ ‹_› | exact eCells_isByte _ _ ‹_› | (intro hh_; have hg_ := hh_; (try simp only [condT_ff, condF_tt, notE_t, notE_f, Bool.and_eq_true, ne_eq, decide_eq_true_eq, decide_eq_false_iff_not] at hg_)) | intro _ | exact rfl | omega))
  repeat' (first | refine tr_seq ?_ | refine tr_block ?_ | refine tr_skip ?_)
  refine tr_region (lex (T := tab) tOk hnt rfl ?_ (call rfl rfl rfl rfl rfl rfl rfl hnt (h1) (lex (T := tab) tOk hnt rfl ?_ (Lex.nil _)))) ?_
  · (dsimp only [AllP]; (repeat' first | exact trivial | assumption | exact Nat.le_of_ble_eq_true rfl | apply And.intro | decide | intro _ | exact rfl))
  · (dsimp only [AllP]; (repeat' first | exact trivial | assumption | exact Nat.le_of_ble_eq_true rfl | apply And.intro | decide | intro _ | exact rfl))
  repeat' (first | refine tr_seq ?_ | refine reg (T := tab) tOk hnt rfl ?_ ?_ | refine regD (T := tab) tOk mixedR hnt rfl (by decide +kernel) ?_ ?_ | refine tr_block ?_ | refine tr_skip ?_)
  · (dsimp only [AllP]; (repeat' first | exact trivial | assumption | exact Nat.le_of_ble_eq_true rfl | apply And.intro | decide | intro _ | exact rfl))
  repeat' (first | refine tr_seq ?_ | refine tr_block ?_ | refine tr_skip ?_)
  refine tr_cond rfl (fun hc => ?_) (fun hc => ?_)
  · simp only [condT_tt, condT_ff, condF_tt, condF_ff, notE_t, notE_f, decide_eq_true_eq, decide_eq_false_iff_not] at hc
    rw [scF_bad i hc, if_pos hc]
    repeat' (first | refine tr_seq ?_ | refine reg (T := tab) tOk hnt rfl ?_ ?_ | refine regD (T := tab) tOk mixedR hnt rfl (by decide +kernel) ?_ ?_ | refine tr_block ?_ | refine tr_skip ?_)
    · (dsimp only [AllP]; (repeat' first | exact trivial | assumption | exact Nat.le_of_ble_eq_true rfl | apply And.intro | decide | intro _ | exact rfl))
    refine tr_ret ⟨.inr rfl, _, _, rfl, by (repeat' first | exact trivial | exact Nat.le_of_ble_eq_true rfl | apply And.intro), ?_⟩
    exact rfl
  simp only [condT_tt, condT_ff, condF_tt, condF_ff, notE_t, notE_f, decide_eq_true_eq, decide_eq_false_iff_not] at hc
  have hle := dk_le hc
  have h2 := fresh_fn d h hle.2.1 hle.2.2
  repeat' (first | refine tr_seq ?_ | refine reg (T := tab) tOk hnt rfl ?_ ?_ | refine regD (T := tab) tOk mixedR hnt rfl (by decide +kernel) ?_ ?_ | refine tr_block ?_ | refine tr_skip ?_)
  · (dsimp only [AllP]; (repeat' first | exact trivial | assumption | exact Nat.le_of_ble_eq_true rfl | apply And.intro | decide | intro _ | exact rfl))
  repeat' (first | refine tr_seq ?_ | refine tr_block ?_ | refine tr_skip ?_)
  refine tr_cond rfl (fun hc => ?_) (fun hc => ?_)
  · simp only [condT_tt, condT_ff, condF_tt, condF_ff, notE_t, notE_f, decide_eq_true_eq, decide_eq_false_iff_not] at hc
    (try simp only [dl0 d, hll] at hc)
    (try simp only [condT_tt, condT_ff, condF_tt, condF_ff, notE_t, notE_f, decide_eq_true_eq, decide_eq_false_iff_not] at hc)
    rw [scF_rng (by assumption) (by omega), if_pos (by decide)]
    repeat' (first | refine tr_seq ?_ | refine reg (T := tab) tOk hnt rfl ?_ ?_ | refine regD (T := tab) tOk mixedR hnt rfl (by decide +kernel) ?_ ?_ | refine tr_block ?_ | refine tr_skip ?_)
    · (dsimp only [AllP]; (repeat' first | exact trivial | assumption | exact Nat.le_of_ble_eq_true rfl | apply And.intro | decide | intro _ | exact rfl))
    refine tr_ret ⟨.inr rfl, _, _, rfl, by (repeat' first | exact trivial | exact Nat.le_of_ble_eq_true rfl | apply And.intro), ?_⟩
    exact rfl
  simp only [condT_tt, condT_ff, condF_tt, condF_ff, notE_t, notE_f, decide_eq_true_eq, decide_eq_false_iff_not] at hc
  (try simp only [dl0 d, hll] at hc)
  (try simp only [condT_tt, condT_ff, condF_tt, condF_ff, notE_t, notE_f, decide_eq_true_eq, decide_eq_false_iff_not] at hc)
  rw [scF_fit (by assumption) (by omega), if_neg (by decide)]
  repeat' (first | refine tr_seq ?_ | refine reg (T := tab) tOk hnt rfl ?_ ?_ | refine regD (T := tab) tOk mixedR hnt rfl (by decide +kernel) ?_ ?_ | refine tr_block ?_ | refine tr_skip ?_)
  · (dsimp only [AllP]; (repeat' first | exact trivial | assumption | exact Nat.le_of_ble_eq_true rfl | apply And.intro | decide | intro _ | exact rfl))
  repeat' (first | refine tr_seq ?_ | refine tr_block ?_ | refine tr_skip ?_)
  refine tr_cond rfl (fun hc => ?_) (fun hc => ?_)
  · simp only [condT_tt, condT_ff, condF_tt, condF_ff, notE_t, notE_f, decide_eq_true_eq, decide_eq_false_iff_not] at hc
    (try simp only [dl1 d, hwl] at hc)
    (try simp only [condT_tt, condT_ff, condF_tt, condF_ff, notE_t, notE_f, decide_eq_true_eq, decide_eq_false_iff_not] at hc)
    rw [if_pos (by omega)]
    repeat' (first | refine tr_seq ?_ | refine reg (T := tab) tOk hnt rfl ?_ ?_ | refine regD (T := tab) tOk mixedR hnt rfl (by decide +kernel) ?_ ?_ | refine tr_block ?_ | refine tr_skip ?_)
    · (dsimp only [AllP]; (repeat' first | exact trivial | assumption | exact Nat.le_of_ble_eq_true rfl | apply And.intro | decide | intro _ | exact rfl))
    refine tr_ret ⟨.inr rfl, _, _, rfl, by (repeat' first | exact trivial | exact Nat.le_of_ble_eq_true rfl | apply And.intro), ?_⟩
    exact rfl
  simp only [condT_tt, condT_ff, condF_tt, condF_ff, notE_t, notE_f, decide_eq_true_eq, decide_eq_false_iff_not] at hc
  (try simp only [dl1 d, hwl] at hc)
  (try simp only [condT_tt, condT_ff, condF_tt, condF_ff, notE_t, notE_f, decide_eq_true_eq, decide_eq_false_iff_not] at hc)
  rw [if_neg (by omega)]
  repeat' (first | refine tr_seq ?_ | refine tr_block ?_ | refine tr_skip ?_)
  refine tr_region (lex (T := tab) tOk hnt rfl ?_ (callO (base := 2000) rfl rfl rfl rfl rfl rfl rfl hnt rfl rfl (h2) rfl (lex (T := tab) tOk hnt rfl ?_ (Lex.nil _)))) ?_
  · (dsimp only [AllP]; (repeat' first | exact trivial | assumption | exact Nat.le_of_ble_eq_true rfl | apply And.intro | exact eCells_len1 _ _ ‹_› | exact eCells_isByte _ _ ‹_› | (intro hh_; have hg_ := hh_; (try simp only [condT_ff, condF_tt, notE_t, notE_f, Bool.and_eq_true, ne_eq, decide_eq_true_eq, decide_eq_false_iff_not] at hg_)) | intro _ | exact rfl | omega))
  · (dsimp only [AllP]; (repeat' first | exact trivial | assumption | exact Nat.le_of_ble_eq_true rfl | apply And.intro | exact eCells_len1 _ _ ‹_› | exact eCells_isByte _ _ ‹_› | (intro hh_; have hg_ := hh_; (try simp only [condT_ff, condF_tt, notE_t, notE_f, Bool.and_eq_true, ne_eq, decide_eq_true_eq, decide_eq_false_iff_not] at hg_)) | intro _ | exact rfl | omega))
  refine tr_le (s' := St.of [(1, .one (.e (eI i))), (3, .one (.ptr 3 0 0)), (5, .one (.ptr 5 0 0)), (6, .one (.ptr 6 0 0))] [(3, ⟨0, .box (.ds [.own 2003 0, .own 2007 0]), 0⟩), (5, ⟨0, .box (.es (eSec b)), 0⟩), (6, ⟨0, .box (.ds [.nil, .nil]), 0⟩), (2003, ⟨0, .row 32 (eLs d.l), 0⟩), (2007, ⟨0, .row 33 (eWs d.w), 0⟩)]) (le_of (ad := []) (by refine ⟨?_, ?_, ?_, ?_, trivial⟩ <;> first | exact trivial | rfl | exact ⟨rfl, rfl⟩ | exact ⟨rfl, rfl, rfl⟩ | exact ⟨rfl, rfl, rfl, rfl⟩ | exact ⟨rfl, rfl, rfl, rfl, rfl⟩ | exact congrArg (fun z : Int => E.v (.int .i64 z)) (wrap64_id (by omega) (by omega)) | (refine ⟨rfl, ?_⟩; repeat' first | exact trivial | rfl | apply And.intro)) (memOk_box rfl rfl ⟨⟨rfl, rfl, rfl, rfl⟩, ⟨rfl, rfl, rfl, rfl⟩, trivial⟩ (memOk_box rfl rfl rfl (memOk_box rfl rfl ⟨trivial, trivial, trivial⟩ (memOk_row rfl rfl rfl (memOk_row rfl rfl rfl trivial)))))) ?_
  have m1 : ∀ x : List E, (eWs d.w).length + [x].length ≤ maxLen := fun x => by unfold eWs; rw [hwl]; show d.w.length + 1 ≤ maxLen; unfold maxLen; omega
  have hx3 : ([eI i] ++ List.take 32 (List.drop 0 (eSec b)) ++ []).length = 33 := by
    rw [List.append_nil, List.length_append, List.drop_zero, List.take_of_length_le (by omega), hsl]
    rfl
  have m2 : ∀ x : List E, ((eWs d.w).length + [x].length) * 40 ≤ 140737488355328 := fun x => by unfold eWs; rw [hwl]; show (d.w.length + 1) * 40 ≤ _; omega
  repeat' (first | refine tr_seq ?_ | refine tr_block ?_ | refine tr_skip ?_)
  first | refine reg (T := tab) tOk hnt rfl ?_ ?_ | refine regD (T := tab) tOk mixedR hnt rfl (by decide +kernel) ?_ ?_
  · (dsimp only [AllP]; (repeat' first | exact trivial | assumption | exact Nat.le_of_ble_eq_true rfl | apply And.intro | exact eCells_len1 _ _ ‹_› | exact eCells_isByte _ _ ‹_› | (intro hh_; have hg_ := hh_; (try simp only [condT_ff, condF_tt, notE_t, notE_f, Bool.and_eq_true, ne_eq, decide_eq_true_eq, decide_eq_false_iff_not] at hg_)) | intro _ | exact rfl | omega))
    all_goals first | exact m1 _ | exact m2 _ | exact hx3 | trace_state
  have hx : eWs d.w ++ [[eI i] ++ List.take 32 (List.drop 0 (eSec b)) ++ []] = eWs (d.w ++ [⟨i, b⟩]) := by
    unfold eWs
    rw [List.map_append, List.drop_zero, List.take_of_length_le (by omega), List.append_nil]
    rfl
  refine tr_le (s' := St.of [(3, .one (.ptr 3 0 0)), (6, .one (.ptr 6 0 0))] [(3, ⟨0, .box (.ds [.own 2003 0, .own 2007 0]), 0⟩), (6, ⟨0, .box (.ds [.nil, .nil]), 0⟩), (2003, ⟨0, .row 32 (eLs d.l), 0⟩), (2007, ⟨0, .row 33 (eWs (d.w ++ [⟨i, b⟩])), 0⟩)]) (le_of (ad := []) (by refine ⟨?_, ?_, trivial⟩ <;> first | exact trivial | rfl | exact ⟨rfl, rfl⟩ | exact ⟨rfl, rfl, rfl⟩ | exact ⟨rfl, rfl, rfl, rfl⟩ | exact ⟨rfl, rfl, rfl, rfl, rfl⟩ | exact congrArg (fun z : Int => E.v (.int .i64 z)) (wrap64_id (by omega) (by omega)) | (refine ⟨rfl, ?_⟩; repeat' first | exact trivial | rfl | apply And.intro)) (memOk_box rfl rfl ⟨⟨rfl, rfl, rfl, rfl⟩, ⟨rfl, rfl, rfl, rfl⟩, trivial⟩ (memOk_box rfl rfl ⟨trivial, trivial, trivial⟩ (memOk_row rfl rfl rfl (memOk_row rfl rfl (by refine Eq.trans ?_ hx; kernel_rfl) trivial))))) ?_
  repeat' (first | refine tr_seq ?_ | refine reg (T := tab) tOk hnt rfl ?_ ?_ | refine regD (T := tab) tOk mixedR hnt rfl (by decide +kernel) ?_ ?_ | refine tr_block ?_ | refine tr_skip ?_)
  · (dsimp only [AllP]; (repeat' first | exact trivial | assumption | exact Nat.le_of_ble_eq_true rfl | apply And.intro | decide | intro _ | exact rfl))
  refine tr_ret ⟨.inr rfl, _, _, rfl, by (repeat' first | exact trivial | exact Nat.le_of_ble_eq_true rfl | apply And.intro), ?_⟩
  exact rfl
end Go.Proofs.Ytphaholcndhonaa
