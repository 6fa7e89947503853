/- The law TableInserts: its function. No condition. -/
import Derived.Test.YtcjeeoimjkhijaaDoorTTj
namespace Go.Proofs.YtcjeeoimjkhijaaDoor
open Go Go.RowKit Go.Proofs.YtcjeeoimjkhijaaDoor.Ab
set_option linter.unusedSimpArgs false
set_option linter.unusedVariables false

theorem tz_ok : tz.ok := by
  refine ⟨rfl, ?_, Nat.zero_le _, fun c hc => absurd hc List.not_mem_nil, ?_⟩
  · intro d hd
    simp only [tz, List.mem_cons, List.not_mem_nil, or_false] at hd
    rcases hd with rfl | rfl <;> rfl
  · intro d hd x hx v hv
    simp only [tz, List.mem_cons, List.not_mem_nil, or_false] at hd
    rcases hd with rfl | rfl <;> (simp only [List.mem_cons, List.not_mem_nil, or_false, or_self] at hx; subst hx; exact absurd hv List.not_mem_nil)
theorem insF_ok {t : Tbl} (h : t.ok) {i : Int} {r : List Val} (hr : ∀ v ∈ r, v.fit) : (insF t i r).1.ok := by
  unfold insF
  split
  · exact tz_ok
  · rename_i h0
    split
    · exact tz_ok
    split
    · exact tz_ok
    split
    · have : ¬ (i < 0 ∨ 2 ≤ i) := by
        intro g
        apply h0
        unfold bgE
        split
        · assumption
        · decide
      exact putT_ok h (by omega) _ hr
    · exact tz_ok
set_option maxRecDepth 10000 in
set_option maxHeartbeats 2000000 in
theorem tableInserts_fn (t : Tbl) (i : Int) (r : List Val) (h : t.ok) (hr : ∀ v ∈ r, v.fit) : FnG Tryd.prog 7 gK [.agg (.es (eTab t)), .one (.e (eI i)), .one (.e (eRow r))] (.v (.bool true)) := by
  refine fn_introG (T := tab) tOk Tryd.func7 rfl (by kernel_rfl) (by simp [Tryd.ntmps7]) ?_
  intro X hX
  have hnt : X.nt = 33 := hX
  clear hX
  have h19 := tabLen h
  have f19 : 0 + 19 ≤ (Cs.es (eTab t)).len := by show 0 + 19 ≤ (eTab t).length; omega
  have h1 := Insert_fn t i r h hr
  have h2 := Inserted_fn t i r h hr
  have hok := insF_ok h (i := i) hr
  rw [← tabAll h] at h1 h2
  generalize insF t i r = q at *
  obtain ⟨t', e⟩ := q
  dsimp only at hok
  have h19' := tabLen hok
  have f19' : 0 + 19 ≤ (Cs.es (eTab t')).len := by show 0 + 19 ≤ (eTab t').length; omega
  have e19' : (Cs.es (eTab t')).len = 19 := h19'
  have h3 := sameTable_fn t' hok
  rw [← tabAll hok] at h3
  repeat' (first | refine tr_seq ?_ | refine reg (T := tab) tOk hnt rfl ?_ ?_ | refine regD (T := tab) tOk mixedR hnt rfl (by decide +kernel) ?_ ?_ | refine tr_block ?_ | refine tr_skip ?_)
  · (dsimp only [AllP]; (repeat' first | exact trivial | assumption | exact Nat.le_of_ble_eq_true rfl | apply And.intro | decide | intro _ | exact rfl))
  repeat' (first | refine tr_seq ?_ | refine tr_block ?_ | refine tr_skip ?_)
  refine tr_region (lex (T := tab) tOk hnt rfl ?_ (callV rfl rfl rfl rfl rfl rfl rfl hnt rfl (h1) (lex (T := tab) tOk hnt rfl ?_ (Lex.nil _)))) ?_
  · (dsimp only [AllP]; (repeat' first | exact trivial | assumption | exact Nat.le_of_ble_eq_true rfl | apply And.intro | exact eCells_len1 _ _ ‹_› | exact eCells_isByte _ _ ‹_› | (intro hh_; have hg_ := hh_; (try simp only [condT_ff, condF_tt, notE_t, notE_f, Bool.and_eq_true, ne_eq, decide_eq_true_eq, decide_eq_false_iff_not] at hg_)) | intro _ | exact rfl | omega))
  · (dsimp only [AllP]; (repeat' first | exact trivial | assumption | exact Nat.le_of_ble_eq_true rfl | apply And.intro | exact eCells_len1 _ _ ‹_› | exact eCells_isByte _ _ ‹_› | (intro hh_; have hg_ := hh_; (try simp only [condT_ff, condF_tt, notE_t, notE_f, Bool.and_eq_true, ne_eq, decide_eq_true_eq, decide_eq_false_iff_not] at hg_)) | intro _ | exact rfl | omega))
  repeat' (first | refine tr_seq ?_ | refine tr_block ?_ | refine tr_skip ?_)
  refine tr_region (lex (T := tab) tOk hnt rfl ?_ (callV rfl rfl rfl rfl rfl rfl rfl hnt rfl (h2) (lex (T := tab) tOk hnt rfl ?_ (Lex.nil _)))) ?_
  · (dsimp only [AllP]; (repeat' first | exact trivial | assumption | exact Nat.le_of_ble_eq_true rfl | apply And.intro | exact eCells_len1 _ _ ‹_› | exact eCells_isByte _ _ ‹_› | (intro hh_; have hg_ := hh_; (try simp only [condT_ff, condF_tt, notE_t, notE_f, Bool.and_eq_true, ne_eq, decide_eq_true_eq, decide_eq_false_iff_not] at hg_)) | intro _ | exact rfl | omega))
  · (dsimp only [AllP]; (repeat' first | exact trivial | assumption | exact Nat.le_of_ble_eq_true rfl | apply And.intro | exact eCells_len1 _ _ ‹_› | exact eCells_isByte _ _ ‹_› | (intro hh_; have hg_ := hh_; (try simp only [condT_ff, condF_tt, notE_t, notE_f, Bool.and_eq_true, ne_eq, decide_eq_true_eq, decide_eq_false_iff_not] at hg_)) | intro _ | exact rfl | omega))
  repeat' (first | refine tr_seq ?_ | refine tr_block ?_ | refine tr_skip ?_)
  refine tr_region (lex (T := tab) tOk hnt rfl ?_ (callG rfl rfl rfl rfl rfl rfl hnt rfl (fun hq => ?_) (fun hq => h3) (lex (T := tab) tOk hnt rfl ?_ (Lex.nil _)))) ?_
  · (dsimp only [AllP]; (repeat' first | exact trivial | assumption | exact Nat.le_of_ble_eq_true rfl | apply And.intro | exact eCells_len1 _ _ ‹_› | exact eCells_isByte _ _ ‹_› | (intro hh_; have hg_ := hh_; (try simp only [condT_ff, condF_tt, notE_t, notE_f, Bool.and_eq_true, ne_eq, decide_eq_true_eq, decide_eq_false_iff_not] at hg_)) | intro _ | exact rfl | omega))
  · (dsimp only [AllP]; (repeat' first | exact trivial | assumption | exact Nat.le_of_ble_eq_true rfl | apply And.intro | exact eCells_len1 _ _ ‹_› | exact eCells_isByte _ _ ‹_› | (intro hh_; have hg_ := hh_; (try simp only [condT_ff, condF_tt, notE_t, notE_f, Bool.and_eq_true, ne_eq, decide_eq_true_eq, decide_eq_false_iff_not] at hg_)) | intro _ | exact rfl | omega))
  · (dsimp only [AllP]; (repeat' first | exact trivial | assumption | exact Nat.le_of_ble_eq_true rfl | apply And.intro | exact eCells_len1 _ _ ‹_› | exact eCells_isByte _ _ ‹_› | (intro hh_; have hg_ := hh_; (try simp only [condT_ff, condF_tt, notE_t, notE_f, Bool.and_eq_true, ne_eq, decide_eq_true_eq, decide_eq_false_iff_not] at hg_)) | intro _ | exact rfl | omega))
  repeat' (first | refine tr_seq ?_ | refine tr_block ?_ | refine tr_skip ?_)
  refine tr_ret ⟨.inr rfl, _, _, rfl, by trivial, ?_⟩
  simp
  rfl
end Go.Proofs.YtcjeeoimjkhijaaDoor
