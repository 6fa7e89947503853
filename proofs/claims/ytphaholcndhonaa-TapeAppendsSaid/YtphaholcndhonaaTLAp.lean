/- The law TapeAppends's own function. No condition. -/
import Derived.Test.YtphaholcndhonaaTAA
namespace Go.Proofs.Ytphaholcndhonaa
open Go Go.RowKit Go.Proofs.Ytphaholcndhonaa.Ab
set_option linter.unusedSimpArgs false
set_option linter.unusedVariables false

theorem ap_ok {d : Dsk} (h : d.ok) (r : List UInt8) (a : Int) : (apF d r a).1.1.ok ∧ (apF d r a).1.1.l.length ≤ 400 ∧ (apF d r a).1.1.w.length ≤ 60 := by
  have h0 : dk0.ok ∧ dk0.l.length ≤ 400 ∧ dk0.w.length ≤ 60 := ⟨⟨(fun s hs => nomatch hs), (fun p hp => nomatch hp)⟩, Nat.zero_le _, Nat.zero_le _⟩
  by_cases ho : (opR d).2 = 0
  · by_cases hr : r.length < 1 ∨ 310 < r.length
    · rw [ap2 a ho hr]; exact h0
    · by_cases hw : 0 < d.w.length
      · rw [ap3 a ho hr hw]; exact h0
      · by_cases hf : (d.l.length - 1) * 32 < ((gdF d).1 ++ rcT r).length
        · rw [ap4 a ho hr hw hf]; exact h0
        · rw [ap5 a ho hr hw hf]
          have hdk := gd_hd (op_gd ho)
          have hle := dk_le hdk
          have hgl := gd_len h
          have hrc := rcT_len r
          have htl : ((gdF d).1 ++ rcT r).length = (gdF d).1.length + (6 + r.length) := by rw [List.length_append, hrc]
          have hn0 : cnW (gdF d).1 ((gdF d).1 ++ rcT r) = (((gdF d).1 ++ rcT r).length + 31) / 32 - (gdF d).1.length / 32 := rfl
          have g : gdA d.l ((gdF d).1.length / 32) (cnW (gdF d).1 ((gdF d).1 ++ rcT r)) := ⟨h.l, by omega, by omega, by rw [hn0]; omega, fun _ => by rw [hn0] at *; omega⟩
          rw [res_aft]
          obtain ⟨t1, t2, t3, _⟩ := trj_ok ((gdF d).1 ++ rcT r) g (aftN a (cnW (gdF d).1 ((gdF d).1 ++ rcT r)))
          exact ⟨t1, by dsimp only; omega, t3⟩
  · rw [ap1 r a ho]; exact h0
set_option maxRecDepth 10000 in
set_option maxHeartbeats 2000000 in
theorem tapeAppends_fn (d : Dsk) (h : d.ok) (r : List UInt8) (a : Int) (ha1 : -9223372036854775808 ≤ a) (ha2 : a ≤ 9223372036854775807) : FnD Try.prog 7 [.agg (.es (eDsk d)), .one (.e (eBytes r)), .one (.e (eI a))] (.v (.bool true)) := by
  refine fn_intro (T := tab) tOk Try.func7 rfl (by kernel_rfl) (by simp [Try.ntmps7]) ?_
  intro X hX
  have hnt : X.nt = 42 := hX
  clear hX
  have h1 := Append_fn d h r a ha1 ha2
  have h2 := Appended_fn d h r a ha1 ha2
  obtain ⟨o1, o2, o3⟩ := ap_ok h r a
  generalize apF d r a = q at *
  obtain ⟨⟨d2, b⟩, e⟩ := q
  have h3 := sameDisk_fn d2 o1 o2 o3
  repeat' (first | refine tr_seq ?_ | refine tr_block ?_ | refine tr_skip ?_)
  first | refine reg (T := tab) tOk hnt rfl ?_ ?_ | refine regD (T := tab) tOk mixedR hnt rfl (by first | decide +kernel | kernel_rfl) ?_ ?_
  · (dsimp only [AllP]; (repeat' first | exact trivial | assumption | exact Nat.le_of_ble_eq_true rfl | apply And.intro | exact eCells_len1 _ _ ‹_› | exact eCells_isByte _ _ ‹_› | (intro hh_; have hg_ := hh_; (try simp only [condT_ff, condF_tt, notE_t, notE_f, Bool.and_eq_true, ne_eq, decide_eq_true_eq, decide_eq_false_iff_not] at hg_)) | intro _ | exact rfl | omega))
  repeat' (first | refine tr_seq ?_ | refine tr_block ?_ | refine tr_skip ?_)
  refine tr_region (lex (T := tab) tOk hnt rfl ?_ (call rfl rfl rfl rfl rfl rfl rfl hnt (h1) (lex (T := tab) tOk hnt rfl ?_ (Lex.nil _)))) ?_
  · (dsimp only [AllP]; (repeat' first | exact trivial | assumption | exact Nat.le_of_ble_eq_true rfl | apply And.intro | exact eCells_len1 _ _ ‹_› | exact eCells_isByte _ _ ‹_› | (intro hh_; have hg_ := hh_; (try simp only [condT_ff, condF_tt, notE_t, notE_f, Bool.and_eq_true, ne_eq, decide_eq_true_eq, decide_eq_false_iff_not] at hg_)) | intro _ | exact rfl | omega))
    all_goals trace_state
  · (dsimp only [AllP]; (repeat' first | exact trivial | assumption | exact Nat.le_of_ble_eq_true rfl | apply And.intro | exact eCells_len1 _ _ ‹_› | exact eCells_isByte _ _ ‹_› | (intro hh_; have hg_ := hh_; (try simp only [condT_ff, condF_tt, notE_t, notE_f, Bool.and_eq_true, ne_eq, decide_eq_true_eq, decide_eq_false_iff_not] at hg_)) | intro _ | exact rfl | omega))
    all_goals trace_state
  repeat' (first | refine tr_seq ?_ | refine tr_block ?_ | refine tr_skip ?_)
  refine tr_region (lex (T := tab) tOk hnt rfl ?_ (call rfl rfl rfl rfl rfl rfl rfl hnt (h2) (lex (T := tab) tOk hnt rfl ?_ (Lex.nil _)))) ?_
  · (dsimp only [AllP]; (repeat' first | exact trivial | assumption | exact Nat.le_of_ble_eq_true rfl | apply And.intro | exact eCells_len1 _ _ ‹_› | exact eCells_isByte _ _ ‹_› | (intro hh_; have hg_ := hh_; (try simp only [condT_ff, condF_tt, notE_t, notE_f, Bool.and_eq_true, ne_eq, decide_eq_true_eq, decide_eq_false_iff_not] at hg_)) | intro _ | exact rfl | omega))
    all_goals trace_state
  · (dsimp only [AllP]; (repeat' first | exact trivial | assumption | exact Nat.le_of_ble_eq_true rfl | apply And.intro | exact eCells_len1 _ _ ‹_› | exact eCells_isByte _ _ ‹_› | (intro hh_; have hg_ := hh_; (try simp only [condT_ff, condF_tt, notE_t, notE_f, Bool.and_eq_true, ne_eq, decide_eq_true_eq, decide_eq_false_iff_not] at hg_)) | intro _ | exact rfl | omega))
    all_goals trace_state
  repeat' (first | refine tr_seq ?_ | refine tr_block ?_ | refine tr_skip ?_)
  refine tr_region (lex (T := tab) tOk hnt rfl ?_ (callG rfl rfl rfl rfl rfl rfl hnt rfl (fun hq => ?_) (fun hq => h3) (lex (T := tab) tOk hnt rfl ?_ (Lex.nil _)))) ?_
  · (dsimp only [AllP]; (repeat' first | exact trivial | assumption | exact Nat.le_of_ble_eq_true rfl | apply And.intro | exact eCells_len1 _ _ ‹_› | exact eCells_isByte _ _ ‹_› | (intro hh_; have hg_ := hh_; (try simp only [condT_ff, condF_tt, notE_t, notE_f, Bool.and_eq_true, ne_eq, decide_eq_true_eq, decide_eq_false_iff_not] at hg_)) | intro _ | exact rfl | omega))
    all_goals trace_state
  · exact ⟨hq, hq⟩
  · (dsimp only [AllP]; (repeat' first | exact trivial | assumption | exact Nat.le_of_ble_eq_true rfl | apply And.intro | exact eCells_len1 _ _ ‹_› | exact eCells_isByte _ _ ‹_› | (intro hh_; have hg_ := hh_; (try simp only [condT_ff, condF_tt, notE_t, notE_f, Bool.and_eq_true, ne_eq, decide_eq_true_eq, decide_eq_false_iff_not] at hg_)) | intro _ | exact rfl | omega))
    all_goals trace_state
  refine tr_ret ⟨.inr rfl, _, _, rfl, by trivial, ?_⟩
  simp
  cases b <;> rfl
end Go.Proofs.Ytphaholcndhonaa
