/- The law DiskWrites' own function. No condition. -/
import Derived.Test.YtphaholcndhonaaTDk2
namespace Go.Proofs.Ytphaholcndhonaa
open Go Go.RowKit Go.Proofs.Ytphaholcndhonaa.Ab
set_option linter.unusedSimpArgs false
set_option linter.unusedVariables false

theorem secAt3 {s : List UInt8} {i : Nat} (h : i < s.length) : (eSec s).getD (i * 1) E.dflt = eB (s.getD i 0) := by
  unfold eSec
  rw [Nat.mul_one, List.getD_eq_getElem?_getD, List.getElem?_map, List.getElem?_eq_getElem h, List.getD_eq_getElem?_getD, List.getElem?_eq_getElem h]
  rfl
theorem secL {s : List UInt8} (h : s.length = 32) (i : Nat) (hi : i < 32) (ti : TI) (hti : ti = ⟨1, 1, .int .u8, [.int .u8 0]⟩) : ((Cs.es (eSec s)).load ti (i * ti.size)).1 ∧ ((Cs.es (eSec s)).load ti (i * ti.size)).2 = .one (.e (eB (s.getD i 0))) := by
  subst hti
  have hg := secAt3 (s := s) (i := i) (by omega)
  have hl := eSec_len h
  refine ⟨⟨?_, ?_⟩, ?_⟩
  · show i * 1 < (eSec s).length
    omega
  · show D0.isA (.int .u8) (.e ((eSec s).getD (i * 1) E.dflt))
    rw [hg]
    exact rfl
  · show D.one (D0.as (.int .u8) (.e ((eSec s).getD (i * 1) E.dflt))) = _
    rw [hg]
    rfl
theorem eqS (s : List UInt8) (h : s.length = 32) (m : Nat) : (eqD tab (m + 2) 88 (.agg (.es (eSec s))) (.agg (.es (eSec s)))).1 ∧ (eqD tab (m + 2) 88 (.agg (.es (eSec s))) (.agg (.es (eSec s)))).2 = true := by
  constructor
  · show ∀ i, i < 32 → ((Cs.es (eSec s)).load ⟨1, 1, .int .u8, [.int .u8 0]⟩ (i * 1)).1 ∧ ((Cs.es (eSec s)).load ⟨1, 1, .int .u8, [.int .u8 0]⟩ (i * 1)).1 ∧ (eqD tab (m + 1) 5 ((Cs.es (eSec s)).load ⟨1, 1, .int .u8, [.int .u8 0]⟩ (i * 1)).2 ((Cs.es (eSec s)).load ⟨1, 1, .int .u8, [.int .u8 0]⟩ (i * 1)).2).1
    intro i hi
    obtain ⟨h1, h2⟩ := secL h i hi _ rfl
    refine ⟨h1, h1, ?_⟩
    have h2 : ((Cs.es (eSec s)).load ⟨1, 1, .int .u8, [.int .u8 0]⟩ (i * 1)).2 = .one (.e (eB (s.getD i 0))) := h2
    rw [h2]
    exact rfl
  · show ((List.range 32).all fun i => (eqD tab (m + 1) 5 ((Cs.es (eSec s)).load ⟨1, 1, .int .u8, [.int .u8 0]⟩ (i * 1)).2 ((Cs.es (eSec s)).load ⟨1, 1, .int .u8, [.int .u8 0]⟩ (i * 1)).2).2) = true
    rw [List.all_eq_true]
    intro i hi
    have hi := List.mem_range.1 hi
    obtain ⟨h1, h2⟩ := secL h i hi _ rfl
    have h2 : ((Cs.es (eSec s)).load ⟨1, 1, .int .u8, [.int .u8 0]⟩ (i * 1)).2 = .one (.e (eB (s.getD i 0))) := h2
    rw [h2]
    exact beq_self_eq_true _
theorem eqP (p : Dput) (h : p.b.length = 32) (m : Nat) : (eqD tab (m + 3) 90 (.agg (.es (ePut p))) (.agg (.es (ePut p)))).1 ∧ (eqD tab (m + 3) 90 (.agg (.es (ePut p))) (.agg (.es (ePut p)))).2 = true := by
  obtain ⟨e1, e2⟩ := eqS p.b h m
  have hl := ePut_len h
  have hs := eSec_len h
  have ht : List.take 32 (List.drop 1 (ePut p)) = eSec p.b := List.take_of_length_le (by rw [show List.drop 1 (ePut p) = eSec p.b from rfl]; omega)
  constructor
  · show (0 < (ePut p).length ∧ _) ∧ (0 < (ePut p).length ∧ _) ∧ _ ∧ (1 + 32 ≤ (ePut p).length) ∧ (1 + 32 ≤ (ePut p).length) ∧ (eqD tab (m + 2) 88 (.agg (.es (List.take 32 (List.drop 1 (ePut p))))) (.agg (.es (List.take 32 (List.drop 1 (ePut p)))))).1 ∧ True
    rw [ht]
    exact ⟨⟨by omega, rfl⟩, ⟨by omega, rfl⟩, rfl, by omega, by omega, e1, trivial⟩
  · show (_ && ((eqD tab (m + 2) 88 (.agg (.es (List.take 32 (List.drop 1 (ePut p))))) (.agg (.es (List.take 32 (List.drop 1 (ePut p)))))).2 && true)) = true
    rw [ht, e2]
    exact (Bool.and_true _).trans (beq_self_eq_true _)
set_option maxRecDepth 10000 in
set_option maxHeartbeats 2000000 in
theorem sameDisk_fn (d : Dsk) (h : d.ok) (hl : d.l.length ≤ 400) (hw : d.w.length ≤ 60) : FnD Try.prog 20 [.agg (.es (eDsk d)), .agg (.es (eDsk d))] (.v (.bool true)) := by
  refine fn_intro (T := tab) tOk Try.func20 rfl (by kernel_rfl) (by simp [Try.ntmps20]) ?_
  intro X hX
  have hnt : X.nt = 59 := hX
  clear hX
  have hll : (d.l.map eSec).length = d.l.length := List.length_map ..
  have hwl : (d.w.map ePut).length = d.w.length := List.length_map ..
  repeat' (first | refine tr_seq ?_ | refine reg (T := tab) tOk hnt rfl ?_ ?_ | refine regD (T := tab) tOk mixedR hnt rfl (by decide +kernel) ?_ ?_ | refine tr_block ?_ | refine tr_skip ?_)
  · (dsimp only [AllP]; (repeat' first | exact trivial | assumption | exact Nat.le_of_ble_eq_true rfl | apply And.intro | decide | intro _ | exact rfl))
  · (dsimp only [AllP]; (repeat' first | exact trivial | assumption | exact Nat.le_of_ble_eq_true rfl | apply And.intro | decide | intro _ | exact rfl))
  repeat' (first | refine tr_seq ?_ | refine tr_block ?_ | refine tr_skip ?_)
  refine tr_cond rfl (fun hc => ?_) (fun hc => ?_)
  · simp only [condT_tt, condT_ff, condF_tt, condF_ff, notE_t, notE_f, decide_eq_true_eq, decide_eq_false_iff_not] at hc
    rcases hc with h | h <;> exact (h trivial).elim
  simp only [condT_tt, condT_ff, condF_tt, condF_ff, notE_t, notE_f, decide_eq_true_eq, decide_eq_false_iff_not] at hc
  repeat' (first | refine tr_seq ?_ | refine reg (T := tab) tOk hnt rfl ?_ ?_ | refine regD (T := tab) tOk mixedR hnt rfl (by decide +kernel) ?_ ?_ | refine tr_block ?_ | refine tr_skip ?_)
  · (dsimp only [AllP]; (repeat' first | exact trivial | assumption | exact Nat.le_of_ble_eq_true rfl | apply And.intro | decide | intro _ | exact rfl))
  repeat' (first | refine tr_seq ?_ | refine tr_block ?_ | refine tr_skip ?_)
  refine tr_loop (σ := Nat) (fun i => St.of [(2, .one (.ptr 2 0 0)), (3, .one (.ptr 3 0 0)), (25, .one (.e (eI ((d.l.map eSec).length : Int)))), (26, .one (.e (eI (i : Int))))] [(2, ⟨0, .box (.es (eDsk d)), 0⟩), (3, ⟨0, .box (.es (eDsk d)), 0⟩)]) (fun i => i ≤ d.l.length) (fun i => d.l.length - i) (0) (le_of (ad := []) (by refine ⟨?_, ?_, ?_, ?_, trivial⟩ <;> first | exact trivial | rfl | exact ⟨rfl, rfl⟩ | exact ⟨rfl, rfl, rfl⟩ | exact ⟨rfl, rfl, rfl, rfl⟩ | exact ⟨rfl, rfl, rfl, rfl, rfl⟩ | exact congrArg (fun z : Int => E.v (.int .i64 z)) (wrap64_id (by omega) (by omega)) | (refine ⟨rfl, ?_⟩; repeat' first | exact trivial | rfl | apply And.intro)) (memOk_box rfl rfl rfl (memOk_box rfl rfl rfl trivial))) (Nat.zero_le _) ?_
  rintro i il
  repeat' (first | refine tr_seq ?_ | refine reg (T := tab) tOk hnt rfl ?_ ?_ | refine regD (T := tab) tOk mixedR hnt rfl (by decide +kernel) ?_ ?_ | refine tr_block ?_ | refine tr_skip ?_)
  · (dsimp only [AllP]; (repeat' first | exact trivial | assumption | exact Nat.le_of_ble_eq_true rfl | apply And.intro | decide | intro _ | exact rfl))
  repeat' (first | refine tr_seq ?_ | refine tr_block ?_ | refine tr_skip ?_)
  refine tr_cond rfl (fun hc => ?_) (fun hc => ?_)
  · simp only [condT_tt, condT_ff, condF_tt, condF_ff, notE_t, notE_f, decide_eq_true_eq, decide_eq_false_iff_not] at hc
    (try simp only [hll] at hc)
    (try simp only [condT_tt, condT_ff, condF_tt, condF_ff, notE_t, notE_f, decide_eq_true_eq, decide_eq_false_iff_not] at hc)
    have hlt : i < d.l.length := by omega
    have hg := secGet d.l i hlt
    have hs := h.l _ (memD (d := []) hlt)
    have hsl := eSec_len hs
    have hf32 : 0 + 32 ≤ (Cs.es (eSec (d.l.getD i []))).len := by show _ ≤ (eSec _).length; omega
    have ht32 := take_all hsl
    obtain ⟨e1, e2⟩ := eqS _ hs 7
    have ha : List.take 32 (List.drop 0 (eSec (d.l.getD i []))) = eSec (d.l.getD i []) := List.take_of_length_le (by rw [List.drop_zero]; omega)
    have e3 : (eqD tab 9 88 (.agg (.es (List.take 32 (List.drop 0 (eSec (d.l.getD i []))))) ) (.agg (.es (List.take 32 (List.drop 0 (eSec (d.l.getD i []))))))).1 := by rw [ha]; exact e1
    repeat' (first | refine tr_seq ?_ | refine tr_block ?_ | refine tr_skip ?_)
    first | refine reg (T := tab) tOk hnt rfl ?_ ?_ | refine regD (T := tab) tOk mixedR hnt rfl (by decide +kernel) ?_ ?_
    · (dsimp only [AllP]; (repeat' first | exact trivial | assumption | exact Nat.le_of_ble_eq_true rfl | apply And.intro | exact eCells_len1 _ _ ‹_› | exact eCells_isByte _ _ ‹_› | (intro hh_; have hg_ := hh_; (try simp only [condT_ff, condF_tt, notE_t, notE_f, Bool.and_eq_true, ne_eq, decide_eq_true_eq, decide_eq_false_iff_not] at hg_)) | intro _ | exact rfl | omega))
    repeat' (first | refine tr_seq ?_ | refine tr_block ?_ | refine tr_skip ?_)
    first | refine reg (T := tab) tOk hnt rfl ?_ ?_ | refine regD (T := tab) tOk mixedR hnt rfl (by decide +kernel) ?_ ?_
    · rw [dl0, Int.toNat_natCast, hg, hll]
      (dsimp only [AllP]; (repeat' first | exact trivial | assumption | exact Nat.le_of_ble_eq_true rfl | apply And.intro | exact eCells_len1 _ _ ‹_› | exact eCells_isByte _ _ ‹_› | (intro hh_; have hg_ := hh_; (try simp only [condT_ff, condF_tt, notE_t, notE_f, Bool.and_eq_true, ne_eq, decide_eq_true_eq, decide_eq_false_iff_not] at hg_)) | intro _ | exact rfl | omega))
      all_goals trace_state
    rw [dl0, Int.toNat_natCast, hg]
    generalize d.l.getD i [] = v at *
    repeat' (first | refine tr_seq ?_ | refine tr_block ?_ | refine tr_skip ?_)
    refine tr_cond rfl (fun hc => ?_) (fun hc => ?_)
    · have hc : (!(eqD tab 9 88 (.agg (.es (List.take 32 (List.drop 0 (eSec v))))) (.agg (.es (List.take 32 (List.drop 0 (eSec v)))))).2) = true := hc
      rw [ha, e2] at hc
      exact absurd hc (by decide)
    have h64 : IntKind.i64.wrap ((i : Int) + 1) = ((i + 1 : Nat) : Int) := wrap64_id (by omega) (by omega)
    repeat' (first | refine tr_seq ?_ | refine reg (T := tab) tOk hnt rfl ?_ ?_ | refine regD (T := tab) tOk mixedR hnt rfl (by decide +kernel) ?_ ?_ | refine tr_block ?_ | refine tr_skip ?_)
    · (dsimp only [AllP]; (repeat' first | exact trivial | assumption | exact Nat.le_of_ble_eq_true rfl | apply And.intro | decide | intro _ | exact rfl))
    rw [h64]
    refine ⟨i + 1, (by omega), by omega, le_of (ad := []) (by refine ⟨?_, ?_, ?_, ?_, trivial⟩ <;> first | exact trivial | rfl | exact ⟨rfl, rfl⟩ | exact ⟨rfl, rfl, rfl⟩ | exact ⟨rfl, rfl, rfl, rfl⟩ | exact ⟨rfl, rfl, rfl, rfl, rfl⟩ | exact congrArg (fun z : Int => E.v (.int .i64 z)) (wrap64_id (by omega) (by omega)) | (refine ⟨rfl, ?_⟩; repeat' first | exact trivial | rfl | apply And.intro)) (memOk_box rfl rfl rfl (memOk_box rfl rfl rfl trivial))⟩
  simp only [condT_tt, condT_ff, condF_tt, condF_ff, notE_t, notE_f, decide_eq_true_eq, decide_eq_false_iff_not] at hc
  (try simp only [hll] at hc)
  (try simp only [condT_tt, condT_ff, condF_tt, condF_ff, notE_t, notE_f, decide_eq_true_eq, decide_eq_false_iff_not] at hc)
  refine tr_exit ?_
  repeat' (first | refine tr_seq ?_ | refine reg (T := tab) tOk hnt rfl ?_ ?_ | refine regD (T := tab) tOk mixedR hnt rfl (by decide +kernel) ?_ ?_ | refine tr_block ?_ | refine tr_skip ?_)
  · (dsimp only [AllP]; (repeat' first | exact trivial | assumption | exact Nat.le_of_ble_eq_true rfl | apply And.intro | decide | intro _ | exact rfl))
  repeat' (first | refine tr_seq ?_ | refine tr_block ?_ | refine tr_skip ?_)
  refine tr_loop (σ := Nat) (fun i => St.of [(2, .one (.ptr 2 0 0)), (3, .one (.ptr 3 0 0)), (43, .one (.e (eI ((d.w.map ePut).length : Int)))), (44, .one (.e (eI (i : Int))))] [(2, ⟨0, .box (.es (eDsk d)), 0⟩), (3, ⟨0, .box (.es (eDsk d)), 0⟩)]) (fun i => i ≤ d.w.length) (fun i => d.w.length - i) (0) (le_of (ad := []) (by refine ⟨?_, ?_, ?_, ?_, trivial⟩ <;> first | exact trivial | rfl | exact ⟨rfl, rfl⟩ | exact ⟨rfl, rfl, rfl⟩ | exact ⟨rfl, rfl, rfl, rfl⟩ | exact ⟨rfl, rfl, rfl, rfl, rfl⟩ | exact congrArg (fun z : Int => E.v (.int .i64 z)) (wrap64_id (by omega) (by omega)) | (refine ⟨rfl, ?_⟩; repeat' first | exact trivial | rfl | apply And.intro)) (memOk_box rfl rfl rfl (memOk_box rfl rfl rfl trivial))) (Nat.zero_le _) ?_
  rintro i il
  repeat' (first | refine tr_seq ?_ | refine reg (T := tab) tOk hnt rfl ?_ ?_ | refine regD (T := tab) tOk mixedR hnt rfl (by decide +kernel) ?_ ?_ | refine tr_block ?_ | refine tr_skip ?_)
  · (dsimp only [AllP]; (repeat' first | exact trivial | assumption | exact Nat.le_of_ble_eq_true rfl | apply And.intro | decide | intro _ | exact rfl))
  repeat' (first | refine tr_seq ?_ | refine tr_block ?_ | refine tr_skip ?_)
  refine tr_cond rfl (fun hc => ?_) (fun hc => ?_)
  · simp only [condT_tt, condT_ff, condF_tt, condF_ff, notE_t, notE_f, decide_eq_true_eq, decide_eq_false_iff_not] at hc
    (try simp only [hwl] at hc)
    (try simp only [condT_tt, condT_ff, condF_tt, condF_ff, notE_t, notE_f, decide_eq_true_eq, decide_eq_false_iff_not] at hc)
    have hlt : i < d.w.length := by omega
    have hg := putGet d.w i hlt
    have hs := h.w _ (memD (d := dp0) hlt)
    have hsl := ePut_len hs
    have hf32 : 0 + 33 ≤ (Cs.es (ePut (d.w.getD i dp0))).len := by show _ ≤ (ePut _).length; omega
    have ht32 := take_all hsl
    obtain ⟨e1, e2⟩ := eqP _ hs 6
    have ha : List.take 33 (List.drop 0 (ePut (d.w.getD i dp0))) = ePut (d.w.getD i dp0) := List.take_of_length_le (by rw [List.drop_zero]; omega)
    have e3 : (eqD tab 9 90 (.agg (.es (List.take 33 (List.drop 0 (ePut (d.w.getD i dp0)))))) (.agg (.es (List.take 33 (List.drop 0 (ePut (d.w.getD i dp0))))))).1 := by rw [ha]; exact e1
    repeat' (first | refine tr_seq ?_ | refine tr_block ?_ | refine tr_skip ?_)
    first | refine reg (T := tab) tOk hnt rfl ?_ ?_ | refine regD (T := tab) tOk mixedR hnt rfl (by decide +kernel) ?_ ?_
    · (dsimp only [AllP]; (repeat' first | exact trivial | assumption | exact Nat.le_of_ble_eq_true rfl | apply And.intro | exact eCells_len1 _ _ ‹_› | exact eCells_isByte _ _ ‹_› | (intro hh_; have hg_ := hh_; (try simp only [condT_ff, condF_tt, notE_t, notE_f, Bool.and_eq_true, ne_eq, decide_eq_true_eq, decide_eq_false_iff_not] at hg_)) | intro _ | exact rfl | omega))
    repeat' (first | refine tr_seq ?_ | refine tr_block ?_ | refine tr_skip ?_)
    first | refine reg (T := tab) tOk hnt rfl ?_ ?_ | refine regD (T := tab) tOk mixedR hnt rfl (by decide +kernel) ?_ ?_
    · rw [dl1, Int.toNat_natCast, hg, hwl]
      (dsimp only [AllP]; (repeat' first | exact trivial | assumption | exact Nat.le_of_ble_eq_true rfl | apply And.intro | exact eCells_len1 _ _ ‹_› | exact eCells_isByte _ _ ‹_› | (intro hh_; have hg_ := hh_; (try simp only [condT_ff, condF_tt, notE_t, notE_f, Bool.and_eq_true, ne_eq, decide_eq_true_eq, decide_eq_false_iff_not] at hg_)) | intro _ | exact rfl | omega))
    rw [dl1, Int.toNat_natCast, hg]
    generalize d.w.getD i dp0 = v at *
    repeat' (first | refine tr_seq ?_ | refine tr_block ?_ | refine tr_skip ?_)
    refine tr_cond rfl (fun hc => ?_) (fun hc => ?_)
    · have hc : (!(eqD tab 9 90 (.agg (.es (List.take 33 (List.drop 0 (ePut v))))) (.agg (.es (List.take 33 (List.drop 0 (ePut v)))))).2) = true := hc
      rw [ha, e2] at hc
      exact absurd hc (by decide)
    have h64 : IntKind.i64.wrap ((i : Int) + 1) = ((i + 1 : Nat) : Int) := wrap64_id (by omega) (by omega)
    repeat' (first | refine tr_seq ?_ | refine reg (T := tab) tOk hnt rfl ?_ ?_ | refine regD (T := tab) tOk mixedR hnt rfl (by decide +kernel) ?_ ?_ | refine tr_block ?_ | refine tr_skip ?_)
    · (dsimp only [AllP]; (repeat' first | exact trivial | assumption | exact Nat.le_of_ble_eq_true rfl | apply And.intro | decide | intro _ | exact rfl))
    rw [h64]
    refine ⟨i + 1, (by omega), by omega, le_of (ad := []) (by refine ⟨?_, ?_, ?_, ?_, trivial⟩ <;> first | exact trivial | rfl | exact ⟨rfl, rfl⟩ | exact ⟨rfl, rfl, rfl⟩ | exact ⟨rfl, rfl, rfl, rfl⟩ | exact ⟨rfl, rfl, rfl, rfl, rfl⟩ | exact congrArg (fun z : Int => E.v (.int .i64 z)) (wrap64_id (by omega) (by omega)) | (refine ⟨rfl, ?_⟩; repeat' first | exact trivial | rfl | apply And.intro)) (memOk_box rfl rfl rfl (memOk_box rfl rfl rfl trivial))⟩
  simp only [condT_tt, condT_ff, condF_tt, condF_ff, notE_t, notE_f, decide_eq_true_eq, decide_eq_false_iff_not] at hc
  (try simp only [hwl] at hc)
  (try simp only [condT_tt, condT_ff, condF_tt, condF_ff, notE_t, notE_f, decide_eq_true_eq, decide_eq_false_iff_not] at hc)
  refine tr_exit ?_
  repeat' (first | refine tr_seq ?_ | refine reg (T := tab) tOk hnt rfl ?_ ?_ | refine regD (T := tab) tOk mixedR hnt rfl (by decide +kernel) ?_ ?_ | refine tr_block ?_ | refine tr_skip ?_)
  · (dsimp only [AllP]; (repeat' first | exact trivial | assumption | exact Nat.le_of_ble_eq_true rfl | apply And.intro | decide | intro _ | exact rfl))
  exact tr_ret ⟨.inr rfl, _, _, rfl, trivial, rfl⟩
theorem dk_w60 {d : Dsk} {i : Int} (h : scF d i = 0) : dkF d = 0 := by
  refine Classical.byContradiction fun h2 => ?_
  rw [scF_bad i h2] at h
  exact h2 h
theorem wrF_ok {d : Dsk} (i : Int) {b : List UInt8} (h : d.ok) (hb : b.length = 32) : (wrF d i b).1.ok ∧ (wrF d i b).1.l.length ≤ 400 ∧ (wrF d i b).1.w.length ≤ 60 := by
  have h0 : dk0.ok ∧ dk0.l.length ≤ 400 ∧ dk0.w.length ≤ 60 := ⟨⟨fun s hs => absurd hs List.not_mem_nil, fun s hs => absurd hs List.not_mem_nil⟩, Nat.zero_le _, Nat.zero_le _⟩
  unfold wrF
  split
  · exact h0
  · rename_i h1
    have h1 := Classical.not_not.1 h1
    have hle := dk_le (dk_w60 h1)
    split
    · exact h0
    · refine ⟨Dsk.ok.mk h.l (fun p hp => ?_), hle.2.1, ?_⟩
      · rcases List.mem_append.1 hp with hp | hp
        · exact h.w p hp
        · rw [List.mem_singleton.1 hp]
          exact hb
      · show (d.w ++ [Dput.mk i b]).length ≤ 60
        rw [List.length_append]
        show d.w.length + 1 ≤ 60
        omega
theorem dskAll (d : Dsk) : List.take 2 (List.drop 0 (eDsk d)) = eDsk d := rfl
end Go.Proofs.Ytphaholcndhonaa
