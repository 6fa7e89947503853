/- Tapes: a deed on a disk. No condition. -/
import Derived.Test.YtphaholcndhonaaTPA
import Derived.Test.YtphaholcndhonaaTDk3
import Derived.Test.YtphaholcndhonaaAbK
namespace Go.Proofs.Ytphaholcndhonaa
open Go Go.RowKit Go.Proofs.Ytphaholcndhonaa.Ab
set_option linter.unusedSimpArgs false
set_option linter.unusedVariables false

set_option maxRecDepth 10000 in
set_option maxHeartbeats 2000000 in
theorem lasts_fn (i : Int) : FnD Try.prog 52 [.one (.e (eI i))] (.v (.bool true)) := by
  refine fn_intro (T := tab) tOk Try.func52 rfl (by kernel_rfl) (by simp [Try.ntmps52]) ?_
  intro X hX
  have hnt : X.nt = 3 := hX
  clear hX
  repeat' (first | refine tr_seq ?_ | refine reg (T := tab) tOk hnt rfl ?_ ?_ | refine regD (T := tab) tOk mixedR hnt rfl (by first | decide +kernel | kernel_rfl) ?_ ?_ | refine tr_block ?_ | refine tr_skip ?_)
  · (dsimp only [AllP]; (repeat' first | exact trivial | assumption | exact Nat.le_of_ble_eq_true rfl | apply And.intro | decide | intro _ | exact rfl))
  · (dsimp only [AllP]; (repeat' first | exact trivial | assumption | exact Nat.le_of_ble_eq_true rfl | apply And.intro | decide | intro _ | exact rfl))
  exact tr_ret ⟨.inr rfl, _, _, rfl, trivial, rfl⟩
/-- sectors with puts laid on them -/
def ptL (l : List (List UInt8)) (w : List Dput) : List (List UInt8) := w.foldl (fun l p => l.set p.k.toNat p.b) l
def syF (d : Dsk) : Dsk × Int := if dkF d ≠ 0 then (dk0, dkF d) else (⟨ptL d.l d.w, []⟩, 0)
theorem ptL_len : ∀ (w : List Dput) (l : List (List UInt8)), (ptL l w).length = l.length
  | [], l => rfl
  | p :: w, l => by
    show (ptL (l.set p.k.toNat p.b) w).length = _
    rw [ptL_len w, List.length_set]
theorem ptL_ok : ∀ (w : List Dput) (l : List (List UInt8)), (∀ s ∈ l, s.length = 32) → (∀ p ∈ w, p.b.length = 32) → ∀ s ∈ ptL l w, s.length = 32
  | [], l, h, _ => h
  | p :: w, l, h, hw => ptL_ok w (l.set p.k.toNat p.b) (fun s hs => by
      rcases List.mem_or_eq_of_mem_set hs with hs | rfl
      · exact h s hs
      · exact hw p (List.mem_cons_self ..)) fun q hq => hw q (List.mem_cons_of_mem _ hq)
theorem ptL_snoc (l : List (List UInt8)) (w : List Dput) (p : Dput) : ptL l (w ++ [p]) = (ptL l w).set p.k.toNat p.b := by
  unfold ptL
  rw [List.foldl_append]
  rfl
theorem wF_in {n : Nat} : ∀ {w : List Dput}, wF n w = 0 → ∀ p ∈ w, 0 ≤ p.k ∧ p.k < (n : Int)
  | [], _, p, hp => nomatch hp
  | q :: w, h, p, hp => by
    rw [wF] at h
    split at h
    · cases h
    · rename_i hq
      rcases List.mem_cons.1 hp with rfl | hp
      · omega
      · exact wF_in h p hp
theorem dk_in {d : Dsk} (h : dkF d = 0) : ∀ p ∈ d.w, 0 ≤ p.k ∧ p.k < (d.l.length : Int) := by
  unfold dkF at h
  split at h
  · cases h
  · exact wF_in h
theorem syF_ok {d : Dsk} (h : d.ok) : (syF d).1.ok := by
  unfold syF
  split
  · exact ⟨fun s hs => (nomatch hs), fun p hp => (nomatch hp)⟩
  · exact ⟨ptL_ok d.w d.l h.l h.w, fun p hp => (nomatch hp)⟩
theorem setLs (l : List (List UInt8)) {q : Nat} (h : q < l.length) (hl : ∀ s ∈ l, s.length = 32) (b : List UInt8) : setEl (eLs l) q 0 32 (eSec b) = eLs (l.set q b) := by
  unfold setEl eLs
  rw [secGet l q h, List.map_set]
  have h32 : (eSec (l.getD q [])).length = 32 := eSec_len (hl _ (memD h))
  rw [List.take_zero, List.drop_eq_nil_of_le (by omega), List.nil_append, List.append_nil]
set_option maxRecDepth 10000 in
set_option maxHeartbeats 2000000 in
theorem fall_fn (d : Dsk) (h : d.ok) : FnD Try.prog 51 [.agg (.es (eDsk d)), .one (.clo 52 [])] (rDk (syF d)) := by
  refine fn_intro (T := tab) tOk Try.func51 rfl (by kernel_rfl) (by simp [Try.ntmps51]) ?_
  intro X hX
  have hnt : X.nt = 41 := hX
  clear hX
  have hll : (d.l.map eSec).length = d.l.length := List.length_map ..
  have hwl : (d.w.map ePut).length = d.w.length := List.length_map ..
  have h32 : ∀ cs ∈ d.l.map eSec, cs.length = 32 := fun cs hc => by obtain ⟨s, hs, rfl⟩ := List.mem_map.1 hc; exact eSec_len (h.l s hs)
  have h1 := dCheck_fn d h
  unfold syF
  repeat' (first | refine tr_seq ?_ | refine tr_block ?_ | refine tr_skip ?_)
  first | refine reg (T := tab) tOk hnt rfl ?_ ?_ | refine regD (T := tab) tOk mixedR hnt rfl (by first | decide +kernel | kernel_rfl) ?_ ?_
  · (dsimp only [AllP]; (repeat' first | exact trivial | assumption | exact Nat.le_of_ble_eq_true rfl | apply And.intro | exact eCells_len1 _ _ ‹_› | exact eCells_isByte _ _ ‹_› | (intro hh_; have hg_ := hh_; (try simp only [condT_ff, condF_tt, notE_t, notE_f, Bool.and_eq_true, ne_eq, decide_eq_true_eq, decide_eq_false_iff_not] at hg_)) | intro _ | exact rfl | omega))
  repeat' (first | refine tr_seq ?_ | refine tr_block ?_ | refine tr_skip ?_)
  refine tr_region (lex (T := tab) tOk hnt rfl ?_ (call rfl rfl rfl rfl rfl rfl rfl hnt (h1) (lex (T := tab) tOk hnt rfl ?_ (Lex.nil _)))) ?_
  · (dsimp only [AllP]; (repeat' first | exact trivial | assumption | exact Nat.le_of_ble_eq_true rfl | apply And.intro | exact eCells_len1 _ _ ‹_› | exact eCells_isByte _ _ ‹_› | (intro hh_; have hg_ := hh_; (try simp only [condT_ff, condF_tt, notE_t, notE_f, Bool.and_eq_true, ne_eq, decide_eq_true_eq, decide_eq_false_iff_not] at hg_)) | intro _ | exact rfl | omega))
    all_goals trace_state
  · (dsimp only [AllP]; (repeat' first | exact trivial | assumption | exact Nat.le_of_ble_eq_true rfl | apply And.intro | exact eCells_len1 _ _ ‹_› | exact eCells_isByte _ _ ‹_› | (intro hh_; have hg_ := hh_; (try simp only [condT_ff, condF_tt, notE_t, notE_f, Bool.and_eq_true, ne_eq, decide_eq_true_eq, decide_eq_false_iff_not] at hg_)) | intro _ | exact rfl | omega))
    all_goals trace_state
  repeat' (first | refine tr_seq ?_ | refine reg (T := tab) tOk hnt rfl ?_ ?_ | refine regD (T := tab) tOk mixedR hnt rfl (by first | decide +kernel | kernel_rfl) ?_ ?_ | refine tr_block ?_ | refine tr_skip ?_)
  · (dsimp only [AllP]; (repeat' first | exact trivial | assumption | exact Nat.le_of_ble_eq_true rfl | apply And.intro | decide | intro _ | exact rfl))
  repeat' (first | refine tr_seq ?_ | refine tr_block ?_ | refine tr_skip ?_)
  refine tr_cond rfl (fun hc => ?_) (fun hc => ?_)
  · simp only [condT_tt, condT_ff, condF_tt, condF_ff, notE_t, notE_f, decide_eq_true_eq, decide_eq_false_iff_not] at hc
    have hc : dkF d ≠ 0 := hc
    rw [if_pos hc]
    repeat' (first | refine tr_seq ?_ | refine reg (T := tab) tOk hnt rfl ?_ ?_ | refine regD (T := tab) tOk mixedR hnt rfl (by first | decide +kernel | kernel_rfl) ?_ ?_ | refine tr_block ?_ | refine tr_skip ?_)
    · (dsimp only [AllP]; (repeat' first | exact trivial | assumption | exact Nat.le_of_ble_eq_true rfl | apply And.intro | decide | intro _ | exact rfl))
    refine tr_ret ⟨.inr rfl, _, _, rfl, by (repeat' first | exact trivial | exact Nat.le_of_ble_eq_true rfl | apply And.intro), ?_⟩
    exact rfl
  simp only [condT_tt, condT_ff, condF_tt, condF_ff, notE_t, notE_f, decide_eq_true_eq, decide_eq_false_iff_not] at hc
  have hc : dkF d = 0 := hc
  rw [if_neg (not_not_intro hc)]
  have hle := dk_le hc
  have hin := dk_in hc
  have m3 : ([] : List (List E)).length + ((eDsk d).getD (0 + 0) E.dflt).xs.length ≤ maxLen := by rw [dl0, hll]; show 0 + d.l.length ≤ maxLen; unfold maxLen; omega
  have m4 : (([] : List (List E)).length + ((eDsk d).getD (0 + 0) E.dflt).xs.length) * 32 ≤ 140737488355328 := by rw [dl0, hll]; show (0 + d.l.length) * 32 ≤ _; omega
  repeat' (first | refine tr_seq ?_ | refine tr_block ?_ | refine tr_skip ?_)
  first | refine reg (T := tab) tOk hnt rfl ?_ ?_ | refine regD (T := tab) tOk mixedR hnt rfl (by first | decide +kernel | kernel_rfl) ?_ ?_
  · (dsimp only [AllP]; (repeat' first | exact trivial | assumption | exact Nat.le_of_ble_eq_true rfl | apply And.intro | exact eCells_len1 _ _ ‹_› | exact eCells_isByte _ _ ‹_› | (intro hh_; have hg_ := hh_; (try simp only [condT_ff, condF_tt, notE_t, notE_f, Bool.and_eq_true, ne_eq, decide_eq_true_eq, decide_eq_false_iff_not] at hg_)) | intro _ | exact rfl | omega))
    all_goals first | exact h32 _ ‹_› | trace_state
  repeat' (first | refine tr_seq ?_ | refine tr_block ?_ | refine tr_skip ?_)
  first | refine reg (T := tab) tOk hnt rfl ?_ ?_ | refine regD (T := tab) tOk mixedR hnt rfl (by first | decide +kernel | kernel_rfl) ?_ ?_
  · (dsimp only [AllP]; (repeat' first | exact trivial | assumption | exact Nat.le_of_ble_eq_true rfl | apply And.intro | exact eCells_len1 _ _ ‹_› | exact eCells_isByte _ _ ‹_› | (intro hh_; have hg_ := hh_; (try simp only [condT_ff, condF_tt, notE_t, notE_f, Bool.and_eq_true, ne_eq, decide_eq_true_eq, decide_eq_false_iff_not] at hg_)) | intro _ | exact rfl | omega))
    all_goals trace_state
  repeat' (first | refine tr_seq ?_ | refine tr_block ?_ | refine tr_skip ?_)
  refine tr_loop (σ := Nat) (fun i => St.of [(1, .one (.clo 52 [])), (4, .one (.ptr 4 0 0)), (7, .one (.ptr 7 0 0)), (22, .one (.e (.sl (d.w.map ePut)))), (23, .one (.e (eI ((d.w.map ePut).length : Int)))), (24, .one (.e (eI (i : Int))))] [(4, ⟨0, .box (.ds [.nil, .nil]), 0⟩), (7, ⟨0, .box (.ds [.own 16 0, .nil]), 0⟩), (16, ⟨0, .row 32 (eLs (ptL d.l (d.w.take i))), 0⟩)]) (fun i => i ≤ d.w.length) (fun i => d.w.length - i) (0) (le_of (ad := []) (by refine ⟨?_, ?_, ?_, ?_, ?_, ?_, trivial⟩ <;> first | exact trivial | rfl | exact ⟨rfl, rfl⟩ | exact ⟨rfl, rfl, rfl⟩ | exact ⟨rfl, rfl, rfl, rfl⟩ | exact ⟨rfl, rfl, rfl, rfl, rfl⟩ | exact congrArg (fun z : Int => E.v (.int .i64 z)) (wrap64_id (by omega) (by omega)) | exact congrArg (fun z : Int => E.v (.int .u8 z)) (by assumption) | exact congrArg (fun z : ByteArray => E.v (.string z)) (by assumption) | (refine ⟨rfl, ?_⟩; repeat' first | exact trivial | rfl | apply And.intro)) (memOk_box rfl rfl ⟨trivial, trivial, trivial⟩ (memOk_box rfl rfl ⟨⟨rfl, rfl, rfl, rfl⟩, trivial, trivial⟩ (memOk_row rfl rfl rfl trivial)))) (Nat.zero_le _) ?_
  rintro i il
  have hwL : (d.w.map ePut).length = d.w.length := List.length_map ..
  repeat' (first | refine tr_seq ?_ | refine reg (T := tab) tOk hnt rfl ?_ ?_ | refine regD (T := tab) tOk mixedR hnt rfl (by first | decide +kernel | kernel_rfl) ?_ ?_ | refine tr_block ?_ | refine tr_skip ?_)
  · (dsimp only [AllP]; (repeat' first | exact trivial | assumption | exact Nat.le_of_ble_eq_true rfl | apply And.intro | decide | intro _ | exact rfl))
  repeat' (first | refine tr_seq ?_ | refine tr_block ?_ | refine tr_skip ?_)
  refine tr_cond rfl (fun hc => ?_) (fun hc => ?_)
  · simp only [condT_tt, condT_ff, condF_tt, condF_ff, notE_t, notE_f, decide_eq_true_eq, decide_eq_false_iff_not] at hc
    (try simp only [hwL] at hc)
    (try simp only [condT_tt, condT_ff, condF_tt, condF_ff, notE_t, notE_f, decide_eq_true_eq, decide_eq_false_iff_not] at hc)
    have hlt : i < d.w.length := by omega
    have hg := putGet d.w i hlt
    have hp32 : (d.w.getD i dp0).b.length = 32 := h.w _ (memD hlt)
    have hpk := hin _ (memD (d := dp0) hlt)
    have hsn : ptL d.l (d.w.take (i + 1)) = (ptL d.l (d.w.take i)).set (d.w.getD i dp0).k.toNat (d.w.getD i dp0).b := by rw [takeS (d := dp0) hlt, ptL_snoc]
    have hLl := ptL_len (d.w.take i) d.l
    have hLo := ptL_ok (d.w.take i) d.l h.l fun p hp => h.w p (List.mem_of_mem_take hp)
    generalize d.w.getD i dp0 = p at *
    generalize ptL d.l (d.w.take i) = L at *
    have h33 := ePut_len hp32
    have hla := lasts_fn (i : Int)
    have hts := take_all h33
    have h33b : 0 + 33 ≤ (Cs.es (ePut p)).len := by show 0 + 33 ≤ (ePut p).length; omega
    repeat' (first | refine tr_seq ?_ | refine tr_block ?_ | refine tr_skip ?_)
    first | refine reg (T := tab) tOk hnt rfl ?_ ?_ | refine regD (T := tab) tOk mixedR hnt rfl (by first | decide +kernel | kernel_rfl) ?_ ?_
    · rw [Int.toNat_natCast, hg]
      (dsimp only [AllP]; (repeat' first | exact trivial | assumption | exact Nat.le_of_ble_eq_true rfl | apply And.intro | exact eCells_len1 _ _ ‹_› | exact eCells_isByte _ _ ‹_› | (intro hh_; have hg_ := hh_; (try simp only [condT_ff, condF_tt, notE_t, notE_f, Bool.and_eq_true, ne_eq, decide_eq_true_eq, decide_eq_false_iff_not] at hg_)) | intro _ | exact rfl | omega))
      all_goals trace_state
    rw [Int.toNat_natCast, hg]
    refine tr_le (s' := St.of [(1, .one (.clo 52 [])), (4, .one (.ptr 4 0 0)), (7, .one (.ptr 7 0 0)), (8, .one (.e (eI (i : Int)))), (9, .one (.ptr 9 0 0)), (22, .one (.e (.sl (d.w.map ePut)))), (23, .one (.e (eI ((d.w.map ePut).length : Int)))), (24, .one (.e (eI (i : Int))))] [(4, ⟨0, .box (.ds [.nil, .nil]), 0⟩), (7, ⟨0, .box (.ds [.own 16 0, .nil]), 0⟩), (9, ⟨0, .box (.es (ePut p)), 0⟩), (16, ⟨0, .row 32 (eLs L), 0⟩)]) (le_of (ad := []) (by refine ⟨?_, ?_, ?_, ?_, ?_, ?_, ?_, ?_, trivial⟩ <;> first | exact trivial | rfl | exact ⟨rfl, rfl⟩ | exact ⟨rfl, rfl, rfl⟩ | exact ⟨rfl, rfl, rfl, rfl⟩ | exact ⟨rfl, rfl, rfl, rfl, rfl⟩ | exact congrArg (fun z : Int => E.v (.int .i64 z)) (wrap64_id (by omega) (by omega)) | exact congrArg (fun z : Int => E.v (.int .u8 z)) (by assumption) | exact congrArg (fun z : ByteArray => E.v (.string z)) (by assumption) | (refine ⟨rfl, ?_⟩; repeat' first | exact trivial | rfl | apply And.intro)) (memOk_box rfl rfl ⟨trivial, trivial, trivial⟩ (memOk_box rfl rfl ⟨⟨rfl, rfl, rfl, rfl⟩, trivial, trivial⟩ (memOk_box rfl rfl (bxC h33 rfl) (memOk_row rfl rfl rfl trivial))))) ?_
    have hpk0 : ((ePut p).getD (0 + 0) E.dflt).int = p.k := rfl
    have hpb : List.take 32 (List.drop (0 + 1) (ePut p)) = eSec p.b := ptB p hp32
    have hLL : (eLs L).length = L.length := List.length_map ..
    have hse := setLs L (show p.k.toNat < L.length by omega) hLo p.b
    have hb32 : (eSec p.b).length = 32 := eSec_len hp32
    have hf32 : (List.take 32 (List.drop (0 + 1) (ePut p))).length = 32 := by rw [hpb]; exact hb32
    have hk1 : (0 : Int) ≤ ((ePut p).getD (0 + 0) E.dflt).int := by rw [hpk0]; omega
    have hk2 : ((ePut p).getD (0 + 0) E.dflt).int.toNat < (eLs L).length := by rw [hpk0, hLL]; omega
    have hk3 : ((ePut p).getD (0 + 0) E.dflt).int < ((eLs L).length : Int) := by rw [hpk0, hLL]; omega
    have h1l : 0 + 1 + 32 ≤ (Cs.es (ePut p)).len := by show 0 + 1 + 32 ≤ (ePut p).length; omega
    repeat' (first | refine tr_seq ?_ | refine tr_block ?_ | refine tr_skip ?_)
    refine tr_region (lex (T := tab) tOk hnt rfl ?_ (call rfl rfl rfl rfl rfl rfl rfl hnt (hla) (lex (T := tab) tOk hnt rfl ?_ (Lex.nil _)))) ?_
    · (dsimp only [AllP]; (repeat' first | exact trivial | assumption | exact Nat.le_of_ble_eq_true rfl | apply And.intro | exact eCells_len1 _ _ ‹_› | exact eCells_isByte _ _ ‹_› | (intro hh_; have hg_ := hh_; (try simp only [condT_ff, condF_tt, notE_t, notE_f, Bool.and_eq_true, ne_eq, decide_eq_true_eq, decide_eq_false_iff_not] at hg_)) | intro _ | exact rfl | omega))
      all_goals trace_state
    · (dsimp only [AllP]; (repeat' first | exact trivial | assumption | exact Nat.le_of_ble_eq_true rfl | apply And.intro | exact eCells_len1 _ _ ‹_› | exact eCells_isByte _ _ ‹_› | (intro hh_; have hg_ := hh_; (try simp only [condT_ff, condF_tt, notE_t, notE_f, Bool.and_eq_true, ne_eq, decide_eq_true_eq, decide_eq_false_iff_not] at hg_)) | intro _ | exact rfl | omega))
      all_goals trace_state
    repeat' (first | refine tr_seq ?_ | refine tr_block ?_ | refine tr_skip ?_)
    refine tr_cond rfl (fun hc => ?_) (fun hc => ?_)
    · repeat' (first | refine tr_seq ?_ | refine tr_block ?_ | refine tr_skip ?_)
      first | refine reg (T := tab) tOk hnt rfl ?_ ?_ | refine regD (T := tab) tOk mixedR hnt rfl (by first | decide +kernel | kernel_rfl) ?_ ?_
      · (dsimp only [AllP]; (repeat' first | exact trivial | assumption | exact Nat.le_of_ble_eq_true rfl | apply And.intro | exact eCells_len1 _ _ ‹_› | exact eCells_isByte _ _ ‹_› | (intro hh_; have hg_ := hh_; (try simp only [condT_ff, condF_tt, notE_t, notE_f, Bool.and_eq_true, ne_eq, decide_eq_true_eq, decide_eq_false_iff_not] at hg_)) | intro _ | exact rfl | omega))
        all_goals trace_state
      repeat' (first | refine tr_seq ?_ | refine reg (T := tab) tOk hnt rfl ?_ ?_ | refine regD (T := tab) tOk mixedR hnt rfl (by first | decide +kernel | kernel_rfl) ?_ ?_ | refine tr_block ?_ | refine tr_skip ?_)
      · (dsimp only [AllP]; (repeat' first | exact trivial | assumption | exact Nat.le_of_ble_eq_true rfl | apply And.intro | decide | intro _ | exact rfl))
      refine ⟨i + 1, (by omega), by omega, le_of (ad := []) (by refine ⟨?_, ?_, ?_, ?_, ?_, ?_, trivial⟩ <;> first | exact trivial | rfl | exact ⟨rfl, rfl⟩ | exact ⟨rfl, rfl, rfl⟩ | exact ⟨rfl, rfl, rfl, rfl⟩ | exact ⟨rfl, rfl, rfl, rfl, rfl⟩ | exact congrArg (fun z : Int => E.v (.int .i64 z)) (wrap64_id (by omega) (by omega)) | exact congrArg (fun z : Int => E.v (.int .u8 z)) (by assumption) | exact congrArg (fun z : ByteArray => E.v (.string z)) (by assumption) | (refine ⟨rfl, ?_⟩; repeat' first | exact trivial | rfl | apply And.intro)) (memOk_box rfl rfl ⟨trivial, trivial, trivial⟩ (memOk_box rfl rfl ⟨⟨rfl, rfl, rfl, rfl⟩, trivial, trivial⟩ (memOk_row rfl rfl (by rw [hsn, ← hse, ← hpb]; rfl) trivial)))⟩
    exact absurd hc (by decide)
  simp only [condT_tt, condT_ff, condF_tt, condF_ff, notE_t, notE_f, decide_eq_true_eq, decide_eq_false_iff_not] at hc
  (try simp only [hwL] at hc)
  (try simp only [condT_tt, condT_ff, condF_tt, condF_ff, notE_t, notE_f, decide_eq_true_eq, decide_eq_false_iff_not] at hc)
  refine tr_exit ?_
  obtain rfl : i = d.w.length := by omega
  rw [List.take_length]
  repeat' (first | refine tr_seq ?_ | refine reg (T := tab) tOk hnt rfl ?_ ?_ | refine regD (T := tab) tOk mixedR hnt rfl (by first | decide +kernel | kernel_rfl) ?_ ?_ | refine tr_block ?_ | refine tr_skip ?_)
  · (dsimp only [AllP]; (repeat' first | exact trivial | assumption | exact Nat.le_of_ble_eq_true rfl | apply And.intro | decide | intro _ | exact rfl))
  refine tr_ret ⟨.inr rfl, _, _, rfl, by (repeat' first | exact trivial | exact Nat.le_of_ble_eq_true rfl | apply And.intro), ?_⟩
  exact rfl
end Go.Proofs.Ytphaholcndhonaa
namespace Go.Proofs.Ytphaholcndhonaa
open Go Go.RowKit Go.Proofs.Ytphaholcndhonaa.Ab
set_option linter.unusedSimpArgs false
set_option linter.unusedVariables false

set_option maxRecDepth 10000 in
set_option maxHeartbeats 2000000 in
theorem Sync_fn (d : Dsk) (h : d.ok) : FnD Try.prog 37 [.agg (.es (eDsk d))] (rDk (syF d)) := by
  refine fn_intro (T := tab) tOk Try.func37 rfl (by kernel_rfl) (by simp [Try.ntmps37]) ?_
  intro X hX
  have hnt : X.nt = 8 := hX
  clear hX
  have h1 := fall_fn d h
  generalize syF d = q at *
  obtain ⟨d2, e⟩ := q
  repeat' (first | refine tr_seq ?_ | refine reg (T := tab) tOk hnt rfl ?_ ?_ | refine regD (T := tab) tOk mixedR hnt rfl (by first | decide +kernel | kernel_rfl) ?_ ?_ | refine tr_block ?_ | refine tr_skip ?_)
  · (dsimp only [AllP]; (repeat' first | exact trivial | assumption | exact Nat.le_of_ble_eq_true rfl | apply And.intro | decide | intro _ | exact rfl))
  repeat' (first | refine tr_seq ?_ | refine tr_block ?_ | refine tr_skip ?_)
  refine tr_region (lex (T := tab) tOk hnt rfl ?_ (call rfl rfl rfl rfl rfl rfl rfl hnt (h1) (lex (T := tab) tOk hnt rfl ?_ (Lex.nil _)))) ?_
  · (dsimp only [AllP]; (repeat' first | exact trivial | assumption | exact Nat.le_of_ble_eq_true rfl | apply And.intro | exact eCells_len1 _ _ ‹_› | exact eCells_isByte _ _ ‹_› | (intro hh_; have hg_ := hh_; (try simp only [condT_ff, condF_tt, notE_t, notE_f, Bool.and_eq_true, ne_eq, decide_eq_true_eq, decide_eq_false_iff_not] at hg_)) | intro _ | exact rfl | omega))
    all_goals trace_state
  · (dsimp only [AllP]; (repeat' first | exact trivial | assumption | exact Nat.le_of_ble_eq_true rfl | apply And.intro | exact eCells_len1 _ _ ‹_› | exact eCells_isByte _ _ ‹_› | (intro hh_; have hg_ := hh_; (try simp only [condT_ff, condF_tt, notE_t, notE_f, Bool.and_eq_true, ne_eq, decide_eq_true_eq, decide_eq_false_iff_not] at hg_)) | intro _ | exact rfl | omega))
    all_goals trace_state
  refine tr_ret ⟨.inr rfl, _, _, rfl, by (repeat' first | exact trivial | exact Nat.le_of_ble_eq_true rfl | apply And.intro), ?_⟩
  exact rfl
def msWr (i : Int) (b : List UInt8) : List (Nat × Blk) := [(900000, ⟨0, .box (.es [eI i]), 0⟩), (900001, ⟨0, .box (.es (eSec b)), 0⟩)]
theorem bxLen {b : List UInt8} (h : b.length = 32) : (Cs.es (eSec b)).len = 32 := eSec_len h
theorem okIn_Wr (i : Int) {b : List UInt8} (h : b.length = 32) : okIn (msWr i b) = true := by
  have h1 : Nat.blt 0 ((Cs.es (eSec b)).len) = true := by rw [bxLen h]; rfl
  show (true && (Nat.blt 0 ((Cs.es (eSec b)).len) && true)) = true
  rw [h1]
  rfl
set_option maxRecDepth 10000 in
set_option maxHeartbeats 2000000 in
theorem wr1_fn (d : Dsk) (h : d.ok) (i : Int) (b : List UInt8) (hb : b.length = 32) : FnH Try.prog 49 [] (msWr i b) [.agg (.es (eDsk d)), .one (.ptr 900000 0 0), .one (.ptr 900001 0 0)] (rDk (wrF d i b)) (msWr i b) := by
  refine fn_introH (T := tab) tOk Try.func49 rfl (by kernel_rfl) (by simp [Try.ntmps49]) (okIn_Wr i hb) rfl ?_
  intro X hX
  have hnt : X.nt = 12 := hX
  clear hX
  have h1 := write_fn d i b h hb
  generalize wrF d i b = q at *
  obtain ⟨d2, e⟩ := q
  have hsl := eSec_len hb
  have hf32 : 0 + 32 ≤ (Cs.es (eSec b)).len := by show _ ≤ (eSec b).length; omega
  have ht32 := take_all hsl
  have hts : List.take 32 (List.drop 0 (eSec b)) = eSec b := List.take_of_length_le (Nat.le_of_eq hsl)
  rw [← hts] at h1
  repeat' (first | refine tr_seq ?_ | refine reg (T := tab) tOk hnt rfl ?_ ?_ | refine regD (T := tab) tOk mixedR hnt rfl (by first | decide +kernel | kernel_rfl) ?_ ?_ | refine tr_block ?_ | refine tr_skip ?_)
  · (dsimp only [AllP]; (repeat' first | exact trivial | assumption | exact Nat.le_of_ble_eq_true rfl | apply And.intro | decide | intro _ | exact rfl))
  repeat' (first | refine tr_seq ?_ | refine tr_block ?_ | refine tr_skip ?_)
  refine tr_region (lex (T := tab) tOk hnt rfl ?_ (call rfl rfl rfl rfl rfl rfl rfl hnt (h1) (lex (T := tab) tOk hnt rfl ?_ (Lex.nil _)))) ?_
  · (dsimp only [AllP]; (repeat' first | exact trivial | assumption | exact Nat.le_of_ble_eq_true rfl | apply And.intro | exact eCells_len1 _ _ ‹_› | exact eCells_isByte _ _ ‹_› | (intro hh_; have hg_ := hh_; (try simp only [condT_ff, condF_tt, notE_t, notE_f, Bool.and_eq_true, ne_eq, decide_eq_true_eq, decide_eq_false_iff_not] at hg_)) | intro _ | exact rfl | omega))
    all_goals trace_state
  · (dsimp only [AllP]; (repeat' first | exact trivial | assumption | exact Nat.le_of_ble_eq_true rfl | apply And.intro | exact eCells_len1 _ _ ‹_› | exact eCells_isByte _ _ ‹_› | (intro hh_; have hg_ := hh_; (try simp only [condT_ff, condF_tt, notE_t, notE_f, Bool.and_eq_true, ne_eq, decide_eq_true_eq, decide_eq_false_iff_not] at hg_)) | intro _ | exact rfl | omega))
    all_goals trace_state
  repeat' (first | refine tr_seq ?_ | refine tr_block ?_ | refine tr_skip ?_)
  exact tr_ret ⟨.inr rfl, _, _, _, rfl, by (repeat' first | exact trivial | exact Nat.le_of_ble_eq_true rfl | apply And.intro), rfl, fun X => le_of (ad := []) ⟨⟨⟨rfl, rfl⟩, ⟨rfl, rfl⟩, trivial⟩, ⟨rfl, rfl, rfl, rfl, rfl⟩, ⟨rfl, rfl, rfl, rfl, rfl⟩, trivial⟩ (memOk_box rfl rfl rfl (memOk_box rfl rfl rfl trivial))⟩
def eDo (d : Dsk) (n : Int) : List E := eDsk d ++ [eI n]
def dosF (g : Dsk × Int) (d : Dsk) (n : Int) : Bool × Dsk × Int := if n = 0 then (false, d, n) else if g.2 = 0 then (true, g.1, IntKind.i64.wrap (n - 1)) else (false, d, IntKind.i64.wrap (n - 1))
def msD (d : Dsk) (n : Int) : List (Nat × Blk) := [(900000, ⟨0, .box (.es (eDo d n)), 0⟩)]
set_option maxRecDepth 10000 in
set_option maxHeartbeats 2000000 in
theorem doSync_fn (d : Dsk) (n : Int) (h : d.ok) : FnH Try.prog 36 [] (msD d n) [.one (.ptr 900000 0 0), .one (.clo 37 [])] (.v (.bool (dosF (syF d) d n).1)) (msD (dosF (syF d) d n).2.1 (dosF (syF d) d n).2.2) := by
  refine fn_introH (T := tab) tOk Try.func36 rfl (by kernel_rfl) (by simp [Try.ntmps36]) rfl rfl ?_
  intro X hX
  have hnt : X.nt = 36 := hX
  clear hX
  have h1 := Sync_fn d h
  unfold dosF
  generalize syF d = g at *
  obtain ⟨d2, e⟩ := g
  dsimp only
  repeat' (first | refine tr_seq ?_ | refine tr_block ?_ | refine tr_skip ?_)
  first | refine reg (T := tab) tOk hnt rfl ?_ ?_ | refine regD (T := tab) tOk mixedR hnt rfl (by first | decide +kernel | kernel_rfl) ?_ ?_
  · (dsimp only [AllP]; (repeat' first | exact trivial | assumption | exact Nat.le_of_ble_eq_true rfl | apply And.intro | exact eCells_len1 _ _ ‹_› | exact eCells_isByte _ _ ‹_› | (intro hh_; have hg_ := hh_; (try simp only [condT_ff, condF_tt, notE_t, notE_f, Bool.and_eq_true, ne_eq, decide_eq_true_eq, decide_eq_false_iff_not] at hg_)) | intro _ | exact rfl | omega))
  repeat' (first | refine tr_seq ?_ | refine tr_block ?_ | refine tr_skip ?_)
  first | refine reg (T := tab) tOk hnt rfl ?_ ?_ | refine regD (T := tab) tOk mixedR hnt rfl (by first | decide +kernel | kernel_rfl) ?_ ?_
  · (dsimp only [AllP]; (repeat' first | exact trivial | assumption | exact Nat.le_of_ble_eq_true rfl | apply And.intro | exact eCells_len1 _ _ ‹_› | exact eCells_isByte _ _ ‹_› | (intro hh_; have hg_ := hh_; (try simp only [condT_ff, condF_tt, notE_t, notE_f, Bool.and_eq_true, ne_eq, decide_eq_true_eq, decide_eq_false_iff_not] at hg_)) | intro _ | exact rfl | omega))
    all_goals trace_state
  have hgt : ((eDo d n).getD (0 + 2) E.dflt).int = n := rfl
  repeat' (first | refine tr_seq ?_ | refine tr_block ?_ | refine tr_skip ?_)
  refine tr_cond rfl (fun hc => ?_) (fun hc => ?_)
  · have hc : n = 0 := of_decide_eq_true hc
    rw [if_pos hc]
    repeat' (first | refine tr_seq ?_ | refine reg (T := tab) tOk hnt rfl ?_ ?_ | refine regD (T := tab) tOk mixedR hnt rfl (by first | decide +kernel | kernel_rfl) ?_ ?_ | refine tr_block ?_ | refine tr_skip ?_)
    · (dsimp only [AllP]; (repeat' first | exact trivial | assumption | exact Nat.le_of_ble_eq_true rfl | apply And.intro | decide | intro _ | exact rfl))
    exact tr_ret ⟨.inr rfl, _, _, _, rfl, by (repeat' first | exact trivial | exact Nat.le_of_ble_eq_true rfl | apply And.intro), rfl, fun X => le_of (ad := []) ⟨rfl, ⟨rfl, rfl, rfl, rfl, rfl⟩, trivial⟩ (memOk_box rfl rfl rfl trivial)⟩
  have hc : ¬ n = 0 := of_decide_eq_false hc
  rw [if_neg hc]
  repeat' (first | refine tr_seq ?_ | refine tr_block ?_ | refine tr_skip ?_)
  first | refine reg (T := tab) tOk hnt rfl ?_ ?_ | refine regD (T := tab) tOk mixedR hnt rfl (by first | decide +kernel | kernel_rfl) ?_ ?_
  · (dsimp only [AllP]; (repeat' first | exact trivial | assumption | exact Nat.le_of_ble_eq_true rfl | apply And.intro | exact eCells_len1 _ _ ‹_› | exact eCells_isByte _ _ ‹_› | (intro hh_; have hg_ := hh_; (try simp only [condT_ff, condF_tt, notE_t, notE_f, Bool.and_eq_true, ne_eq, decide_eq_true_eq, decide_eq_false_iff_not] at hg_)) | intro _ | exact rfl | omega))
    all_goals trace_state
  repeat' (first | refine tr_seq ?_ | refine tr_block ?_ | refine tr_skip ?_)
  refine tr_region (lex (T := tab) tOk hnt rfl ?_ (call rfl rfl rfl rfl rfl rfl rfl hnt (h1) (lex (T := tab) tOk hnt rfl ?_ (Lex.nil _)))) ?_
  · (dsimp only [AllP]; (repeat' first | exact trivial | assumption | exact Nat.le_of_ble_eq_true rfl | apply And.intro | exact eCells_len1 _ _ ‹_› | exact eCells_isByte _ _ ‹_› | (intro hh_; have hg_ := hh_; (try simp only [condT_ff, condF_tt, notE_t, notE_f, Bool.and_eq_true, ne_eq, decide_eq_true_eq, decide_eq_false_iff_not] at hg_)) | intro _ | exact rfl | omega))
    all_goals trace_state
  · (dsimp only [AllP]; (repeat' first | exact trivial | assumption | exact Nat.le_of_ble_eq_true rfl | apply And.intro | exact eCells_len1 _ _ ‹_› | exact eCells_isByte _ _ ‹_› | (intro hh_; have hg_ := hh_; (try simp only [condT_ff, condF_tt, notE_t, notE_f, Bool.and_eq_true, ne_eq, decide_eq_true_eq, decide_eq_false_iff_not] at hg_)) | intro _ | exact rfl | omega))
    all_goals trace_state
  repeat' (first | refine tr_seq ?_ | refine reg (T := tab) tOk hnt rfl ?_ ?_ | refine regD (T := tab) tOk mixedR hnt rfl (by first | decide +kernel | kernel_rfl) ?_ ?_ | refine tr_block ?_ | refine tr_skip ?_)
  · (dsimp only [AllP]; (repeat' first | exact trivial | assumption | exact Nat.le_of_ble_eq_true rfl | apply And.intro | decide | intro _ | exact rfl))
  repeat' (first | refine tr_seq ?_ | refine tr_block ?_ | refine tr_skip ?_)
  refine tr_cond rfl (fun hc => ?_) (fun hc => ?_)
  · have hc : e = 0 := of_decide_eq_true hc
    subst hc
    rw [if_pos rfl]
    repeat' (first | refine tr_seq ?_ | refine tr_block ?_ | refine tr_skip ?_)
    first | refine reg (T := tab) tOk hnt rfl ?_ ?_ | refine regD (T := tab) tOk mixedR hnt rfl (by first | decide +kernel | kernel_rfl) ?_ ?_
    · (dsimp only [AllP]; (repeat' first | exact trivial | assumption | exact Nat.le_of_ble_eq_true rfl | apply And.intro | exact eCells_len1 _ _ ‹_› | exact eCells_isByte _ _ ‹_› | (intro hh_; have hg_ := hh_; (try simp only [condT_ff, condF_tt, notE_t, notE_f, Bool.and_eq_true, ne_eq, decide_eq_true_eq, decide_eq_false_iff_not] at hg_)) | intro _ | exact rfl | omega))
      all_goals trace_state
    repeat' (first | refine tr_seq ?_ | refine reg (T := tab) tOk hnt rfl ?_ ?_ | refine regD (T := tab) tOk mixedR hnt rfl (by first | decide +kernel | kernel_rfl) ?_ ?_ | refine tr_block ?_ | refine tr_skip ?_)
    · (dsimp only [AllP]; (repeat' first | exact trivial | assumption | exact Nat.le_of_ble_eq_true rfl | apply And.intro | decide | intro _ | exact rfl))
    exact tr_ret ⟨.inr rfl, _, _, _, rfl, by (repeat' first | exact trivial | exact Nat.le_of_ble_eq_true rfl | apply And.intro), rfl, fun X => le_of (ad := []) ⟨rfl, ⟨rfl, rfl, rfl, rfl, rfl⟩, trivial⟩ (memOk_box rfl rfl rfl trivial)⟩
  have hc : ¬ e = 0 := of_decide_eq_false hc
  rw [if_neg hc]
  repeat' (first | refine tr_seq ?_ | refine reg (T := tab) tOk hnt rfl ?_ ?_ | refine regD (T := tab) tOk mixedR hnt rfl (by first | decide +kernel | kernel_rfl) ?_ ?_ | refine tr_block ?_ | refine tr_skip ?_)
  · (dsimp only [AllP]; (repeat' first | exact trivial | assumption | exact Nat.le_of_ble_eq_true rfl | apply And.intro | decide | intro _ | exact rfl))
  rw [decide_eq_false hc]
  exact tr_ret ⟨.inr rfl, _, _, _, rfl, by (repeat' first | exact trivial | exact Nat.le_of_ble_eq_true rfl | apply And.intro), rfl, fun X => le_of (ad := []) ⟨rfl, ⟨rfl, rfl, rfl, rfl, rfl⟩, trivial⟩ (memOk_box rfl rfl rfl trivial)⟩
end Go.Proofs.Ytphaholcndhonaa
namespace Go.Proofs.Ytphaholcndhonaa
open Go Go.RowKit Go.Proofs.Ytphaholcndhonaa.Ab
set_option linter.unusedSimpArgs false
set_option linter.unusedVariables false

def msDW (d : Dsk) (n : Int) (i : Int) (b : List UInt8) : List (Nat × Blk) := [(900000, ⟨0, .box (.es (eDo d n)), 0⟩), (900001, ⟨0, .box (.es [eI i]), 0⟩), (900002, ⟨0, .box (.es (eSec b)), 0⟩)]
theorem okIn_DW (d : Dsk) (n i : Int) {b : List UInt8} (h : b.length = 32) : okIn (msDW d n i b) = true := by
  have h1 : Nat.blt 0 ((Cs.es (eSec b)).len) = true := by rw [bxLen h]; rfl
  show (true && (true && (Nat.blt 0 ((Cs.es (eSec b)).len) && true))) = true
  rw [h1]
  rfl
set_option maxRecDepth 10000 in
set_option maxHeartbeats 2000000 in
theorem doWrite_fn (d : Dsk) (n : Int) (h : d.ok) (i : Int) (b : List UInt8) (hb : b.length = 32) : FnH Try.prog 36 [] (msDW d n i b) [.one (.ptr 900000 0 0), .one (.clo 49 [(900001, 0, 0), (900002, 0, 0)])] (.v (.bool (dosF (wrF d i b) d n).1)) (msDW (dosF (wrF d i b) d n).2.1 (dosF (wrF d i b) d n).2.2 i b) := by
  refine fn_introH (T := tab) tOk Try.func36 rfl (by kernel_rfl) (by simp [Try.ntmps36]) (okIn_DW d n i hb) rfl ?_
  intro X hX
  have hnt : X.nt = 36 := hX
  clear hX
  have h1 := wr1_fn d h i b hb
  unfold dosF
  generalize wrF d i b = g at *
  obtain ⟨d2, e⟩ := g
  dsimp only
  repeat' (first | refine tr_seq ?_ | refine tr_block ?_ | refine tr_skip ?_)
  first | refine reg (T := tab) tOk hnt rfl ?_ ?_ | refine regD (T := tab) tOk mixedR hnt rfl (by first | decide +kernel | kernel_rfl) ?_ ?_
  · (dsimp only [AllP]; (repeat' first | exact trivial | assumption | exact Nat.le_of_ble_eq_true rfl | apply And.intro | exact eCells_len1 _ _ ‹_› | exact eCells_isByte _ _ ‹_› | (intro hh_; have hg_ := hh_; (try simp only [condT_ff, condF_tt, notE_t, notE_f, Bool.and_eq_true, ne_eq, decide_eq_true_eq, decide_eq_false_iff_not] at hg_)) | intro _ | exact rfl | omega))
  repeat' (first | refine tr_seq ?_ | refine tr_block ?_ | refine tr_skip ?_)
  first | refine reg (T := tab) tOk hnt rfl ?_ ?_ | refine regD (T := tab) tOk mixedR hnt rfl (by first | decide +kernel | kernel_rfl) ?_ ?_
  · (dsimp only [AllP]; (repeat' first | exact trivial | assumption | exact Nat.le_of_ble_eq_true rfl | apply And.intro | exact eCells_len1 _ _ ‹_› | exact eCells_isByte _ _ ‹_› | (intro hh_; have hg_ := hh_; (try simp only [condT_ff, condF_tt, notE_t, notE_f, Bool.and_eq_true, ne_eq, decide_eq_true_eq, decide_eq_false_iff_not] at hg_)) | intro _ | exact rfl | omega))
    all_goals trace_state
  repeat' (first | refine tr_seq ?_ | refine tr_block ?_ | refine tr_skip ?_)
  refine tr_cond rfl (fun hc => ?_) (fun hc => ?_)
  · have hc : n = 0 := of_decide_eq_true hc
    rw [if_pos hc]
    repeat' (first | refine tr_seq ?_ | refine reg (T := tab) tOk hnt rfl ?_ ?_ | refine regD (T := tab) tOk mixedR hnt rfl (by first | decide +kernel | kernel_rfl) ?_ ?_ | refine tr_block ?_ | refine tr_skip ?_)
    · (dsimp only [AllP]; (repeat' first | exact trivial | assumption | exact Nat.le_of_ble_eq_true rfl | apply And.intro | decide | intro _ | exact rfl))
    exact tr_ret ⟨.inr rfl, _, _, _, rfl, by (repeat' first | exact trivial | exact Nat.le_of_ble_eq_true rfl | apply And.intro), rfl, fun X => le_of (ad := []) ⟨rfl, ⟨rfl, rfl, rfl, rfl, rfl⟩, ⟨rfl, rfl, rfl, rfl, rfl⟩, ⟨rfl, rfl, rfl, rfl, rfl⟩, trivial⟩ (memOk_box rfl rfl rfl (memOk_box rfl rfl rfl (memOk_box rfl rfl rfl trivial)))⟩
  have hc : ¬ n = 0 := of_decide_eq_false hc
  rw [if_neg hc]
  repeat' (first | refine tr_seq ?_ | refine tr_block ?_ | refine tr_skip ?_)
  first | refine reg (T := tab) tOk hnt rfl ?_ ?_ | refine regD (T := tab) tOk mixedR hnt rfl (by first | decide +kernel | kernel_rfl) ?_ ?_
  · (dsimp only [AllP]; (repeat' first | exact trivial | assumption | exact Nat.le_of_ble_eq_true rfl | apply And.intro | exact eCells_len1 _ _ ‹_› | exact eCells_isByte _ _ ‹_› | (intro hh_; have hg_ := hh_; (try simp only [condT_ff, condF_tt, notE_t, notE_f, Bool.and_eq_true, ne_eq, decide_eq_true_eq, decide_eq_false_iff_not] at hg_)) | intro _ | exact rfl | omega))
    all_goals trace_state
  repeat' (first | refine tr_seq ?_ | refine tr_block ?_ | refine tr_skip ?_)
  refine tr_region (lex (T := tab) tOk hnt rfl ?_ (callH (us := []) [(900000, 900001), (900001, 900002)] [] [] rfl rfl rfl rfl (h1) (by repeat' first | exact .nil | refine .lent rfl rfl rfl ?_ | refine .data rfl ?_) (fun _ => rfl) rfl rfl hnt rfl rfl (by repeat' first | exact trivial | rfl | apply And.intro) (by repeat' first | exact trivial | rfl | apply And.intro) (lex (T := tab) tOk hnt rfl ?_ (Lex.nil _)))) ?_
  · (dsimp only [AllP]; (repeat' first | exact trivial | assumption | exact Nat.le_of_ble_eq_true rfl | apply And.intro | exact eCells_len1 _ _ ‹_› | exact eCells_isByte _ _ ‹_› | (intro hh_; have hg_ := hh_; (try simp only [condT_ff, condF_tt, notE_t, notE_f, Bool.and_eq_true, ne_eq, decide_eq_true_eq, decide_eq_false_iff_not] at hg_)) | intro _ | exact rfl | omega))
    all_goals trace_state
  · (dsimp only [AllP]; (repeat' first | exact trivial | assumption | exact Nat.le_of_ble_eq_true rfl | apply And.intro | exact eCells_len1 _ _ ‹_› | exact eCells_isByte _ _ ‹_› | (intro hh_; have hg_ := hh_; (try simp only [condT_ff, condF_tt, notE_t, notE_f, Bool.and_eq_true, ne_eq, decide_eq_true_eq, decide_eq_false_iff_not] at hg_)) | intro _ | exact rfl | omega))
    all_goals trace_state
  refine tr_le (s' := St.of [(5, .one (.ptr 5 0 0)), (6, .one (.e (eI e))), (0, .one (.ptr 900000 0 0)), (900000, .one (.ptr 900000 0 0)), (900001, .one (.ptr 900001 0 0)), (900002, .one (.ptr 900002 0 0))] [(900000, ⟨0, .box (.es (eDo d (IntKind.i64.wrap (n - 1)))), 0⟩), (900001, ⟨0, .box (.es [eI i]), 0⟩), (900002, ⟨0, .box (.es (eSec b)), 0⟩), (5, ⟨0, .box (.es (eDsk d2)), 0⟩)]) (le_of (ad := []) (by refine ⟨?_, ?_, ?_, ?_, ?_, ?_, trivial⟩ <;> first | exact trivial | rfl | exact ⟨rfl, rfl⟩ | exact ⟨rfl, rfl, rfl⟩ | exact ⟨rfl, rfl, rfl, rfl⟩ | exact ⟨rfl, rfl, rfl, rfl, rfl⟩ | exact congrArg (fun z : Int => E.v (.int .i64 z)) (wrap64_id (by omega) (by omega)) | exact congrArg (fun z : Int => E.v (.int .u8 z)) (by assumption) | exact congrArg (fun z : ByteArray => E.v (.string z)) (by assumption) | (refine ⟨rfl, ?_⟩; repeat' first | exact trivial | rfl | apply And.intro)) (memOk_box rfl rfl rfl (memOk_box rfl rfl rfl (memOk_box rfl rfl rfl (memOk_box rfl rfl rfl trivial))))) ?_
  repeat' (first | refine tr_seq ?_ | refine reg (T := tab) tOk hnt rfl ?_ ?_ | refine regD (T := tab) tOk mixedR hnt rfl (by first | decide +kernel | kernel_rfl) ?_ ?_ | refine tr_block ?_ | refine tr_skip ?_)
  · (dsimp only [AllP]; (repeat' first | exact trivial | assumption | exact Nat.le_of_ble_eq_true rfl | apply And.intro | decide | intro _ | exact rfl))
  repeat' (first | refine tr_seq ?_ | refine tr_block ?_ | refine tr_skip ?_)
  refine tr_cond rfl (fun hc => ?_) (fun hc => ?_)
  · have hc : e = 0 := of_decide_eq_true hc
    subst hc
    rw [if_pos rfl]
    repeat' (first | refine tr_seq ?_ | refine tr_block ?_ | refine tr_skip ?_)
    first | refine reg (T := tab) tOk hnt rfl ?_ ?_ | refine regD (T := tab) tOk mixedR hnt rfl (by first | decide +kernel | kernel_rfl) ?_ ?_
    · (dsimp only [AllP]; (repeat' first | exact trivial | assumption | exact Nat.le_of_ble_eq_true rfl | apply And.intro | exact eCells_len1 _ _ ‹_› | exact eCells_isByte _ _ ‹_› | (intro hh_; have hg_ := hh_; (try simp only [condT_ff, condF_tt, notE_t, notE_f, Bool.and_eq_true, ne_eq, decide_eq_true_eq, decide_eq_false_iff_not] at hg_)) | intro _ | exact rfl | omega))
      all_goals trace_state
    repeat' (first | refine tr_seq ?_ | refine reg (T := tab) tOk hnt rfl ?_ ?_ | refine regD (T := tab) tOk mixedR hnt rfl (by first | decide +kernel | kernel_rfl) ?_ ?_ | refine tr_block ?_ | refine tr_skip ?_)
    · (dsimp only [AllP]; (repeat' first | exact trivial | assumption | exact Nat.le_of_ble_eq_true rfl | apply And.intro | decide | intro _ | exact rfl))
    exact tr_ret ⟨.inr rfl, _, _, _, rfl, by (repeat' first | exact trivial | exact Nat.le_of_ble_eq_true rfl | apply And.intro), rfl, fun X => le_of (ad := []) ⟨rfl, ⟨rfl, rfl, rfl, rfl, rfl⟩, ⟨rfl, rfl, rfl, rfl, rfl⟩, ⟨rfl, rfl, rfl, rfl, rfl⟩, trivial⟩ (memOk_box rfl rfl rfl (memOk_box rfl rfl rfl (memOk_box rfl rfl rfl trivial)))⟩
  have hc : ¬ e = 0 := of_decide_eq_false hc
  rw [if_neg hc]
  repeat' (first | refine tr_seq ?_ | refine reg (T := tab) tOk hnt rfl ?_ ?_ | refine regD (T := tab) tOk mixedR hnt rfl (by first | decide +kernel | kernel_rfl) ?_ ?_ | refine tr_block ?_ | refine tr_skip ?_)
  · (dsimp only [AllP]; (repeat' first | exact trivial | assumption | exact Nat.le_of_ble_eq_true rfl | apply And.intro | decide | intro _ | exact rfl))
  rw [decide_eq_false hc]
  exact tr_ret ⟨.inr rfl, _, _, _, rfl, by (repeat' first | exact trivial | exact Nat.le_of_ble_eq_true rfl | apply And.intro), rfl, fun X => le_of (ad := []) ⟨rfl, ⟨rfl, rfl, rfl, rfl, rfl⟩, ⟨rfl, rfl, rfl, rfl, rfl⟩, ⟨rfl, rfl, rfl, rfl, rfl⟩, trivial⟩ (memOk_box rfl rfl rfl (memOk_box rfl rfl rfl (memOk_box rfl rfl rfl trivial)))⟩
def padF (b : List UInt8) : List UInt8 := b ++ List.replicate (32 - b.length) 0
theorem padF_len {b : List UInt8} (h : b.length ≤ 32) : (padF b).length = 32 := by
  unfold padF
  rw [List.length_append, List.length_replicate]
  omega
theorem flatC : ∀ b : List UInt8, (eCells b).flatten = eSec b
  | [] => rfl
  | x :: b => by
    show eB x :: (eCells b).flatten = eB x :: eSec b
    rw [flatC b]
theorem cp_pad {b : List UInt8} (h : b.length ≤ 32) (Z : List E) (hZ : Z = List.replicate 32 (eB 0)) : List.take (0 + 0 * 1) Z ++ (List.take (min 32 (eCells b).length) (eCells b)).flatten ++ List.drop (0 + 0 * 1 + min 32 (eCells b).length * 1) Z = eSec (padF b) := by
  have hl : (eCells b).length = b.length := eCells_length b
  rw [Nat.min_eq_right (by omega), List.take_length, flatC, hZ, hl]
  unfold padF eSec
  rw [List.map_append, List.map_replicate, List.drop_replicate]
  simp
set_option maxRecDepth 10000 in
set_option maxHeartbeats 2000000 in
theorem doW_fn (d : Dsk) (n : Int) (h : d.ok) (i : Int) (b : List UInt8) (hb : b.length ≤ 32) : FnH Try.prog 35 [] (msD d n) [.one (.ptr 900000 0 0), .one (.e (eI i)), .one (.e (eBytes b))] (.v (.bool (dosF (wrF d i (padF b)) d n).1)) (msD (dosF (wrF d i (padF b)) d n).2.1 (dosF (wrF d i (padF b)) d n).2.2) := by
  refine fn_introH (T := tab) tOk Try.func35 rfl (by kernel_rfl) (by simp [Try.ntmps35]) rfl rfl ?_
  intro X hX
  have hnt : X.nt = 14 := hX
  clear hX
  have h1 := doWrite_fn d n h i (padF b) (padF_len hb)
  have hbl : (eCells b).length = b.length := eCells_length b
  repeat' (first | refine tr_seq ?_ | refine tr_block ?_ | refine tr_skip ?_)
  first | refine reg (T := tab) tOk hnt rfl ?_ ?_ | refine regD (T := tab) tOk mixedR hnt rfl (by first | decide +kernel | kernel_rfl) ?_ ?_
  · (dsimp only [AllP]; (repeat' first | exact trivial | assumption | exact Nat.le_of_ble_eq_true rfl | apply And.intro | exact eCells_len1 _ _ ‹_› | exact eCells_isByte _ _ ‹_› | (intro hh_; have hg_ := hh_; (try simp only [condT_ff, condF_tt, notE_t, notE_f, Bool.and_eq_true, ne_eq, decide_eq_true_eq, decide_eq_false_iff_not] at hg_)) | intro _ | exact rfl | omega))
  repeat' (first | refine tr_seq ?_ | refine tr_block ?_ | refine tr_skip ?_)
  first | refine reg (T := tab) tOk hnt rfl ?_ ?_ | refine regD (T := tab) tOk mixedR hnt rfl (by first | decide +kernel | kernel_rfl) ?_ ?_
  · (dsimp only [AllP]; (repeat' first | exact trivial | assumption | exact Nat.le_of_ble_eq_true rfl | apply And.intro | exact eCells_len1 _ _ ‹_› | exact eCells_isByte _ _ ‹_› | (intro hh_; have hg_ := hh_; (try simp only [condT_ff, condF_tt, notE_t, notE_f, Bool.and_eq_true, ne_eq, decide_eq_true_eq, decide_eq_false_iff_not] at hg_)) | intro _ | exact rfl | omega))
    all_goals trace_state
  repeat' (first | refine tr_seq ?_ | refine tr_block ?_ | refine tr_skip ?_)
  first | refine reg (T := tab) tOk hnt rfl ?_ ?_ | refine regD (T := tab) tOk mixedR hnt rfl (by first | decide +kernel | kernel_rfl) ?_ ?_
  · (dsimp only [AllP]; (repeat' first | exact trivial | assumption | exact Nat.le_of_ble_eq_true rfl | apply And.intro | exact eCells_len1 _ _ ‹_› | exact eCells_isByte _ _ ‹_› | (intro hh_; have hg_ := hh_; (try simp only [condT_ff, condF_tt, notE_t, notE_f, Bool.and_eq_true, ne_eq, decide_eq_true_eq, decide_eq_false_iff_not] at hg_)) | intro _ | exact rfl | omega))
    all_goals trace_state
  refine tr_le (s' := St.of [(0, .one (.ptr 900000 0 0)), (4, .one (.ptr 4 0 0)), (7, .one (.ptr 7 0 0)), (900000, .one (.ptr 900000 0 0))] [(900000, ⟨0, .box (.es (eDo d n)), 0⟩), (4, ⟨0, .box (.es [eI i]), 0⟩), (7, ⟨0, .box (.es (eSec (padF b))), 0⟩)]) (le_of (ad := []) (by refine ⟨?_, ?_, ?_, ?_, trivial⟩ <;> first | exact trivial | rfl | exact ⟨rfl, rfl⟩ | exact ⟨rfl, rfl, rfl⟩ | exact ⟨rfl, rfl, rfl, rfl⟩ | exact ⟨rfl, rfl, rfl, rfl, rfl⟩ | exact congrArg (fun z : Int => E.v (.int .i64 z)) (wrap64_id (by omega) (by omega)) | exact congrArg (fun z : Int => E.v (.int .u8 z)) (by assumption) | exact congrArg (fun z : ByteArray => E.v (.string z)) (by assumption) | (refine ⟨rfl, ?_⟩; repeat' first | exact trivial | rfl | apply And.intro)) (memOk_box rfl rfl rfl (memOk_box rfl rfl rfl (memOk_box rfl rfl (cp_pad hb _ rfl) trivial)))) ?_
  generalize dosF (wrF d i (padF b)) d n = q at *
  obtain ⟨ok, d2, n2⟩ := q
  dsimp only at h1 ⊢
  repeat' (first | refine tr_seq ?_ | refine tr_block ?_ | refine tr_skip ?_)
  refine tr_region (lex (T := tab) tOk hnt rfl ?_ (callH (us := []) [(900000, 900000), (900001, 4), (900002, 7)] [] [] rfl rfl rfl rfl (h1) (by repeat' first | exact .nil | refine .lent rfl rfl rfl ?_ | refine .data rfl ?_) (fun _ => rfl) rfl rfl hnt rfl rfl (by repeat' first | exact trivial | rfl | apply And.intro) (by repeat' first | exact trivial | rfl | apply And.intro) (lex (T := tab) tOk hnt rfl ?_ (Lex.nil _)))) ?_
  · (dsimp only [AllP]; (repeat' first | exact trivial | assumption | exact Nat.le_of_ble_eq_true rfl | apply And.intro | exact eCells_len1 _ _ ‹_› | exact eCells_isByte _ _ ‹_› | (intro hh_; have hg_ := hh_; (try simp only [condT_ff, condF_tt, notE_t, notE_f, Bool.and_eq_true, ne_eq, decide_eq_true_eq, decide_eq_false_iff_not] at hg_)) | intro _ | exact rfl | omega))
    all_goals trace_state
  · (dsimp only [AllP]; (repeat' first | exact trivial | assumption | exact Nat.le_of_ble_eq_true rfl | apply And.intro | exact eCells_len1 _ _ ‹_› | exact eCells_isByte _ _ ‹_› | (intro hh_; have hg_ := hh_; (try simp only [condT_ff, condF_tt, notE_t, notE_f, Bool.and_eq_true, ne_eq, decide_eq_true_eq, decide_eq_false_iff_not] at hg_)) | intro _ | exact rfl | omega))
    all_goals trace_state
  exact tr_ret ⟨.inr rfl, _, _, _, rfl, by (repeat' first | exact trivial | exact Nat.le_of_ble_eq_true rfl | apply And.intro), rfl, fun X => le_of (ad := []) ⟨rfl, ⟨rfl, rfl, rfl, rfl, rfl⟩, trivial⟩ (memOk_box rfl rfl rfl trivial)⟩
end Go.Proofs.Ytphaholcndhonaa
namespace Go.Proofs.Ytphaholcndhonaa
open Go Go.RowKit Go.Proofs.Ytphaholcndhonaa.Ab
set_option linter.unusedSimpArgs false
set_option linter.unusedVariables false

theorem byShr (n k bits : Nat) (h : k ≤ bits) : IntKind.u8.wrap (Int.fdiv (n : Int) (2 ^ min k bits)) = ((UInt8.ofNat (n / 2 ^ k)).toNat : Int) := by
  rw [Nat.min_eq_left h, show (2 : Int) ^ k = ((2 ^ k : Nat) : Int) by norm_cast, Int.fdiv_eq_ediv_of_nonneg _ (Int.natCast_nonneg _), ← Int.natCast_ediv]
  exact wrapB8 _
set_option maxRecDepth 10000 in
set_option maxHeartbeats 2000000 in
theorem framed_fn (r : List UInt8) (h : r.length ≤ 310) : FnD Try.prog 34 [.one (.e (eBytes r))] (.one (.e (eBytes (rcT r)))) := by
  refine fn_intro (T := tab) tOk Try.func34 rfl (by kernel_rfl) (by simp [Try.ntmps34]) ?_
  intro X hX
  have hnt : X.nt = 27 := hX
  clear hX
  have h1 := crc_fn r
  have hl : (eCells r).length = r.length := eCells_length r
  have b1 := byShr r.length 8 IntKind.i64.bits (by decide)
  have b2 : IntKind.u8.wrap (r.length : Int) = ((UInt8.ofNat (r.length / 256 ^ 0)).toNat : Int) := by rw [Nat.pow_zero, Nat.div_one]; exact wrapB8 _
  have b3 := byShr (crF r).toNat 24 IntKind.u32.bits (by decide)
  have b4 := byShr (crF r).toNat 16 IntKind.u32.bits (by decide)
  have b5 := byShr (crF r).toNat 8 IntKind.u32.bits (by decide)
  have b6 : IntKind.u8.wrap ((crF r).toNat : Int) = ((UInt8.ofNat ((crF r).toNat / 256 ^ 0)).toNat : Int) := by rw [Nat.pow_zero, Nat.div_one]; exact wrapB8 _
  have hlr : (eCells r).length ≤ 310 := by omega
  have m1 : 6 + (eCells r).length ≤ maxLen := by unfold maxLen; omega
  have m2 : (6 + (eCells r).length) * 1 ≤ 140737488355328 := by omega
  repeat' (first | refine tr_seq ?_ | refine reg (T := tab) tOk hnt rfl ?_ ?_ | refine regD (T := tab) tOk mixedR hnt rfl (by first | decide +kernel | kernel_rfl) ?_ ?_ | refine tr_block ?_ | refine tr_skip ?_)
  · (dsimp only [AllP]; (repeat' first | exact trivial | assumption | exact Nat.le_of_ble_eq_true rfl | apply And.intro | decide | intro _ | exact rfl))
  repeat' (first | refine tr_seq ?_ | refine tr_block ?_ | refine tr_skip ?_)
  refine tr_region (lex (T := tab) tOk hnt rfl ?_ (call rfl rfl rfl rfl rfl rfl rfl hnt (h1) (lex (T := tab) tOk hnt rfl ?_ (Lex.nil _)))) ?_
  · (dsimp only [AllP]; (repeat' first | exact trivial | assumption | exact Nat.le_of_ble_eq_true rfl | apply And.intro | exact eCells_len1 _ _ ‹_› | exact eCells_isByte _ _ ‹_› | (intro hh_; have hg_ := hh_; (try simp only [condT_ff, condF_tt, notE_t, notE_f, Bool.and_eq_true, ne_eq, decide_eq_true_eq, decide_eq_false_iff_not] at hg_)) | intro _ | exact rfl | omega))
    all_goals trace_state
  · (dsimp only [AllP]; (repeat' first | exact trivial | assumption | exact Nat.le_of_ble_eq_true rfl | apply And.intro | exact eCells_len1 _ _ ‹_› | exact eCells_isByte _ _ ‹_› | (intro hh_; have hg_ := hh_; (try simp only [condT_ff, condF_tt, notE_t, notE_f, Bool.and_eq_true, ne_eq, decide_eq_true_eq, decide_eq_false_iff_not] at hg_)) | intro _ | exact rfl | omega))
    all_goals trace_state
  repeat' (first | refine tr_seq ?_ | refine tr_block ?_ | refine tr_skip ?_)
  first | refine reg (T := tab) tOk hnt rfl ?_ ?_ | refine regD (T := tab) tOk mixedR hnt rfl (by first | decide +kernel | kernel_rfl) ?_ ?_
  · (dsimp only [AllP]; (repeat' first | exact trivial | assumption | exact Nat.le_of_ble_eq_true rfl | apply And.intro | exact eCells_len1 _ _ ‹_› | exact eCells_isByte _ _ ‹_› | (intro hh_; have hg_ := hh_; (try simp only [condT_ff, condF_tt, notE_t, notE_f, Bool.and_eq_true, ne_eq, decide_eq_true_eq, decide_eq_false_iff_not] at hg_)) | intro _ | exact rfl | omega))
    all_goals first | exact m1 | exact m2 | trace_state
  repeat' (first | refine tr_seq ?_ | refine tr_block ?_ | refine tr_skip ?_)
  refine tr_ret ⟨.inr rfl, _, _, rfl, by trivial, ?_⟩
  show D.one (.e (.sl ([[E.v (.int .u8 (IntKind.u8.wrap (Int.fdiv ((eCells r).length : Int) (2 ^ min 8 IntKind.i64.bits))))], [E.v (.int .u8 (IntKind.u8.wrap ((eCells r).length : Int)))], [E.v (.int .u8 (IntKind.u8.wrap (Int.fdiv ((crF r).toNat : Int) (2 ^ min 24 IntKind.u32.bits))))], [E.v (.int .u8 (IntKind.u8.wrap (Int.fdiv ((crF r).toNat : Int) (2 ^ min 16 IntKind.u32.bits))))], [E.v (.int .u8 (IntKind.u8.wrap (Int.fdiv ((crF r).toNat : Int) (2 ^ min 8 IntKind.u32.bits))))], [E.v (.int .u8 (IntKind.u8.wrap ((crF r).toNat : Int)))]] ++ eCells r))) = _
  rw [hl, b1, b2, b3, b4, b5, b6]
  rfl
end Go.Proofs.Ytphaholcndhonaa
namespace Go.Proofs.Ytphaholcndhonaa
open Go Go.RowKit Go.Proofs.Ytphaholcndhonaa.Ab
set_option linter.unusedSimpArgs false
set_option linter.unusedVariables false

def lf (a : Int) (j : Nat) : Int := IntKind.i64.wrap (a - (j : Int))
theorem lf_zero {a : Int} (h1 : -9223372036854775808 ≤ a) (h2 : a ≤ 9223372036854775807) {j : Nat} (hj : j ≤ 100) : lf a j = 0 ↔ a = (j : Int) := by
  unfold lf IntKind.wrap
  simp [IntKind.bits, IntKind.signed, Int.bmod]
  omega
theorem lf_succ (a : Int) (j : Nat) : IntKind.i64.wrap (lf a j - 1) = lf a (j + 1) := by
  unfold lf IntKind.wrap
  simp [IntKind.bits, IntKind.signed, Int.bmod]
  omega
theorem lf_start {a : Int} (h1 : -9223372036854775808 ≤ a) (h2 : a ≤ 9223372036854775807) : lf a 0 = a := by
  unfold lf
  rw [show a - ((0 : Nat) : Int) = a by omega]
  exact wrap64_id (by omega) (by omega)
def blkF (t : List UInt8) (i : Nat) : List UInt8 := padF ((t.drop (i * 32)).take 32)
theorem blk_len (t : List UInt8) (i : Nat) : (blkF t i).length = 32 := padF_len (by rw [List.length_take]; omega)
def ptS (t : List UInt8) (s0 j : Nat) : List Dput := (List.range j).map fun k => ⟨((s0 + k + 1 : Nat) : Int), blkF t (s0 + k)⟩
theorem ptS_len (t : List UInt8) (s0 j : Nat) : (ptS t s0 j).length = j := by unfold ptS; rw [List.length_map, List.length_range]
theorem ptS_succ (t : List UInt8) (s0 j : Nat) : ptS t s0 (j + 1) = ptS t s0 j ++ [⟨((s0 + j + 1 : Nat) : Int), blkF t (s0 + j)⟩] := by
  unfold ptS
  rw [List.range_succ, List.map_append]
  rfl
theorem ptS_mem {t : List UInt8} {s0 j : Nat} : ∀ p ∈ ptS t s0 j, p.b.length = 32 ∧ 0 ≤ p.k ∧ p.k < ((s0 + j + 1 : Nat) : Int) := fun p hp => by
  unfold ptS at hp
  obtain ⟨k, hk, rfl⟩ := List.mem_map.1 hp
  have := List.mem_range.1 hk
  refine ⟨blk_len .., ?_, ?_⟩
  · show (0 : Int) ≤ ((s0 + k + 1 : Nat) : Int); omega
  · show ((s0 + k + 1 : Nat) : Int) < ((s0 + j + 1 : Nat) : Int); omega
def hdB (n : Nat) : List UInt8 := padF (loF n 8)
theorem hdB_len (n : Nat) : (hdB n).length = 32 := padF_len (by rw [loF_len]; decide)
def trj (L : List (List UInt8)) (t : List UInt8) (s0 n j : Nat) : Dsk :=
  if j ≤ n then ⟨L, ptS t s0 j⟩ else if j = n + 1 then ⟨ptL L (ptS t s0 n), []⟩ else if j = n + 2 then ⟨ptL L (ptS t s0 n), [⟨0, hdB t.length⟩]⟩ else ⟨ptL (ptL L (ptS t s0 n)) [⟨0, hdB t.length⟩], []⟩
structure gdA (L : List (List UInt8)) (s0 n : Nat) : Prop where
  l : ∀ s ∈ L, s.length = 32
  l1 : 1 ≤ L.length
  l2 : L.length ≤ 400
  nn : n ≤ 20
  in_ : 0 < n → s0 + n + 1 ≤ L.length
theorem wF_zero {n : Nat} : ∀ {w : List Dput}, (∀ p ∈ w, 0 ≤ p.k ∧ p.k < (n : Int)) → wF n w = 0
  | [], _ => rfl
  | p :: w, h => by
    rw [wF, if_neg (by have := h p (List.mem_cons_self ..); omega)]
    exact wF_zero fun q hq => h q (List.mem_cons_of_mem _ hq)
theorem dk_zero {d : Dsk} (h1 : 1 ≤ d.l.length) (h2 : d.l.length ≤ 400) (h3 : d.w.length ≤ 60) (h4 : ∀ p ∈ d.w, 0 ≤ p.k ∧ p.k < (d.l.length : Int)) : dkF d = 0 := by
  unfold dkF
  rw [if_neg (by omega)]
  exact wF_zero h4
theorem trj_w {L : List (List UInt8)} {t : List UInt8} {s0 n : Nat} {j : Nat} (h : j ≤ n) : trj L t s0 n j = ⟨L, ptS t s0 j⟩ := if_pos h
theorem trj_1 {L : List (List UInt8)} {t : List UInt8} {s0 n : Nat} : trj L t s0 n (n + 1) = ⟨ptL L (ptS t s0 n), []⟩ := (if_neg (by omega)).trans (if_pos rfl)
theorem trj_2 {L : List (List UInt8)} {t : List UInt8} {s0 n : Nat} : trj L t s0 n (n + 2) = ⟨ptL L (ptS t s0 n), [⟨0, hdB t.length⟩]⟩ := (if_neg (by omega)).trans ((if_neg (by omega)).trans (if_pos rfl))
theorem trj_3 {L : List (List UInt8)} {t : List UInt8} {s0 n : Nat} : trj L t s0 n (n + 3) = ⟨ptL (ptL L (ptS t s0 n)) [⟨0, hdB t.length⟩], []⟩ := (if_neg (by omega)).trans ((if_neg (by omega)).trans (if_neg (by omega)))
theorem trj_ok {L : List (List UInt8)} (t : List UInt8) {s0 n : Nat} (g : gdA L s0 n) (j : Nat) : (trj L t s0 n j).ok ∧ (trj L t s0 n j).l.length = L.length ∧ (trj L t s0 n j).w.length ≤ 60 ∧ dkF (trj L t s0 n j) = 0 := by
  have hp := ptL_ok (ptS t s0 n) L g.l fun p hp => (ptS_mem p hp).1
  have hpl := ptL_len (ptS t s0 n) L
  have g1 := g.l1
  have g2 := g.l2
  have g3 := g.nn
  have g4 := g.in_
  unfold trj
  split
  · rename_i h
    have hl := ptS_len t s0 j
    refine ⟨⟨g.l, fun p hp => (ptS_mem p hp).1⟩, rfl, by dsimp only; omega, dk_zero g1 g2 (by dsimp only; omega) fun p hp => ?_⟩
    have h1 := (ptS_mem p hp).2
    have h0 : 0 < j := by
      cases j with
      | zero => exact nomatch hp
      | succ j => exact Nat.succ_pos _
    refine ⟨h1.1, ?_⟩
    show p.k < (L.length : Int)
    omega
  split
  · exact ⟨⟨hp, (fun p hp => nomatch hp)⟩, hpl, Nat.zero_le _, dk_zero (by dsimp only; omega) (by dsimp only; omega) (Nat.zero_le _) (fun p hp => nomatch hp)⟩
  split
  · refine ⟨⟨hp, fun p hp => ?_⟩, hpl, (by show 1 ≤ 60; decide), dk_zero (by dsimp only; omega) (by dsimp only; omega) (by show 1 ≤ 60; decide) fun p hp => ?_⟩
    · rw [List.mem_singleton.1 hp]; exact hdB_len _
    · rw [List.mem_singleton.1 hp]
      exact ⟨Int.le_refl _, by show (0 : Int) < ((ptL L (ptS t s0 n)).length : Int); omega⟩
  · have hp2 := ptL_ok [⟨0, hdB t.length⟩] _ hp fun p hp => by rw [List.mem_singleton.1 hp]; exact hdB_len _
    have hpl2 := ptL_len [⟨0, hdB t.length⟩] (ptL L (ptS t s0 n))
    exact ⟨⟨hp2, (fun p hp => nomatch hp)⟩, hpl2.trans hpl, Nat.zero_le _, dk_zero (by dsimp only; omega) (by dsimp only; omega) (Nat.zero_le _) (fun p hp => nomatch hp)⟩
theorem wr_fit {d : Dsk} {i : Int} {b : List UInt8} (h : dkF d = 0) (hi : 0 ≤ i ∧ i < (d.l.length : Int)) (hw : d.w.length ≠ 60) : wrF d i b = (⟨d.l, d.w ++ [⟨i, b⟩]⟩, 0) := by
  unfold wrF
  rw [scF_fit h (by omega), if_neg (not_not_intro rfl), if_neg hw]
theorem wr_trj {L : List (List UInt8)} (t : List UInt8) {s0 n : Nat} (g : gdA L s0 n) {j : Nat} (hj : j < n) : wrF (trj L t s0 n j) ((s0 + j + 1 : Nat) : Int) (blkF t (s0 + j)) = (trj L t s0 n (j + 1), 0) := by
  obtain ⟨_, h2, h3, h4⟩ := trj_ok t g j
  have g3 := g.nn
  have g4 := g.in_ (by omega)
  rw [trj_w (by omega)] at h2 h3 h4 ⊢
  rw [trj_w (by omega), wr_fit h4 (by show (0 : Int) ≤ _ ∧ _ < (L.length : Int); omega) (by show (ptS t s0 j).length ≠ 60; rw [ptS_len]; omega), ptS_succ]
theorem sy_trj {L : List (List UInt8)} (t : List UInt8) {s0 n : Nat} (g : gdA L s0 n) : syF (trj L t s0 n n) = (trj L t s0 n (n + 1), 0) := by
  obtain ⟨_, _, _, h4⟩ := trj_ok t g n
  rw [trj_w (Nat.le_refl _)] at h4 ⊢
  unfold syF
  rw [if_neg (not_not_intro h4), trj_1]
theorem wr2_trj {L : List (List UInt8)} (t : List UInt8) {s0 n : Nat} (g : gdA L s0 n) : wrF (trj L t s0 n (n + 1)) 0 (hdB t.length) = (trj L t s0 n (n + 2), 0) := by
  obtain ⟨_, h2, _, h4⟩ := trj_ok t g (n + 1)
  have g1 := g.l1
  rw [trj_1] at h2 h4 ⊢
  rw [wr_fit h4 ⟨Int.le_refl _, by dsimp only at h2 ⊢; omega⟩ (by show 0 ≠ 60; decide), trj_2]
  rfl
theorem sy2_trj {L : List (List UInt8)} (t : List UInt8) {s0 n : Nat} (g : gdA L s0 n) : syF (trj L t s0 n (n + 2)) = (trj L t s0 n (n + 3), 0) := by
  obtain ⟨_, _, _, h4⟩ := trj_ok t g (n + 2)
  rw [trj_2] at h4 ⊢
  unfold syF
  rw [if_neg (not_not_intro h4), trj_3]
/-- the disk, and whether all was done -/
def resT (L : List (List UInt8)) (t : List UInt8) (s0 n : Nat) (a : Int) : Dsk × Bool := if 0 ≤ a ∧ a < ((n + 3 : Nat) : Int) then (trj L t s0 n a.toNat, false) else (trj L t s0 n (n + 3), true)
theorem res_at {L : List (List UInt8)} {t : List UInt8} {s0 n j : Nat} (h : j < n + 3) : resT L t s0 n (j : Int) = (trj L t s0 n j, false) := by
  unfold resT
  rw [if_pos (by omega), Int.toNat_natCast]
theorem res_all {L : List (List UInt8)} {t : List UInt8} {s0 n : Nat} {a : Int} (h : ∀ k, k < n + 3 → a ≠ (k : Int)) : resT L t s0 n a = (trj L t s0 n (n + 3), true) := by
  unfold resT
  rw [if_neg fun h1 => h a.toNat (by omega) (by omega)]
theorem dos_no {g : Dsk × Int} {d : Dsk} {n : Int} (h : n = 0) : dosF g d n = (false, d, n) := if_pos h
theorem dos_go {d d2 : Dsk} {n : Int} (h : n ≠ 0) : dosF (d2, 0) d n = (true, d2, IntKind.i64.wrap (n - 1)) := (if_neg h).trans (if_pos rfl)
end Go.Proofs.Ytphaholcndhonaa
namespace Go.Proofs.Ytphaholcndhonaa
open Go Go.RowKit Go.Proofs.Ytphaholcndhonaa.Ab
set_option linter.unusedSimpArgs false
set_option linter.unusedVariables false

abbrev eBl (b : Bool) : E := .v (.bool b)
def rAp (x : (Dsk × Bool) × Int) : D := .tup [(true, .es (eDsk x.1.1)), (false, .es [eBl x.1.2]), (false, .es [eI x.2])]
def cnW (old t : List UInt8) : Nat := (t.length + 31) / 32 - old.length / 32
def apF (d : Dsk) (r : List UInt8) (a : Int) : (Dsk × Bool) × Int :=
  if (opR d).2 ≠ 0 then ((dk0, false), (opR d).2) else if r.length < 1 ∨ 310 < r.length then ((dk0, false), 1) else if 0 < d.w.length then ((dk0, false), 11) else
    if (d.l.length - 1) * 32 < ((gdF d).1 ++ rcT r).length then ((dk0, false), 9) else (resT d.l ((gdF d).1 ++ rcT r) ((gdF d).1.length / 32) (cnW (gdF d).1 ((gdF d).1 ++ rcT r)) a, 0)
theorem ap1 {d : Dsk} (r : List UInt8) (a : Int) (h : (opR d).2 ≠ 0) : apF d r a = ((dk0, false), (opR d).2) := if_pos h
theorem ap2 {d : Dsk} {r : List UInt8} (a : Int) (h : (opR d).2 = 0) (h2 : r.length < 1 ∨ 310 < r.length) : apF d r a = ((dk0, false), 1) := (if_neg (not_not_intro h)).trans (if_pos h2)
theorem ap3 {d : Dsk} {r : List UInt8} (a : Int) (h : (opR d).2 = 0) (h2 : ¬ (r.length < 1 ∨ 310 < r.length)) (h3 : 0 < d.w.length) : apF d r a = ((dk0, false), 11) := (if_neg (not_not_intro h)).trans ((if_neg h2).trans (if_pos h3))
theorem ap4 {d : Dsk} {r : List UInt8} (a : Int) (h : (opR d).2 = 0) (h2 : ¬ (r.length < 1 ∨ 310 < r.length)) (h3 : ¬ 0 < d.w.length) (h4 : (d.l.length - 1) * 32 < ((gdF d).1 ++ rcT r).length) : apF d r a = ((dk0, false), 9) := (if_neg (not_not_intro h)).trans ((if_neg h2).trans ((if_neg h3).trans (if_pos h4)))
theorem ap5 {d : Dsk} {r : List UInt8} (a : Int) (h : (opR d).2 = 0) (h2 : ¬ (r.length < 1 ∨ 310 < r.length)) (h3 : ¬ 0 < d.w.length) (h4 : ¬ (d.l.length - 1) * 32 < ((gdF d).1 ++ rcT r).length) : apF d r a = (resT d.l ((gdF d).1 ++ rcT r) ((gdF d).1.length / 32) (cnW (gdF d).1 ((gdF d).1 ++ rcT r)) a, 0) := (if_neg (not_not_intro h)).trans ((if_neg h2).trans ((if_neg h3).trans (if_neg h4)))
theorem op_gd {d : Dsk} (h : (opR d).2 = 0) : (gdF d).2 = 0 := by
  unfold opR at h
  split at h
  · exact h
  · rename_i h1; exact Classical.not_not.1 h1
theorem gd_hd {d : Dsk} (h : (gdF d).2 = 0) : dkF d = 0 := by
  unfold gdF at h
  split at h
  · rename_i h1; exact absurd h h1
  · rename_i h1; exact (hd_ok (Classical.not_not.1 h1)).1
theorem rcT_len (r : List UInt8) : (rcT r).length = 6 + r.length := by
  unfold rcT
  rw [List.length_append, List.length_append, loF_len, loF_len]
set_option maxRecDepth 10000 in
set_option maxHeartbeats 2000000 in
theorem Append_fn (d : Dsk) (h : d.ok) (r : List UInt8) (a : Int) (ha1 : -9223372036854775808 ≤ a) (ha2 : a ≤ 9223372036854775807) : FnD Try.prog 18 [.agg (.es (eDsk d)), .one (.e (eBytes r)), .one (.e (eI a))] (rAp (apF d r a)) := by
  refine fn_intro (T := tab) tOk Try.func18 rfl (by kernel_rfl) (by simp [Try.ntmps18]) ?_
  intro X hX
  have hnt : X.nt = 128 := hX
  clear hX
  have hll : (d.l.map eSec).length = d.l.length := List.length_map ..
  have hwl : (d.w.map ePut).length = d.w.length := List.length_map ..
  have h32 : ∀ cs ∈ d.l.map eSec, cs.length = 32 := fun cs hc => by obtain ⟨s, hs, rfl⟩ := List.mem_map.1 hc; exact eSec_len (h.l s hs)
  have hlx : ((eDsk d).getD (0 + 0) E.dflt).xs.length = d.l.length := hll
  have hwx : ((eDsk d).getD (0 + 1) E.dflt).xs.length = d.w.length := hwl
  have hrl : (eCells r).length = r.length := eCells_length r
  have h1 := Open_fn d h
  have h2 := good_fn d h
  have hgl := gd_len h
  repeat' (first | refine tr_seq ?_ | refine tr_block ?_ | refine tr_skip ?_)
  first | refine reg (T := tab) tOk hnt rfl ?_ ?_ | refine regD (T := tab) tOk mixedR hnt rfl (by first | decide +kernel | kernel_rfl) ?_ ?_
  · (dsimp only [AllP]; (repeat' first | exact trivial | assumption | exact Nat.le_of_ble_eq_true rfl | apply And.intro | exact eCells_len1 _ _ ‹_› | exact eCells_isByte _ _ ‹_› | (intro hh_; have hg_ := hh_; (try simp only [condT_ff, condF_tt, notE_t, notE_f, Bool.and_eq_true, ne_eq, decide_eq_true_eq, decide_eq_false_iff_not] at hg_)) | intro _ | exact rfl | omega))
  repeat' (first | refine tr_seq ?_ | refine tr_block ?_ | refine tr_skip ?_)
  refine tr_region (lex (T := tab) tOk hnt rfl ?_ (call rfl rfl rfl rfl rfl rfl rfl hnt (h1) (lex (T := tab) tOk hnt rfl ?_ (Lex.nil _)))) ?_
  · (dsimp only [AllP]; (repeat' first | exact trivial | assumption | exact Nat.le_of_ble_eq_true rfl | apply And.intro | exact eCells_len1 _ _ ‹_› | exact eCells_isByte _ _ ‹_› | (intro hh_; have hg_ := hh_; (try simp only [condT_ff, condF_tt, notE_t, notE_f, Bool.and_eq_true, ne_eq, decide_eq_true_eq, decide_eq_false_iff_not] at hg_)) | intro _ | exact rfl | omega))
    all_goals trace_state
  · (dsimp only [AllP]; (repeat' first | exact trivial | assumption | exact Nat.le_of_ble_eq_true rfl | apply And.intro | exact eCells_len1 _ _ ‹_› | exact eCells_isByte _ _ ‹_› | (intro hh_; have hg_ := hh_; (try simp only [condT_ff, condF_tt, notE_t, notE_f, Bool.and_eq_true, ne_eq, decide_eq_true_eq, decide_eq_false_iff_not] at hg_)) | intro _ | exact rfl | omega))
    all_goals trace_state
  repeat' (first | refine tr_seq ?_ | refine reg (T := tab) tOk hnt rfl ?_ ?_ | refine regD (T := tab) tOk mixedR hnt rfl (by first | decide +kernel | kernel_rfl) ?_ ?_ | refine tr_block ?_ | refine tr_skip ?_)
  · (dsimp only [AllP]; (repeat' first | exact trivial | assumption | exact Nat.le_of_ble_eq_true rfl | apply And.intro | decide | intro _ | exact rfl))
  repeat' (first | refine tr_seq ?_ | refine tr_block ?_ | refine tr_skip ?_)
  refine tr_cond rfl (fun hc => ?_) (fun hc => ?_)
  · simp only [condT_tt, condT_ff, condF_tt, condF_ff, notE_t, notE_f, decide_eq_true_eq, decide_eq_false_iff_not] at hc
    have hc : (opR d).2 ≠ 0 := hc
    rw [ap1 r a hc]
    repeat' (first | refine tr_seq ?_ | refine reg (T := tab) tOk hnt rfl ?_ ?_ | refine regD (T := tab) tOk mixedR hnt rfl (by first | decide +kernel | kernel_rfl) ?_ ?_ | refine tr_block ?_ | refine tr_skip ?_)
    · (dsimp only [AllP]; (repeat' first | exact trivial | assumption | exact Nat.le_of_ble_eq_true rfl | apply And.intro | decide | intro _ | exact rfl))
    refine tr_ret ⟨.inr rfl, _, _, rfl, by (repeat' first | exact trivial | exact Nat.le_of_ble_eq_true rfl | apply And.intro), ?_⟩
    exact rfl
  simp only [condT_tt, condT_ff, condF_tt, condF_ff, notE_t, notE_f, decide_eq_true_eq, decide_eq_false_iff_not] at hc
  have ho : (opR d).2 = 0 := hc
  repeat' (first | refine tr_seq ?_ | refine reg (T := tab) tOk hnt rfl ?_ ?_ | refine regD (T := tab) tOk mixedR hnt rfl (by first | decide +kernel | kernel_rfl) ?_ ?_ | refine tr_block ?_ | refine tr_skip ?_)
  · (dsimp only [AllP]; (repeat' first | exact trivial | assumption | exact Nat.le_of_ble_eq_true rfl | apply And.intro | decide | intro _ | exact rfl))
  repeat' (first | refine tr_seq ?_ | refine tr_block ?_ | refine tr_skip ?_)
  refine tr_cond rfl (fun hc => ?_) (fun hc => ?_)
  · simp only [condT_tt, condT_ff, condF_tt, condF_ff, notE_t, notE_f, decide_eq_true_eq, decide_eq_false_iff_not] at hc
    (try simp only [hrl] at hc)
    (try simp only [condT_tt, condT_ff, condF_tt, condF_ff, notE_t, notE_f, decide_eq_true_eq, decide_eq_false_iff_not] at hc)
    rw [ap2 a ho (by omega)]
    repeat' (first | refine tr_seq ?_ | refine reg (T := tab) tOk hnt rfl ?_ ?_ | refine regD (T := tab) tOk mixedR hnt rfl (by first | decide +kernel | kernel_rfl) ?_ ?_ | refine tr_block ?_ | refine tr_skip ?_)
    · (dsimp only [AllP]; (repeat' first | exact trivial | assumption | exact Nat.le_of_ble_eq_true rfl | apply And.intro | decide | intro _ | exact rfl))
    refine tr_ret ⟨.inr rfl, _, _, rfl, by (repeat' first | exact trivial | exact Nat.le_of_ble_eq_true rfl | apply And.intro), ?_⟩
    exact rfl
  simp only [condT_tt, condT_ff, condF_tt, condF_ff, notE_t, notE_f, decide_eq_true_eq, decide_eq_false_iff_not] at hc
  (try simp only [hrl] at hc)
  (try simp only [condT_tt, condT_ff, condF_tt, condF_ff, notE_t, notE_f, decide_eq_true_eq, decide_eq_false_iff_not] at hc)
  have hr2 : ¬ (r.length < 1 ∨ 310 < r.length) := by omega
  repeat' (first | refine tr_seq ?_ | refine reg (T := tab) tOk hnt rfl ?_ ?_ | refine regD (T := tab) tOk mixedR hnt rfl (by first | decide +kernel | kernel_rfl) ?_ ?_ | refine tr_block ?_ | refine tr_skip ?_)
  · (dsimp only [AllP]; (repeat' first | exact trivial | assumption | exact Nat.le_of_ble_eq_true rfl | apply And.intro | decide | intro _ | exact rfl))
  repeat' (first | refine tr_seq ?_ | refine tr_block ?_ | refine tr_skip ?_)
  refine tr_cond rfl (fun hc => ?_) (fun hc => ?_)
  · simp only [condT_tt, condT_ff, condF_tt, condF_ff, notE_t, notE_f, decide_eq_true_eq, decide_eq_false_iff_not] at hc
    (try simp only [hwx] at hc)
    (try simp only [condT_tt, condT_ff, condF_tt, condF_ff, notE_t, notE_f, decide_eq_true_eq, decide_eq_false_iff_not] at hc)
    rw [ap3 a ho hr2 (by omega)]
    repeat' (first | refine tr_seq ?_ | refine reg (T := tab) tOk hnt rfl ?_ ?_ | refine regD (T := tab) tOk mixedR hnt rfl (by first | decide +kernel | kernel_rfl) ?_ ?_ | refine tr_block ?_ | refine tr_skip ?_)
    · (dsimp only [AllP]; (repeat' first | exact trivial | assumption | exact Nat.le_of_ble_eq_true rfl | apply And.intro | decide | intro _ | exact rfl))
    refine tr_ret ⟨.inr rfl, _, _, rfl, by (repeat' first | exact trivial | exact Nat.le_of_ble_eq_true rfl | apply And.intro), ?_⟩
    exact rfl
  simp only [condT_tt, condT_ff, condF_tt, condF_ff, notE_t, notE_f, decide_eq_true_eq, decide_eq_false_iff_not] at hc
  (try simp only [hwx] at hc)
  (try simp only [condT_tt, condT_ff, condF_tt, condF_ff, notE_t, notE_f, decide_eq_true_eq, decide_eq_false_iff_not] at hc)
  have hw0 : ¬ 0 < d.w.length := by omega
  have hg0 := op_gd ho
  have hdk := gd_hd hg0
  have hle := dk_le hdk
  have h3 := framed_fn r (by omega)
  have hrc := rcT_len r
  have a4 := ap4 a ho hr2 hw0
  have a5 := ap5 a ho hr2 hw0
  generalize apF d r a = res at *
  generalize gdF d = gd at *
  obtain ⟨old, eg⟩ := gd
  have hg0 : eg = 0 := hg0
  subst hg0
  dsimp only at hgl a4 a5
  have hol : (eCells old).length = old.length := eCells_length old
  have hcl : (eCells (rcT r)).length = 6 + r.length := by rw [eCells_length, hrc]
  repeat' (first | refine tr_seq ?_ | refine tr_block ?_ | refine tr_skip ?_)
  refine tr_region (lex (T := tab) tOk hnt rfl ?_ (call rfl rfl rfl rfl rfl rfl rfl hnt (h2) (lex (T := tab) tOk hnt rfl ?_ (Lex.nil _)))) ?_
  · (dsimp only [AllP]; (repeat' first | exact trivial | assumption | exact Nat.le_of_ble_eq_true rfl | apply And.intro | exact eCells_len1 _ _ ‹_› | exact eCells_isByte _ _ ‹_› | (intro hh_; have hg_ := hh_; (try simp only [condT_ff, condF_tt, notE_t, notE_f, Bool.and_eq_true, ne_eq, decide_eq_true_eq, decide_eq_false_iff_not] at hg_)) | intro _ | exact rfl | omega))
    all_goals trace_state
  · (dsimp only [AllP]; (repeat' first | exact trivial | assumption | exact Nat.le_of_ble_eq_true rfl | apply And.intro | exact eCells_len1 _ _ ‹_› | exact eCells_isByte _ _ ‹_› | (intro hh_; have hg_ := hh_; (try simp only [condT_ff, condF_tt, notE_t, notE_f, Bool.and_eq_true, ne_eq, decide_eq_true_eq, decide_eq_false_iff_not] at hg_)) | intro _ | exact rfl | omega))
    all_goals trace_state
  repeat' (first | refine tr_seq ?_ | refine reg (T := tab) tOk hnt rfl ?_ ?_ | refine regD (T := tab) tOk mixedR hnt rfl (by first | decide +kernel | kernel_rfl) ?_ ?_ | refine tr_block ?_ | refine tr_skip ?_)
  · (dsimp only [AllP]; (repeat' first | exact trivial | assumption | exact Nat.le_of_ble_eq_true rfl | apply And.intro | decide | intro _ | exact rfl))
  repeat' (first | refine tr_seq ?_ | refine tr_block ?_ | refine tr_skip ?_)
  refine tr_cond rfl (fun hc => ?_) (fun hc => ?_)
  · exact absurd (show (!decide ((0 : Int) = 0)) = true from hc) (by decide)
  have ho1 : (eCells old).length ≤ 12800 := by omega
  have m1 : (eCells old).length + (eCells (rcT r)).length ≤ maxLen := by unfold maxLen; omega
  have m2 : ((eCells old).length + (eCells (rcT r)).length) * 1 ≤ 140737488355328 := by omega
  repeat' (first | refine tr_seq ?_ | refine tr_block ?_ | refine tr_skip ?_)
  refine tr_region (lex (T := tab) tOk hnt rfl ?_ (call rfl rfl rfl rfl rfl rfl rfl hnt (h3) (lex (T := tab) tOk hnt rfl ?_ (Lex.nil _)))) ?_
  · (dsimp only [AllP]; (repeat' first | exact trivial | assumption | exact Nat.le_of_ble_eq_true rfl | apply And.intro | exact eCells_len1 _ _ ‹_› | exact eCells_isByte _ _ ‹_› | (intro hh_; have hg_ := hh_; (try simp only [condT_ff, condF_tt, notE_t, notE_f, Bool.and_eq_true, ne_eq, decide_eq_true_eq, decide_eq_false_iff_not] at hg_)) | intro _ | exact rfl | omega | exact Nat.le_trans (Nat.add_le_add_right ho1 1) (by decide) | exact Nat.le_trans (Nat.mul_le_mul_right _ (Nat.add_le_add_right ho1 1)) (by decide) | exact Nat.le_trans (Nat.add_le_add_left ho1 0) (by decide) | exact Nat.le_trans (Nat.mul_le_mul_right _ (Nat.add_le_add_left ho1 0)) (by decide)))
    all_goals trace_state
  · (dsimp only [AllP]; (repeat' first | exact trivial | assumption | exact Nat.le_of_ble_eq_true rfl | apply And.intro | exact eCells_len1 _ _ ‹_› | exact eCells_isByte _ _ ‹_› | (intro hh_; have hg_ := hh_; (try simp only [condT_ff, condF_tt, notE_t, notE_f, Bool.and_eq_true, ne_eq, decide_eq_true_eq, decide_eq_false_iff_not] at hg_)) | intro _ | exact rfl | omega))
    all_goals trace_state
  refine tr_le (le_frz 13 rfl rfl) ?_
  have hcat : ([] ++ eCells old) ++ eCells (rcT r) = eCells (old ++ rcT r) := by rw [List.nil_append, ← eCells_append]
  refine tr_le (s' := St.of [(2, .one (.e (eI a))), (3, .one (.ptr 3 0 0)), (6, .one (.ptr 6 0 0)), (11, .one (.e (eBytes old))), (13, .one (.e (eBytes (old ++ rcT r))))] [(3, ⟨0, .box (.es (eDsk d)), 0⟩), (6, ⟨0, .box (.ds [.nil, .nil]), 0⟩)]) (le_of (ad := []) ⟨rfl, ⟨rfl, rfl, rfl, rfl, rfl⟩, ⟨rfl, rfl, rfl, rfl, rfl⟩, rfl, congrArg (fun z => E.sl z) hcat, trivial⟩ (memOk_box rfl rfl rfl (memOk_box rfl rfl ⟨trivial, trivial, trivial⟩ trivial))) ?_
  have htl : (old ++ rcT r).length = old.length + (6 + r.length) := by rw [List.length_append, hrc]
  generalize ht : old ++ rcT r = t at *
  have htL : (eCells t).length = t.length := eCells_length t
  have w1 : IntKind.i64.wrap ((d.l.length : Int) - 1) = (d.l.length : Int) - 1 := wrap64_id (by omega) (by omega)
  have w2 : IntKind.i64.wrap (((d.l.length : Int) - 1) * 32) = ((d.l.length : Int) - 1) * 32 := wrap64_id (by omega) (by omega)
  repeat' (first | refine tr_seq ?_ | refine reg (T := tab) tOk hnt rfl ?_ ?_ | refine regD (T := tab) tOk mixedR hnt rfl (by first | decide +kernel | kernel_rfl) ?_ ?_ | refine tr_block ?_ | refine tr_skip ?_)
  · (dsimp only [AllP]; (repeat' first | exact trivial | assumption | exact Nat.le_of_ble_eq_true rfl | apply And.intro | decide | intro _ | exact rfl))
  repeat' (first | refine tr_seq ?_ | refine tr_block ?_ | refine tr_skip ?_)
  refine tr_cond rfl (fun hc => ?_) (fun hc => ?_)
  · simp only [condT_tt, condT_ff, condF_tt, condF_ff, notE_t, notE_f, decide_eq_true_eq, decide_eq_false_iff_not] at hc
    (try simp only [htL, hlx] at hc)
    (try simp only [condT_tt, condT_ff, condF_tt, condF_ff, notE_t, notE_f, decide_eq_true_eq, decide_eq_false_iff_not] at hc)
    rw [w1, w2] at hc
    rw [a4 (by omega)]
    repeat' (first | refine tr_seq ?_ | refine reg (T := tab) tOk hnt rfl ?_ ?_ | refine regD (T := tab) tOk mixedR hnt rfl (by first | decide +kernel | kernel_rfl) ?_ ?_ | refine tr_block ?_ | refine tr_skip ?_)
    · (dsimp only [AllP]; (repeat' first | exact trivial | assumption | exact Nat.le_of_ble_eq_true rfl | apply And.intro | decide | intro _ | exact rfl))
    refine tr_ret ⟨.inr rfl, _, _, rfl, by (repeat' first | exact trivial | exact Nat.le_of_ble_eq_true rfl | apply And.intro), ?_⟩
    exact rfl
  simp only [condT_tt, condT_ff, condF_tt, condF_ff, notE_t, notE_f, decide_eq_true_eq, decide_eq_false_iff_not] at hc
  (try simp only [htL, hlx] at hc)
  (try simp only [condT_tt, condT_ff, condF_tt, condF_ff, notE_t, notE_f, decide_eq_true_eq, decide_eq_false_iff_not] at hc)
  rw [w1, w2] at hc
  have hfit : ¬ (d.l.length - 1) * 32 < t.length := by omega
  rw [a5 hfit]
  clear a4 a5
  have m3 : ([] : List (List E)).length + ((eDsk d).getD (0 + 0) E.dflt).xs.length ≤ maxLen := by rw [dl0, hll]; show 0 + d.l.length ≤ maxLen; unfold maxLen; omega
  have m4 : (([] : List (List E)).length + ((eDsk d).getD (0 + 0) E.dflt).xs.length) * 32 ≤ 140737488355328 := by rw [dl0, hll]; show (0 + d.l.length) * 32 ≤ _; omega
  repeat' (first | refine tr_seq ?_ | refine tr_block ?_ | refine tr_skip ?_)
  first | refine reg (T := tab) tOk hnt rfl ?_ ?_ | refine regD (T := tab) tOk mixedR hnt rfl (by first | decide +kernel | kernel_rfl) ?_ ?_
  · (dsimp only [AllP]; (repeat' first | exact trivial | assumption | exact Nat.le_of_ble_eq_true rfl | apply And.intro | exact eCells_len1 _ _ ‹_› | exact eCells_isByte _ _ ‹_› | (intro hh_; have hg_ := hh_; (try simp only [condT_ff, condF_tt, notE_t, notE_f, Bool.and_eq_true, ne_eq, decide_eq_true_eq, decide_eq_false_iff_not] at hg_)) | intro _ | exact rfl | omega))
    all_goals first | exact h32 _ ‹_› | trace_state
  refine tr_le (le_box 72 rfl rfl rfl) ?_
  refine tr_le (s' := St.of [(6, .one (.ptr 6 0 0)), (11, .one (.e (eBytes old))), (13, .one (.e (eBytes t))), (14, .one (.ptr 72 0 0))] [(6, ⟨0, .box (.ds [.nil, .nil]), 0⟩), (72, ⟨0, .box (.es (eDo ⟨d.l, []⟩ a)), 0⟩)]) (le_of (ad := []) (by refine ⟨?_, ?_, ?_, ?_, trivial⟩ <;> first | exact trivial | rfl | exact ⟨rfl, rfl⟩ | exact ⟨rfl, rfl, rfl⟩ | exact ⟨rfl, rfl, rfl, rfl⟩ | exact ⟨rfl, rfl, rfl, rfl, rfl⟩ | exact congrArg (fun z : Int => E.v (.int .i64 z)) (wrap64_id (by omega) (by omega)) | exact congrArg (fun z : Int => E.v (.int .u8 z)) (by assumption) | exact congrArg (fun z : ByteArray => E.v (.string z)) (by assumption) | (refine ⟨rfl, ?_⟩; repeat' first | exact trivial | rfl | apply And.intro)) (memOk_box rfl rfl ⟨trivial, trivial, trivial⟩ (memOk_box rfl rfl rfl trivial))) ?_
  have hdiv : IntKind.i64.wrap (Int.tdiv ((eCells old).length : Int) 32) = ((old.length / 32 : Nat) : Int) := by
    rw [hol, Int.tdiv_eq_ediv_of_nonneg (by omega)]
    exact wrap64_id (by omega) (by omega)
  have hs0 : old.length / 32 * 32 ≤ old.length := Nat.div_mul_le_self _ _
  have hn0 : cnW old t = (t.length + 31) / 32 - old.length / 32 := rfl
  have hnj : ∀ j, (old.length / 32 + j) * 32 < t.length ↔ j < cnW old t := fun j => by rw [hn0]; omega
  have g : gdA d.l (old.length / 32) (cnW old t) := ⟨h.l, by omega, by omega, by rw [hn0]; omega, fun _ => by rw [hn0] at *; omega⟩
  clear hn0
  generalize cnW old t = n at *
  generalize old.length / 32 = s0 at *
  have g3 := g.nn
  have hlf0 := lf_start ha1 ha2
  have hd0 : trj d.l t s0 n 0 = ⟨d.l, []⟩ := trj_w (Nat.zero_le _)
  repeat' (first | refine tr_seq ?_ | refine reg (T := tab) tOk hnt rfl ?_ ?_ | refine regD (T := tab) tOk mixedR hnt rfl (by first | decide +kernel | kernel_rfl) ?_ ?_ | refine tr_block ?_ | refine tr_skip ?_)
  · (dsimp only [AllP]; (repeat' first | exact trivial | assumption | exact Nat.le_of_ble_eq_true rfl | apply And.intro | decide | intro _ | exact rfl))
  rw [hdiv]
  repeat' (first | refine tr_seq ?_ | refine tr_block ?_ | refine tr_skip ?_)
  refine tr_loop (σ := Nat) (fun j => St.of [(6, .one (.ptr 6 0 0)), (13, .one (.e (eBytes t))), (14, .one (.ptr 72 0 0)), (15, .one (.e (eI ((s0 + j : Nat) : Int))))] [(6, ⟨0, .box (.ds [.nil, .nil]), 0⟩), (72, ⟨0, .box (.es (eDo (trj d.l t s0 n j) (lf a j))), 0⟩)]) (fun j => j ≤ n ∧ ∀ k, k < j → a ≠ (k : Int)) (fun j => n - j) (0) (le_of (ad := []) (by refine ⟨?_, ?_, ?_, ?_, trivial⟩ <;> first | exact trivial | rfl | exact ⟨rfl, rfl⟩ | exact ⟨rfl, rfl, rfl⟩ | exact ⟨rfl, rfl, rfl, rfl⟩ | exact ⟨rfl, rfl, rfl, rfl, rfl⟩ | exact congrArg (fun z : Int => E.v (.int .i64 z)) (wrap64_id (by omega) (by omega)) | exact congrArg (fun z : Int => E.v (.int .u8 z)) (by assumption) | exact congrArg (fun z : ByteArray => E.v (.string z)) (by assumption) | (refine ⟨rfl, ?_⟩; repeat' first | exact trivial | rfl | apply And.intro)) (memOk_box rfl rfl ⟨trivial, trivial, trivial⟩ (memOk_box rfl rfl (by rw [hd0, hlf0]; rfl) trivial))) ⟨Nat.zero_le _, fun k hk => absurd hk (Nat.not_lt_zero _)⟩ ?_
  rintro j ⟨jn, hna⟩
  obtain ⟨tok, _, _, _⟩ := trj_ok t g j
  have hij := hnj j
  have q1 : IntKind.i64.wrap (((s0 + j : Nat) : Int) * 32) = (((s0 + j) * 32 : Nat) : Int) := by rw [wrap64_id (by omega) (by omega)]; omega
  repeat' (first | refine tr_seq ?_ | refine reg (T := tab) tOk hnt rfl ?_ ?_ | refine regD (T := tab) tOk mixedR hnt rfl (by first | decide +kernel | kernel_rfl) ?_ ?_ | refine tr_block ?_ | refine tr_skip ?_)
  · (dsimp only [AllP]; (repeat' first | exact trivial | assumption | exact Nat.le_of_ble_eq_true rfl | apply And.intro | decide | intro _ | exact rfl))
  repeat' (first | refine tr_seq ?_ | refine tr_block ?_ | refine tr_skip ?_)
  refine tr_cond rfl (fun hc => ?_) (fun hc => ?_)
  · simp only [condT_tt, condT_ff, condF_tt, condF_ff, notE_t, notE_f, decide_eq_true_eq, decide_eq_false_iff_not] at hc
    (try simp only [htL] at hc)
    (try simp only [condT_tt, condT_ff, condF_tt, condF_ff, notE_t, notE_f, decide_eq_true_eq, decide_eq_false_iff_not] at hc)
    rw [q1] at hc
    have hjn : j < n := hij.1 (by omega)
    have q2 : IntKind.i64.wrap (1 + ((s0 + j : Nat) : Int)) = ((s0 + j + 1 : Nat) : Int) := by rw [wrap64_id (by omega) (by omega)]; omega
    have q3 : IntKind.i64.wrap (((s0 + j : Nat) : Int) + 1) = ((s0 + (j + 1) : Nat) : Int) := by rw [wrap64_id (by omega) (by omega)]; omega
    have q4 : IntKind.i64.wrap (((s0 + (j + 1) : Nat) : Int) * 32) = (((s0 + j) * 32 + 32 : Nat) : Int) := by rw [wrap64_id (by omega) (by omega)]; omega
    have hW := doW_fn (trj d.l t s0 n j) (lf a j) tok ((s0 + j + 1 : Nat) : Int) ((t.drop ((s0 + j) * 32)).take 32) (by rw [List.length_take]; omega)
    rw [show padF ((t.drop ((s0 + j) * 32)).take 32) = blkF t (s0 + j) from rfl, wr_trj t g hjn] at hW
    have hHI : (if IntKind.i64.wrap (IntKind.i64.wrap (((s0 + j : Nat) : Int) + 1) * 32) < ((eCells t).length : Int) then IntKind.i64.wrap (IntKind.i64.wrap (((s0 + j : Nat) : Int) + 1) * 32) else ((eCells t).length : Int)) = ((min t.length ((s0 + j) * 32 + 32) : Nat) : Int) := by
      rw [q3, q4, htL]
      split <;> omega
    have hsl : E.sl (List.take (Int.toNat (if IntKind.i64.wrap (IntKind.i64.wrap (((s0 + j : Nat) : Int) + 1) * 32) < ((eCells t).length : Int) then IntKind.i64.wrap (IntKind.i64.wrap (((s0 + j : Nat) : Int) + 1) * 32) else ((eCells t).length : Int)) - Int.toNat (IntKind.i64.wrap (((s0 + j : Nat) : Int) * 32))) (List.drop (Int.toNat (IntKind.i64.wrap (((s0 + j : Nat) : Int) * 32))) (eCells t))) = eBytes ((t.drop ((s0 + j) * 32)).take 32) := by
      rw [hHI, q1, Int.toNat_natCast, Int.toNat_natCast]
      unfold eBytes eCells
      rw [List.map_take, List.map_drop]
      have hdl : (List.drop ((s0 + j) * 32) (t.map fun b => [eB b])).length = t.length - (s0 + j) * 32 := by rw [List.length_drop, List.length_map]
      rcases Nat.lt_or_ge t.length ((s0 + j) * 32 + 32) with h | h
      · rw [Nat.min_eq_left (by omega), List.take_of_length_le (by omega), List.take_of_length_le (by omega)]
      · rw [Nat.min_eq_right h, show (s0 + j) * 32 + 32 - (s0 + j) * 32 = 32 by omega]
    have c1 : (0 : Int) ≤ IntKind.i64.wrap (((s0 + j : Nat) : Int) * 32) := by rw [q1]; omega
    have c2 : IntKind.i64.wrap (((s0 + j : Nat) : Int) * 32) ≤ (if IntKind.i64.wrap (IntKind.i64.wrap (((s0 + j : Nat) : Int) + 1) * 32) < ((eCells t).length : Int) then IntKind.i64.wrap (IntKind.i64.wrap (((s0 + j : Nat) : Int) + 1) * 32) else ((eCells t).length : Int)) := by rw [q1, hHI]; omega
    have c3 : (if IntKind.i64.wrap (IntKind.i64.wrap (((s0 + j : Nat) : Int) + 1) * 32) < ((eCells t).length : Int) then IntKind.i64.wrap (IntKind.i64.wrap (((s0 + j : Nat) : Int) + 1) * 32) else ((eCells t).length : Int)) ≤ ((eCells t).length : Int) := by rw [hHI, htL]; omega
    have c4 := eCells_len1 t
    rw [← hsl, ← q2] at hW
    by_cases hz : lf a j = 0
    · have haj : a = (j : Int) := (lf_zero ha1 ha2 (by omega)).1 hz
      rw [dos_no hz] at hW
      have hres : resT d.l t s0 n a = (trj d.l t s0 n j, false) := by rw [haj]; exact res_at (by omega)
      rw [hres]
      repeat' (first | refine tr_seq ?_ | refine tr_block ?_ | refine tr_skip ?_)
      refine tr_region (lex (T := tab) tOk hnt rfl ?_ (callH (us := []) [(900000, 72)] [] [] rfl rfl rfl rfl (hW) (by repeat' first | exact .nil | refine .lent rfl rfl rfl ?_ | refine .data rfl ?_) (fun _ => rfl) rfl rfl hnt rfl rfl (by repeat' first | exact trivial | rfl | apply And.intro) (by repeat' first | exact trivial | rfl | apply And.intro) (lex (T := tab) tOk hnt rfl ?_ (Lex.nil _)))) ?_
      · (dsimp only [AllP]; (repeat' first | exact trivial | assumption | exact Nat.le_of_ble_eq_true rfl | apply And.intro | exact eCells_len1 _ _ ‹_› | exact eCells_isByte _ _ ‹_› | (intro hh_; have hg_ := hh_; (try simp only [condT_ff, condF_tt, notE_t, notE_f, Bool.and_eq_true, ne_eq, decide_eq_true_eq, decide_eq_false_iff_not] at hg_)) | intro _ | exact rfl | omega))
        all_goals first | exact c4 _ ‹_› | trace_state
      · (dsimp only [AllP]; (repeat' first | exact trivial | assumption | exact Nat.le_of_ble_eq_true rfl | apply And.intro | exact eCells_len1 _ _ ‹_› | exact eCells_isByte _ _ ‹_› | (intro hh_; have hg_ := hh_; (try simp only [condT_ff, condF_tt, notE_t, notE_f, Bool.and_eq_true, ne_eq, decide_eq_true_eq, decide_eq_false_iff_not] at hg_)) | intro _ | exact rfl | omega))
        all_goals trace_state
      refine tr_le (s' := St.of [(6, .one (.ptr 6 0 0)), (14, .one (.ptr 72 0 0)), (97, .one (.e (.v (.bool true))))] [(6, ⟨0, .box (.ds [.nil, .nil]), 0⟩), (72, ⟨0, .box (.es (eDo (trj d.l t s0 n j) (lf a j))), 0⟩)]) (le_of (ad := []) (by refine ⟨?_, ?_, ?_, trivial⟩ <;> first | exact trivial | rfl | exact ⟨rfl, rfl⟩ | exact ⟨rfl, rfl, rfl⟩ | exact ⟨rfl, rfl, rfl, rfl⟩ | exact ⟨rfl, rfl, rfl, rfl, rfl⟩ | exact congrArg (fun z : Int => E.v (.int .i64 z)) (wrap64_id (by omega) (by omega)) | exact congrArg (fun z : Int => E.v (.int .u8 z)) (by assumption) | exact congrArg (fun z : ByteArray => E.v (.string z)) (by assumption) | (refine ⟨rfl, ?_⟩; repeat' first | exact trivial | rfl | apply And.intro)) (memOk_box rfl rfl ⟨trivial, trivial, trivial⟩ (memOk_box rfl rfl rfl trivial))) ?_
      repeat' (first | refine tr_seq ?_ | refine tr_block ?_ | refine tr_skip ?_)
      refine tr_cond rfl (fun hc => ?_) (fun hc => ?_)
      · repeat' (first | refine tr_seq ?_ | refine reg (T := tab) tOk hnt rfl ?_ ?_ | refine regD (T := tab) tOk mixedR hnt rfl (by first | decide +kernel | kernel_rfl) ?_ ?_ | refine tr_block ?_ | refine tr_skip ?_)
        · (dsimp only [AllP]; (repeat' first | exact trivial | assumption | exact Nat.le_of_ble_eq_true rfl | apply And.intro | decide | intro _ | exact rfl))
        refine tr_ret ⟨.inr rfl, _, _, rfl, by (repeat' first | exact trivial | exact Nat.le_of_ble_eq_true rfl | apply And.intro), ?_⟩
        exact rfl
      exact absurd hc (by decide)
    rw [dos_go hz, lf_succ] at hW
    repeat' (first | refine tr_seq ?_ | refine tr_block ?_ | refine tr_skip ?_)
    refine tr_region (lex (T := tab) tOk hnt rfl ?_ (callH (us := []) [(900000, 72)] [] [] rfl rfl rfl rfl (hW) (by repeat' first | exact .nil | refine .lent rfl rfl rfl ?_ | refine .data rfl ?_) (fun _ => rfl) rfl rfl hnt rfl rfl (by repeat' first | exact trivial | rfl | apply And.intro) (by repeat' first | exact trivial | rfl | apply And.intro) (lex (T := tab) tOk hnt rfl ?_ (Lex.nil _)))) ?_
    · (dsimp only [AllP]; (repeat' first | exact trivial | assumption | exact Nat.le_of_ble_eq_true rfl | apply And.intro | exact eCells_len1 _ _ ‹_› | exact eCells_isByte _ _ ‹_› | (intro hh_; have hg_ := hh_; (try simp only [condT_ff, condF_tt, notE_t, notE_f, Bool.and_eq_true, ne_eq, decide_eq_true_eq, decide_eq_false_iff_not] at hg_)) | intro _ | exact rfl | omega))
      all_goals first | exact c4 _ ‹_› | trace_state
    · (dsimp only [AllP]; (repeat' first | exact trivial | assumption | exact Nat.le_of_ble_eq_true rfl | apply And.intro | exact eCells_len1 _ _ ‹_› | exact eCells_isByte _ _ ‹_› | (intro hh_; have hg_ := hh_; (try simp only [condT_ff, condF_tt, notE_t, notE_f, Bool.and_eq_true, ne_eq, decide_eq_true_eq, decide_eq_false_iff_not] at hg_)) | intro _ | exact rfl | omega))
      all_goals trace_state
    repeat' (first | refine tr_seq ?_ | refine tr_block ?_ | refine tr_skip ?_)
    refine tr_cond rfl (fun hc => ?_) (fun hc => ?_)
    · exact absurd (show (!true) = true from hc) (by decide)
    repeat' (first | refine tr_seq ?_ | refine reg (T := tab) tOk hnt rfl ?_ ?_ | refine regD (T := tab) tOk mixedR hnt rfl (by first | decide +kernel | kernel_rfl) ?_ ?_ | refine tr_block ?_ | refine tr_skip ?_)
    · (dsimp only [AllP]; (repeat' first | exact trivial | assumption | exact Nat.le_of_ble_eq_true rfl | apply And.intro | decide | intro _ | exact rfl))
    rw [q3]
    have hna2 : ∀ k, k < j + 1 → a ≠ (k : Int) := fun k hk => by
      by_cases e : k = j
      · subst e; exact fun h => hz ((lf_zero ha1 ha2 (by omega)).2 h)
      · exact hna k (by omega)
    refine ⟨j + 1, ⟨by omega, hna2⟩, by omega, le_of (ad := []) (by refine ⟨?_, ?_, ?_, ?_, trivial⟩ <;> first | exact trivial | rfl | exact ⟨rfl, rfl⟩ | exact ⟨rfl, rfl, rfl⟩ | exact ⟨rfl, rfl, rfl, rfl⟩ | exact ⟨rfl, rfl, rfl, rfl, rfl⟩ | exact congrArg (fun z : Int => E.v (.int .i64 z)) (wrap64_id (by omega) (by omega)) | exact congrArg (fun z : Int => E.v (.int .u8 z)) (by assumption) | exact congrArg (fun z : ByteArray => E.v (.string z)) (by assumption) | (refine ⟨rfl, ?_⟩; repeat' first | exact trivial | rfl | apply And.intro)) (memOk_box rfl rfl ⟨trivial, trivial, trivial⟩ (memOk_box rfl rfl rfl trivial))⟩
  simp only [condT_tt, condT_ff, condF_tt, condF_ff, notE_t, notE_f, decide_eq_true_eq, decide_eq_false_iff_not] at hc
  (try simp only [htL] at hc)
  (try simp only [condT_tt, condT_ff, condF_tt, condF_ff, notE_t, notE_f, decide_eq_true_eq, decide_eq_false_iff_not] at hc)
  rw [q1] at hc
  refine tr_exit ?_
  have hjn : n = j := by omega
  subst hjn
  obtain ⟨o1, _, _, _⟩ := trj_ok t g (n + 1)
  obtain ⟨o2, _, _, _⟩ := trj_ok t g (n + 2)
  have hS1 := doSync_fn (trj d.l t s0 n n) (lf a n) tok
  rw [sy_trj t g] at hS1
  have hW2 := doW_fn (trj d.l t s0 n (n + 1)) (lf a (n + 1)) o1 0 (loF t.length 8) (by rw [loF_len]; decide)
  rw [show padF (loF t.length 8) = hdB t.length from rfl, wr2_trj t g] at hW2
  have hS3 := doSync_fn (trj d.l t s0 n (n + 2)) (lf a (n + 2)) o2
  rw [sy2_trj t g] at hS3
  have b1 := byShr t.length 16 IntKind.i64.bits (by decide)
  have b2 := byShr t.length 8 IntKind.i64.bits (by decide)
  have b3 : IntKind.u8.wrap (t.length : Int) = ((UInt8.ofNat (t.length / 256 ^ 0)).toNat : Int) := by rw [Nat.pow_zero, Nat.div_one]; exact wrapB8 _
  have hlit : E.sl [[.v (.int .u8 0)], [.v (.int .u8 0)], [.v (.int .u8 0)], [.v (.int .u8 0)], [.v (.int .u8 0)], [.v (.int .u8 (IntKind.u8.wrap (Int.fdiv ((eCells t).length : Int) (2 ^ min 16 IntKind.i64.bits))))], [.v (.int .u8 (IntKind.u8.wrap (Int.fdiv ((eCells t).length : Int) (2 ^ min 8 IntKind.i64.bits))))], [.v (.int .u8 (IntKind.u8.wrap ((eCells t).length : Int)))]] = eBytes (loF t.length 8) := by
    rw [htL, b1, b2, b3]
    have z7 : t.length / 256 ^ 7 = 0 := Nat.div_eq_of_lt (by omega)
    have z6 : t.length / 256 ^ 6 = 0 := Nat.div_eq_of_lt (by omega)
    have z5 : t.length / 256 ^ 5 = 0 := Nat.div_eq_of_lt (by omega)
    have z4 : t.length / 256 ^ 4 = 0 := Nat.div_eq_of_lt (by omega)
    have z3 : t.length / 256 ^ 3 = 0 := Nat.div_eq_of_lt (by omega)
    rw [loF, loF, loF, loF, loF, z7, z6, z5, z4, z3]
    rfl
  rw [← hlit] at hW2
  repeat' (first | refine tr_seq ?_ | refine reg (T := tab) tOk hnt rfl ?_ ?_ | refine regD (T := tab) tOk mixedR hnt rfl (by first | decide +kernel | kernel_rfl) ?_ ?_ | refine tr_block ?_ | refine tr_skip ?_)
  · (dsimp only [AllP]; (repeat' first | exact trivial | assumption | exact Nat.le_of_ble_eq_true rfl | apply And.intro | decide | intro _ | exact rfl))
  by_cases z0 : lf a n = 0
  · have haj : a = (n : Int) := (lf_zero ha1 ha2 (by omega)).1 z0
    rw [dos_no z0] at hS1
    have hres : resT d.l t s0 n a = (trj d.l t s0 n n, false) := by rw [haj]; exact res_at (by omega)
    rw [hres]
    repeat' (first | refine tr_seq ?_ | refine tr_block ?_ | refine tr_skip ?_)
    refine tr_region (lex (T := tab) tOk hnt rfl ?_ (callH (us := []) [(900000, 72)] [] [] rfl rfl rfl rfl (hS1) (by repeat' first | exact .nil | refine .lent rfl rfl rfl ?_ | refine .data rfl ?_) (fun _ => rfl) rfl rfl hnt rfl rfl (by repeat' first | exact trivial | rfl | apply And.intro) (by repeat' first | exact trivial | rfl | apply And.intro) (lex (T := tab) tOk hnt rfl ?_ (skipG (.v (.bool false)) rfl (by simp) rfl rfl hnt (lex (T := tab) tOk hnt rfl ?_ (skipG (.v (.bool false)) rfl (by simp) rfl rfl hnt (lex (T := tab) tOk hnt rfl ?_ (Lex.nil _)))))))) ?_
    · (dsimp only [AllP]; (repeat' first | exact trivial | assumption | exact Nat.le_of_ble_eq_true rfl | apply And.intro | exact eCells_len1 _ _ ‹_› | exact eCells_isByte _ _ ‹_› | (intro hh_; have hg_ := hh_; (try simp only [condT_ff, condF_tt, notE_t, notE_f, Bool.and_eq_true, ne_eq, decide_eq_true_eq, decide_eq_false_iff_not] at hg_)) | intro _ | exact rfl | omega))
      all_goals trace_state
    · (dsimp only [AllP]; (repeat' first | exact trivial | assumption | exact Nat.le_of_ble_eq_true rfl | apply And.intro | exact eCells_len1 _ _ ‹_› | exact eCells_isByte _ _ ‹_› | (intro hh_; have hg_ := hh_; (try simp only [condT_ff, condF_tt, notE_t, notE_f, Bool.and_eq_true, ne_eq, decide_eq_true_eq, decide_eq_false_iff_not] at hg_)) | intro _ | exact rfl | omega))
      all_goals trace_state
    · (dsimp only [AllP]; (repeat' first | exact trivial | assumption | exact Nat.le_of_ble_eq_true rfl | apply And.intro | exact eCells_len1 _ _ ‹_› | exact eCells_isByte _ _ ‹_› | (intro hh_; have hg_ := hh_; (try simp only [condT_ff, condF_tt, notE_t, notE_f, Bool.and_eq_true, ne_eq, decide_eq_true_eq, decide_eq_false_iff_not] at hg_)) | intro _ | exact rfl | omega))
      all_goals trace_state
    · (dsimp only [AllP]; (repeat' first | exact trivial | assumption | exact Nat.le_of_ble_eq_true rfl | apply And.intro | exact eCells_len1 _ _ ‹_› | exact eCells_isByte _ _ ‹_› | (intro hh_; have hg_ := hh_; (try simp only [condT_ff, condF_tt, notE_t, notE_f, Bool.and_eq_true, ne_eq, decide_eq_true_eq, decide_eq_false_iff_not] at hg_)) | intro _ | exact rfl | omega))
      all_goals trace_state
    refine tr_le (s' := St.of [(6, .one (.ptr 6 0 0)), (14, .one (.ptr 72 0 0)), (17, .one (.e (.v (.bool false))))] [(6, ⟨0, .box (.ds [.nil, .nil]), 0⟩), (72, ⟨0, .box (.es (eDo (trj d.l t s0 n n) (lf a n))), 0⟩)]) (le_of (ad := []) (by refine ⟨?_, ?_, ?_, trivial⟩ <;> first | exact trivial | rfl | exact ⟨rfl, rfl⟩ | exact ⟨rfl, rfl, rfl⟩ | exact ⟨rfl, rfl, rfl, rfl⟩ | exact ⟨rfl, rfl, rfl, rfl, rfl⟩ | exact congrArg (fun z : Int => E.v (.int .i64 z)) (wrap64_id (by omega) (by omega)) | exact congrArg (fun z : Int => E.v (.int .u8 z)) (by assumption) | exact congrArg (fun z : ByteArray => E.v (.string z)) (by assumption) | (refine ⟨rfl, ?_⟩; repeat' first | exact trivial | rfl | apply And.intro)) (memOk_box rfl rfl ⟨trivial, trivial, trivial⟩ (memOk_box rfl rfl rfl trivial))) ?_
    repeat' (first | refine tr_seq ?_ | refine reg (T := tab) tOk hnt rfl ?_ ?_ | refine regD (T := tab) tOk mixedR hnt rfl (by first | decide +kernel | kernel_rfl) ?_ ?_ | refine tr_block ?_ | refine tr_skip ?_)
    · (dsimp only [AllP]; (repeat' first | exact trivial | assumption | exact Nat.le_of_ble_eq_true rfl | apply And.intro | decide | intro _ | exact rfl))
    refine tr_ret ⟨.inr rfl, _, _, rfl, by (repeat' first | exact trivial | exact Nat.le_of_ble_eq_true rfl | apply And.intro), ?_⟩
    exact rfl
  rw [dos_go z0, lf_succ] at hS1
  by_cases z1 : lf a (n + 1) = 0
  · have haj : a = ((n + 1 : Nat) : Int) := (lf_zero ha1 ha2 (by omega)).1 z1
    rw [dos_no z1] at hW2
    have hres : resT d.l t s0 n a = (trj d.l t s0 n (n + 1), false) := by rw [haj]; exact res_at (by omega)
    rw [hres]
    repeat' (first | refine tr_seq ?_ | refine tr_block ?_ | refine tr_skip ?_)
    refine tr_region (lex (T := tab) tOk hnt rfl ?_ (callH (us := []) [(900000, 72)] [] [] rfl rfl rfl rfl (hS1) (by repeat' first | exact .nil | refine .lent rfl rfl rfl ?_ | refine .data rfl ?_) (fun _ => rfl) rfl rfl hnt rfl rfl (by repeat' first | exact trivial | rfl | apply And.intro) (by repeat' first | exact trivial | rfl | apply And.intro) (lex (T := tab) tOk hnt rfl ?_ (callHT (us := []) [(900000, 72)] [] [] rfl rfl (by repeat' first | exact trivial | rfl | apply And.intro) rfl rfl (hW2) (by repeat' first | exact .nil | refine .lent rfl rfl rfl ?_ | refine .data rfl ?_) (fun _ => rfl) rfl (by repeat' first | exact trivial | rfl | apply And.intro) rfl hnt rfl rfl (by repeat' first | exact trivial | rfl | apply And.intro) (by repeat' first | exact trivial | rfl | apply And.intro) (lex (T := tab) tOk hnt rfl ?_ (skipG (.v (.bool false)) rfl (by simp) rfl rfl hnt (lex (T := tab) tOk hnt rfl ?_ (Lex.nil _)))))))) ?_
    · (dsimp only [AllP]; (repeat' first | exact trivial | assumption | exact Nat.le_of_ble_eq_true rfl | apply And.intro | exact eCells_len1 _ _ ‹_› | exact eCells_isByte _ _ ‹_› | (intro hh_; have hg_ := hh_; (try simp only [condT_ff, condF_tt, notE_t, notE_f, Bool.and_eq_true, ne_eq, decide_eq_true_eq, decide_eq_false_iff_not] at hg_)) | intro _ | exact rfl | omega))
      all_goals trace_state
    · (dsimp only [AllP]; (repeat' first | exact trivial | assumption | exact Nat.le_of_ble_eq_true rfl | apply And.intro | exact eCells_len1 _ _ ‹_› | exact eCells_isByte _ _ ‹_› | (intro hh_; have hg_ := hh_; (try simp only [condT_ff, condF_tt, notE_t, notE_f, Bool.and_eq_true, ne_eq, decide_eq_true_eq, decide_eq_false_iff_not] at hg_)) | intro _ | exact rfl | omega))
      all_goals trace_state
    · (dsimp only [AllP]; (repeat' first | exact trivial | assumption | exact Nat.le_of_ble_eq_true rfl | apply And.intro | exact eCells_len1 _ _ ‹_› | exact eCells_isByte _ _ ‹_› | (intro hh_; have hg_ := hh_; (try simp only [condT_ff, condF_tt, notE_t, notE_f, Bool.and_eq_true, ne_eq, decide_eq_true_eq, decide_eq_false_iff_not] at hg_)) | intro _ | exact rfl | omega))
      all_goals trace_state
    · (dsimp only [AllP]; (repeat' first | exact trivial | assumption | exact Nat.le_of_ble_eq_true rfl | apply And.intro | exact eCells_len1 _ _ ‹_› | exact eCells_isByte _ _ ‹_› | (intro hh_; have hg_ := hh_; (try simp only [condT_ff, condF_tt, notE_t, notE_f, Bool.and_eq_true, ne_eq, decide_eq_true_eq, decide_eq_false_iff_not] at hg_)) | intro _ | exact rfl | omega))
      all_goals trace_state
    refine tr_le (s' := St.of [(6, .one (.ptr 6 0 0)), (14, .one (.ptr 72 0 0)), (17, .one (.e (.v (.bool false))))] [(6, ⟨0, .box (.ds [.nil, .nil]), 0⟩), (72, ⟨0, .box (.es (eDo (trj d.l t s0 n (n + 1)) (lf a (n + 1)))), 0⟩)]) (le_of (ad := []) (by refine ⟨?_, ?_, ?_, trivial⟩ <;> first | exact trivial | rfl | exact ⟨rfl, rfl⟩ | exact ⟨rfl, rfl, rfl⟩ | exact ⟨rfl, rfl, rfl, rfl⟩ | exact ⟨rfl, rfl, rfl, rfl, rfl⟩ | exact congrArg (fun z : Int => E.v (.int .i64 z)) (wrap64_id (by omega) (by omega)) | exact congrArg (fun z : Int => E.v (.int .u8 z)) (by assumption) | exact congrArg (fun z : ByteArray => E.v (.string z)) (by assumption) | (refine ⟨rfl, ?_⟩; repeat' first | exact trivial | rfl | apply And.intro)) (memOk_box rfl rfl ⟨trivial, trivial, trivial⟩ (memOk_box rfl rfl rfl trivial))) ?_
    repeat' (first | refine tr_seq ?_ | refine reg (T := tab) tOk hnt rfl ?_ ?_ | refine regD (T := tab) tOk mixedR hnt rfl (by first | decide +kernel | kernel_rfl) ?_ ?_ | refine tr_block ?_ | refine tr_skip ?_)
    · (dsimp only [AllP]; (repeat' first | exact trivial | assumption | exact Nat.le_of_ble_eq_true rfl | apply And.intro | decide | intro _ | exact rfl))
    refine tr_ret ⟨.inr rfl, _, _, rfl, by (repeat' first | exact trivial | exact Nat.le_of_ble_eq_true rfl | apply And.intro), ?_⟩
    exact rfl
  rw [dos_go z1, lf_succ] at hW2
  by_cases z2 : lf a (n + 2) = 0
  · have haj : a = ((n + 2 : Nat) : Int) := (lf_zero ha1 ha2 (by omega)).1 z2
    rw [dos_no z2] at hS3
    have hres : resT d.l t s0 n a = (trj d.l t s0 n (n + 2), false) := by rw [haj]; exact res_at (by omega)
    rw [hres]
    repeat' (first | refine tr_seq ?_ | refine tr_block ?_ | refine tr_skip ?_)
    refine tr_region (lex (T := tab) tOk hnt rfl ?_ (callH (us := []) [(900000, 72)] [] [] rfl rfl rfl rfl (hS1) (by repeat' first | exact .nil | refine .lent rfl rfl rfl ?_ | refine .data rfl ?_) (fun _ => rfl) rfl rfl hnt rfl rfl (by repeat' first | exact trivial | rfl | apply And.intro) (by repeat' first | exact trivial | rfl | apply And.intro) (lex (T := tab) tOk hnt rfl ?_ (callHT (us := []) [(900000, 72)] [] [] rfl rfl (by repeat' first | exact trivial | rfl | apply And.intro) rfl rfl (hW2) (by repeat' first | exact .nil | refine .lent rfl rfl rfl ?_ | refine .data rfl ?_) (fun _ => rfl) rfl (by repeat' first | exact trivial | rfl | apply And.intro) rfl hnt rfl rfl (by repeat' first | exact trivial | rfl | apply And.intro) (by repeat' first | exact trivial | rfl | apply And.intro) (lex (T := tab) tOk hnt rfl ?_ (callHT (us := []) [(900000, 72)] [] [] rfl rfl (by repeat' first | exact trivial | rfl | apply And.intro) rfl rfl (hS3) (by repeat' first | exact .nil | refine .lent rfl rfl rfl ?_ | refine .data rfl ?_) (fun _ => rfl) rfl (by repeat' first | exact trivial | rfl | apply And.intro) rfl hnt rfl rfl (by repeat' first | exact trivial | rfl | apply And.intro) (by repeat' first | exact trivial | rfl | apply And.intro) (lex (T := tab) tOk hnt rfl ?_ (Lex.nil _)))))))) ?_
    · (dsimp only [AllP]; (repeat' first | exact trivial | assumption | exact Nat.le_of_ble_eq_true rfl | apply And.intro | exact eCells_len1 _ _ ‹_› | exact eCells_isByte _ _ ‹_› | (intro hh_; have hg_ := hh_; (try simp only [condT_ff, condF_tt, notE_t, notE_f, Bool.and_eq_true, ne_eq, decide_eq_true_eq, decide_eq_false_iff_not] at hg_)) | intro _ | exact rfl | omega))
      all_goals trace_state
    · (dsimp only [AllP]; (repeat' first | exact trivial | assumption | exact Nat.le_of_ble_eq_true rfl | apply And.intro | exact eCells_len1 _ _ ‹_› | exact eCells_isByte _ _ ‹_› | (intro hh_; have hg_ := hh_; (try simp only [condT_ff, condF_tt, notE_t, notE_f, Bool.and_eq_true, ne_eq, decide_eq_true_eq, decide_eq_false_iff_not] at hg_)) | intro _ | exact rfl | omega))
      all_goals trace_state
    · (dsimp only [AllP]; (repeat' first | exact trivial | assumption | exact Nat.le_of_ble_eq_true rfl | apply And.intro | exact eCells_len1 _ _ ‹_› | exact eCells_isByte _ _ ‹_› | (intro hh_; have hg_ := hh_; (try simp only [condT_ff, condF_tt, notE_t, notE_f, Bool.and_eq_true, ne_eq, decide_eq_true_eq, decide_eq_false_iff_not] at hg_)) | intro _ | exact rfl | omega))
      all_goals trace_state
    · (dsimp only [AllP]; (repeat' first | exact trivial | assumption | exact Nat.le_of_ble_eq_true rfl | apply And.intro | exact eCells_len1 _ _ ‹_› | exact eCells_isByte _ _ ‹_› | (intro hh_; have hg_ := hh_; (try simp only [condT_ff, condF_tt, notE_t, notE_f, Bool.and_eq_true, ne_eq, decide_eq_true_eq, decide_eq_false_iff_not] at hg_)) | intro _ | exact rfl | omega))
      all_goals trace_state
    refine tr_le (s' := St.of [(6, .one (.ptr 6 0 0)), (14, .one (.ptr 72 0 0)), (17, .one (.e (.v (.bool false))))] [(6, ⟨0, .box (.ds [.nil, .nil]), 0⟩), (72, ⟨0, .box (.es (eDo (trj d.l t s0 n (n + 2)) (lf a (n + 2)))), 0⟩)]) (le_of (ad := []) (by refine ⟨?_, ?_, ?_, trivial⟩ <;> first | exact trivial | rfl | exact ⟨rfl, rfl⟩ | exact ⟨rfl, rfl, rfl⟩ | exact ⟨rfl, rfl, rfl, rfl⟩ | exact ⟨rfl, rfl, rfl, rfl, rfl⟩ | exact congrArg (fun z : Int => E.v (.int .i64 z)) (wrap64_id (by omega) (by omega)) | exact congrArg (fun z : Int => E.v (.int .u8 z)) (by assumption) | exact congrArg (fun z : ByteArray => E.v (.string z)) (by assumption) | (refine ⟨rfl, ?_⟩; repeat' first | exact trivial | rfl | apply And.intro)) (memOk_box rfl rfl ⟨trivial, trivial, trivial⟩ (memOk_box rfl rfl rfl trivial))) ?_
    repeat' (first | refine tr_seq ?_ | refine reg (T := tab) tOk hnt rfl ?_ ?_ | refine regD (T := tab) tOk mixedR hnt rfl (by first | decide +kernel | kernel_rfl) ?_ ?_ | refine tr_block ?_ | refine tr_skip ?_)
    · (dsimp only [AllP]; (repeat' first | exact trivial | assumption | exact Nat.le_of_ble_eq_true rfl | apply And.intro | decide | intro _ | exact rfl))
    refine tr_ret ⟨.inr rfl, _, _, rfl, by (repeat' first | exact trivial | exact Nat.le_of_ble_eq_true rfl | apply And.intro), ?_⟩
    exact rfl
  rw [dos_go z2, lf_succ] at hS3
  rw [res_all (a := a) fun k hk => by
    by_cases k0 : k < n
    · exact hna k k0
    · rcases (show k = n ∨ k = n + 1 ∨ k = n + 2 by omega) with rfl | rfl | rfl
      · exact fun h => z0 ((lf_zero ha1 ha2 (by omega)).2 h)
      · exact fun h => z1 ((lf_zero ha1 ha2 (by omega)).2 h)
      · exact fun h => z2 ((lf_zero ha1 ha2 (by omega)).2 h)]
  repeat' (first | refine tr_seq ?_ | refine tr_block ?_ | refine tr_skip ?_)
  refine tr_region (lex (T := tab) tOk hnt rfl ?_ (callH (us := []) [(900000, 72)] [] [] rfl rfl rfl rfl (hS1) (by repeat' first | exact .nil | refine .lent rfl rfl rfl ?_ | refine .data rfl ?_) (fun _ => rfl) rfl rfl hnt rfl rfl (by repeat' first | exact trivial | rfl | apply And.intro) (by repeat' first | exact trivial | rfl | apply And.intro) (lex (T := tab) tOk hnt rfl ?_ (callHT (us := []) [(900000, 72)] [] [] rfl rfl (by repeat' first | exact trivial | rfl | apply And.intro) rfl rfl (hW2) (by repeat' first | exact .nil | refine .lent rfl rfl rfl ?_ | refine .data rfl ?_) (fun _ => rfl) rfl (by repeat' first | exact trivial | rfl | apply And.intro) rfl hnt rfl rfl (by repeat' first | exact trivial | rfl | apply And.intro) (by repeat' first | exact trivial | rfl | apply And.intro) (lex (T := tab) tOk hnt rfl ?_ (callHT (us := []) [(900000, 72)] [] [] rfl rfl (by repeat' first | exact trivial | rfl | apply And.intro) rfl rfl (hS3) (by repeat' first | exact .nil | refine .lent rfl rfl rfl ?_ | refine .data rfl ?_) (fun _ => rfl) rfl (by repeat' first | exact trivial | rfl | apply And.intro) rfl hnt rfl rfl (by repeat' first | exact trivial | rfl | apply And.intro) (by repeat' first | exact trivial | rfl | apply And.intro) (lex (T := tab) tOk hnt rfl ?_ (Lex.nil _)))))))) ?_
  · (dsimp only [AllP]; (repeat' first | exact trivial | assumption | exact Nat.le_of_ble_eq_true rfl | apply And.intro | exact eCells_len1 _ _ ‹_› | exact eCells_isByte _ _ ‹_› | (intro hh_; have hg_ := hh_; (try simp only [condT_ff, condF_tt, notE_t, notE_f, Bool.and_eq_true, ne_eq, decide_eq_true_eq, decide_eq_false_iff_not] at hg_)) | intro _ | exact rfl | omega))
    all_goals trace_state
  · (dsimp only [AllP]; (repeat' first | exact trivial | assumption | exact Nat.le_of_ble_eq_true rfl | apply And.intro | exact eCells_len1 _ _ ‹_› | exact eCells_isByte _ _ ‹_› | (intro hh_; have hg_ := hh_; (try simp only [condT_ff, condF_tt, notE_t, notE_f, Bool.and_eq_true, ne_eq, decide_eq_true_eq, decide_eq_false_iff_not] at hg_)) | intro _ | exact rfl | omega))
    all_goals trace_state
  · (dsimp only [AllP]; (repeat' first | exact trivial | assumption | exact Nat.le_of_ble_eq_true rfl | apply And.intro | exact eCells_len1 _ _ ‹_› | exact eCells_isByte _ _ ‹_› | (intro hh_; have hg_ := hh_; (try simp only [condT_ff, condF_tt, notE_t, notE_f, Bool.and_eq_true, ne_eq, decide_eq_true_eq, decide_eq_false_iff_not] at hg_)) | intro _ | exact rfl | omega))
    all_goals trace_state
  · (dsimp only [AllP]; (repeat' first | exact trivial | assumption | exact Nat.le_of_ble_eq_true rfl | apply And.intro | exact eCells_len1 _ _ ‹_› | exact eCells_isByte _ _ ‹_› | (intro hh_; have hg_ := hh_; (try simp only [condT_ff, condF_tt, notE_t, notE_f, Bool.and_eq_true, ne_eq, decide_eq_true_eq, decide_eq_false_iff_not] at hg_)) | intro _ | exact rfl | omega))
    all_goals trace_state
  refine tr_le (s' := St.of [(6, .one (.ptr 6 0 0)), (14, .one (.ptr 72 0 0)), (17, .one (.e (.v (.bool true))))] [(6, ⟨0, .box (.ds [.nil, .nil]), 0⟩), (72, ⟨0, .box (.es (eDo (trj d.l t s0 n (n + 3)) (lf a (n + 3)))), 0⟩)]) (le_of (ad := []) (by refine ⟨?_, ?_, ?_, trivial⟩ <;> first | exact trivial | rfl | exact ⟨rfl, rfl⟩ | exact ⟨rfl, rfl, rfl⟩ | exact ⟨rfl, rfl, rfl, rfl⟩ | exact ⟨rfl, rfl, rfl, rfl, rfl⟩ | exact congrArg (fun z : Int => E.v (.int .i64 z)) (wrap64_id (by omega) (by omega)) | exact congrArg (fun z : Int => E.v (.int .u8 z)) (by assumption) | exact congrArg (fun z : ByteArray => E.v (.string z)) (by assumption) | (refine ⟨rfl, ?_⟩; repeat' first | exact trivial | rfl | apply And.intro)) (memOk_box rfl rfl ⟨trivial, trivial, trivial⟩ (memOk_box rfl rfl rfl trivial))) ?_
  repeat' (first | refine tr_seq ?_ | refine reg (T := tab) tOk hnt rfl ?_ ?_ | refine regD (T := tab) tOk mixedR hnt rfl (by first | decide +kernel | kernel_rfl) ?_ ?_ | refine tr_block ?_ | refine tr_skip ?_)
  · (dsimp only [AllP]; (repeat' first | exact trivial | assumption | exact Nat.le_of_ble_eq_true rfl | apply And.intro | decide | intro _ | exact rfl))
  refine tr_ret ⟨.inr rfl, _, _, rfl, by (repeat' first | exact trivial | exact Nat.le_of_ble_eq_true rfl | apply And.intro), ?_⟩
  exact rfl
end Go.Proofs.Ytphaholcndhonaa
namespace Go.Proofs.Ytphaholcndhonaa
open Go Go.RowKit Go.Proofs.Ytphaholcndhonaa.Ab
set_option linter.unusedSimpArgs false
set_option linter.unusedVariables false

theorem getD_setS (l : List (List UInt8)) (q : Nat) (b : List UInt8) (i : Nat) : (l.set q b).getD i [] = if q = i ∧ i < l.length then b else l.getD i [] := by
  rw [List.getD_eq_getElem?_getD, List.getElem?_set, List.getD_eq_getElem?_getD]
  by_cases h : q = i
  · subst h
    by_cases h2 : q < l.length
    · simp [h2]
    · simp [h2, List.getElem?_eq_none (Nat.le_of_not_lt h2)]
  · simp [h]
theorem ptL_get (l : List (List UInt8)) {i : Nat} (hi : i < l.length) : ∀ (n : Nat) (w : List Dput), w.length = n → (∀ p ∈ w, 0 ≤ p.k) → (ptL l w).getD i [] = rdW (i : Int) (l.getD i []) w
  | 0, w, hn, _ => by rw [List.eq_nil_of_length_eq_zero hn]; rfl
  | n + 1, w, hn, h => by
    obtain ⟨w', p, rfl⟩ : ∃ w' p, w = w' ++ [p] := ⟨w.dropLast, w.getLast (by intro e; rw [e] at hn; cases hn), (List.dropLast_concat_getLast _).symm⟩
    have ih := ptL_get l hi n w' (by rw [List.length_append] at hn; exact Nat.succ.inj hn) fun q hq => h q (List.mem_append_left _ hq)
    have hp := h p (List.mem_append_right _ (List.mem_singleton.2 rfl))
    rw [ptL_snoc, getD_setS, ptL_len, rdW_app, ih]
    by_cases e : p.k = (i : Int)
    · rw [if_pos ⟨by omega, hi⟩, if_pos e]
    · rw [if_neg (fun h => e (by omega)), if_neg e]
theorem ptL_take (l : List (List UInt8)) (w : List Dput) (h : ∀ p ∈ w, 0 ≤ p.k) {i : Nat} (hi : i < l.length) : (ptL l w).take (i + 1) = (ptL l w).take i ++ [rdW (i : Int) (l.getD i []) w] := by
  rw [takeS (l := ptL l w) (d := []) (by rw [ptL_len]; exact hi), ptL_get l hi w.length w rfl h]
def rFl : D := .tup [(true, .ds [.own 3000 0, .nil]), (false, .es [eI 0])]
set_option maxRecDepth 10000 in
set_option maxHeartbeats 2000000 in
theorem Fallen_fn (d : Dsk) (h : d.ok) (hd : dkF d = 0) : FnH Try.prog 39 [] ([]) [.agg (.es (eDsk d)), .one (.e (eI 0)), .one (.e (eBl true))] (rFl) ([(3000, ⟨0, .row 32 (eLs (ptL d.l d.w)), 0⟩)]) := by
  refine fn_introH (T := tab) tOk Try.func39 rfl (by kernel_rfl) (by simp [Try.ntmps39]) rfl rfl ?_
  intro X hX
  have hnt : X.nt = 66 := hX
  clear hX
  have hll : (d.l.map eSec).length = d.l.length := List.length_map ..
  have hwl : (d.w.map ePut).length = d.w.length := List.length_map ..
  have hlx : ((eDsk d).getD (0 + 0) E.dflt).xs.length = d.l.length := hll
  have hwx : ((eDsk d).getD (0 + 1) E.dflt).xs.length = d.w.length := hwl
  have h1 := dFault_fn d h
  rw [hd] at h1
  have hle := dk_le hd
  have hin := dk_in hd
  repeat' (first | refine tr_seq ?_ | refine tr_block ?_ | refine tr_skip ?_)
  first | refine reg (T := tab) tOk hnt rfl ?_ ?_ | refine regD (T := tab) tOk mixedR hnt rfl (by first | decide +kernel | kernel_rfl) ?_ ?_
  · (dsimp only [AllP]; (repeat' first | exact trivial | assumption | exact Nat.le_of_ble_eq_true rfl | apply And.intro | exact eCells_len1 _ _ ‹_› | exact eCells_isByte _ _ ‹_› | (intro hh_; have hg_ := hh_; (try simp only [condT_ff, condF_tt, notE_t, notE_f, Bool.and_eq_true, ne_eq, decide_eq_true_eq, decide_eq_false_iff_not] at hg_)) | intro _ | exact rfl | omega))
  repeat' (first | refine tr_seq ?_ | refine tr_block ?_ | refine tr_skip ?_)
  refine tr_region (lex (T := tab) tOk hnt rfl ?_ (call rfl rfl rfl rfl rfl rfl rfl hnt (h1) (lex (T := tab) tOk hnt rfl ?_ (Lex.nil _)))) ?_
  · (dsimp only [AllP]; (repeat' first | exact trivial | assumption | exact Nat.le_of_ble_eq_true rfl | apply And.intro | exact eCells_len1 _ _ ‹_› | exact eCells_isByte _ _ ‹_› | (intro hh_; have hg_ := hh_; (try simp only [condT_ff, condF_tt, notE_t, notE_f, Bool.and_eq_true, ne_eq, decide_eq_true_eq, decide_eq_false_iff_not] at hg_)) | intro _ | exact rfl | omega))
    all_goals trace_state
  · (dsimp only [AllP]; (repeat' first | exact trivial | assumption | exact Nat.le_of_ble_eq_true rfl | apply And.intro | exact eCells_len1 _ _ ‹_› | exact eCells_isByte _ _ ‹_› | (intro hh_; have hg_ := hh_; (try simp only [condT_ff, condF_tt, notE_t, notE_f, Bool.and_eq_true, ne_eq, decide_eq_true_eq, decide_eq_false_iff_not] at hg_)) | intro _ | exact rfl | omega))
    all_goals trace_state
  repeat' (first | refine tr_seq ?_ | refine reg (T := tab) tOk hnt rfl ?_ ?_ | refine regD (T := tab) tOk mixedR hnt rfl (by first | decide +kernel | kernel_rfl) ?_ ?_ | refine tr_block ?_ | refine tr_skip ?_)
  · (dsimp only [AllP]; (repeat' first | exact trivial | assumption | exact Nat.le_of_ble_eq_true rfl | apply And.intro | decide | intro _ | exact rfl))
  repeat' (first | refine tr_seq ?_ | refine tr_block ?_ | refine tr_skip ?_)
  refine tr_cond rfl (fun hc => ?_) (fun hc => ?_)
  · exact absurd hc (by decide)
  repeat' (first | refine tr_seq ?_ | refine reg (T := tab) tOk hnt rfl ?_ ?_ | refine regD (T := tab) tOk mixedR hnt rfl (by first | decide +kernel | kernel_rfl) ?_ ?_ | refine tr_block ?_ | refine tr_skip ?_)
  · (dsimp only [AllP]; (repeat' first | exact trivial | assumption | exact Nat.le_of_ble_eq_true rfl | apply And.intro | decide | intro _ | exact rfl))
  · (dsimp only [AllP]; (repeat' first | exact trivial | assumption | exact Nat.le_of_ble_eq_true rfl | apply And.intro | decide | intro _ | exact rfl))
  repeat' (first | refine tr_seq ?_ | refine tr_block ?_ | refine tr_skip ?_)
  refine tr_loop (σ := Nat) (fun i => St.of [(1, .one (.e (eI 0))), (2, .one (.e (eBl true))), (3, .one (.ptr 3 0 0)), (6, .one (.ptr 6 0 0)), (9, .one (.ptr 9 0 0)), (22, .one (.e (.sl (d.l.map eSec)))), (23, .one (.e (eI ((d.l.map eSec).length : Int)))), (24, .one (.e (eI (i : Int))))] [(3, ⟨0, .box (.es (eDsk d)), 0⟩), (6, ⟨0, .box (.ds [.nil, .nil]), 0⟩), (9, ⟨0, .box (.ds [.own 3000 0, .nil]), 0⟩), (3000, ⟨0, .row 32 (eLs ((ptL d.l d.w).take i)), 0⟩)]) (fun i => i ≤ d.l.length) (fun i => d.l.length - i) (0) (le_of (ad := [3000]) (by refine ⟨?_, ?_, ?_, ?_, ?_, ?_, ?_, ?_, trivial⟩ <;> first | exact trivial | rfl | exact ⟨rfl, rfl⟩ | exact ⟨rfl, rfl, rfl⟩ | exact ⟨rfl, rfl, rfl, rfl⟩ | exact ⟨rfl, rfl, rfl, rfl, rfl⟩ | exact congrArg (fun z : Int => E.v (.int .i64 z)) (wrap64_id (by omega) (by omega)) | exact congrArg (fun z : Int => E.v (.int .u8 z)) (by assumption) | exact congrArg (fun z : ByteArray => E.v (.string z)) (by assumption) | (refine ⟨rfl, ?_⟩; repeat' first | exact trivial | rfl | apply And.intro)) (memOk_box rfl rfl rfl (memOk_box rfl rfl ⟨trivial, trivial, trivial⟩ (memOk_box rfl rfl ⟨⟨rfl, rfl⟩, trivial, trivial⟩ (memOk_new rfl (by decide) trivial))))) (Nat.zero_le _) ?_
  · rintro i il
    repeat' (first | refine tr_seq ?_ | refine reg (T := tab) tOk hnt rfl ?_ ?_ | refine regD (T := tab) tOk mixedR hnt rfl (by first | decide +kernel | kernel_rfl) ?_ ?_ | refine tr_block ?_ | refine tr_skip ?_)
    · (dsimp only [AllP]; (repeat' first | exact trivial | assumption | exact Nat.le_of_ble_eq_true rfl | apply And.intro | decide | intro _ | exact rfl))
    repeat' (first | refine tr_seq ?_ | refine tr_block ?_ | refine tr_skip ?_)
    refine tr_cond rfl (fun hc => ?_) (fun hc => ?_)
    · simp only [condT_tt, condT_ff, condF_tt, condF_ff, notE_t, notE_f, decide_eq_true_eq, decide_eq_false_iff_not] at hc
      (try simp only [hll] at hc)
      (try simp only [condT_tt, condT_ff, condF_tt, condF_ff, notE_t, notE_f, decide_eq_true_eq, decide_eq_false_iff_not] at hc)
      have hlt : i < d.l.length := by omega
      have hg := secGet d.l i hlt
      have hs32 : (d.l.getD i []).length = 32 := h.l _ (memD hlt)
      have htk := ptL_take d.l d.w (fun p hp => (hin p hp).1) hlt
      generalize d.l.getD i [] = s at *
      have h32s : (eSec s).length = 32 := eSec_len hs32
      have hts := take_all h32s
      have hf32 : 0 + 32 ≤ (Cs.es (eSec s)).len := by show _ ≤ (eSec s).length; omega
      repeat' (first | refine tr_seq ?_ | refine tr_block ?_ | refine tr_skip ?_)
      first | refine reg (T := tab) tOk hnt rfl ?_ ?_ | refine regD (T := tab) tOk mixedR hnt rfl (by first | decide +kernel | kernel_rfl) ?_ ?_
      · rw [Int.toNat_natCast, hg]
        (dsimp only [AllP]; (repeat' first | exact trivial | assumption | exact Nat.le_of_ble_eq_true rfl | apply And.intro | exact eCells_len1 _ _ ‹_› | exact eCells_isByte _ _ ‹_› | (intro hh_; have hg_ := hh_; (try simp only [condT_ff, condF_tt, notE_t, notE_f, Bool.and_eq_true, ne_eq, decide_eq_true_eq, decide_eq_false_iff_not] at hg_)) | intro _ | exact rfl | omega))
        all_goals trace_state
      rw [Int.toNat_natCast, hg]
      repeat' (first | refine tr_seq ?_ | refine tr_block ?_ | refine tr_skip ?_)
      first | refine reg (T := tab) tOk hnt rfl ?_ ?_ | refine regD (T := tab) tOk mixedR hnt rfl (by first | decide +kernel | kernel_rfl) ?_ ?_
      · (dsimp only [AllP]; (repeat' first | exact trivial | assumption | exact Nat.le_of_ble_eq_true rfl | apply And.intro | exact eCells_len1 _ _ ‹_› | exact eCells_isByte _ _ ‹_› | (intro hh_; have hg_ := hh_; (try simp only [condT_ff, condF_tt, notE_t, notE_f, Bool.and_eq_true, ne_eq, decide_eq_true_eq, decide_eq_false_iff_not] at hg_)) | intro _ | exact rfl | omega))
        all_goals trace_state
      repeat' (first | refine tr_seq ?_ | refine tr_block ?_ | refine tr_skip ?_)
      refine tr_loop (σ := Nat) (fun k => St.of [(1, .one (.e (eI 0))), (2, .one (.e (eBl true))), (3, .one (.ptr 3 0 0)), (6, .one (.ptr 6 0 0)), (9, .one (.ptr 9 0 0)), (10, .one (.e (eI (i : Int)))), (11, .one (.ptr 11 0 0)), (22, .one (.e (.sl (d.l.map eSec)))), (23, .one (.e (eI ((d.l.map eSec).length : Int)))), (24, .one (.e (eI (i : Int)))), (30, .one (.e (.sl (d.w.map ePut)))), (31, .one (.e (eI ((d.w.map ePut).length : Int)))), (32, .one (.e (eI (k : Int))))] [(3, ⟨0, .box (.es (eDsk d)), 0⟩), (6, ⟨0, .box (.ds [.nil, .nil]), 0⟩), (9, ⟨0, .box (.ds [.own 3000 0, .nil]), 0⟩), (11, ⟨0, .box (.es (eSec (rdW (i : Int) s (d.w.take k)))), 0⟩), (3000, ⟨0, .row 32 (eLs ((ptL d.l d.w).take i)), 0⟩)]) (fun k => k ≤ d.w.length) (fun k => d.w.length - k) (0) (le_of (ad := []) (by refine ⟨?_, ?_, ?_, ?_, ?_, ?_, ?_, ?_, ?_, ?_, ?_, ?_, ?_, trivial⟩ <;> first | exact trivial | rfl | exact ⟨rfl, rfl⟩ | exact ⟨rfl, rfl, rfl⟩ | exact ⟨rfl, rfl, rfl, rfl⟩ | exact ⟨rfl, rfl, rfl, rfl, rfl⟩ | exact congrArg (fun z : Int => E.v (.int .i64 z)) (wrap64_id (by omega) (by omega)) | exact congrArg (fun z : Int => E.v (.int .u8 z)) (by assumption) | exact congrArg (fun z : ByteArray => E.v (.string z)) (by assumption) | (refine ⟨rfl, ?_⟩; repeat' first | exact trivial | rfl | apply And.intro)) (memOk_box rfl rfl rfl (memOk_box rfl rfl ⟨trivial, trivial, trivial⟩ (memOk_box rfl rfl ⟨⟨rfl, rfl, rfl, rfl⟩, trivial, trivial⟩ (memOk_box rfl rfl (bxC h32s rfl) (memOk_row rfl rfl rfl trivial)))))) (Nat.zero_le _) ?_
      · rintro k kl
        repeat' (first | refine tr_seq ?_ | refine reg (T := tab) tOk hnt rfl ?_ ?_ | refine regD (T := tab) tOk mixedR hnt rfl (by first | decide +kernel | kernel_rfl) ?_ ?_ | refine tr_block ?_ | refine tr_skip ?_)
        · (dsimp only [AllP]; (repeat' first | exact trivial | assumption | exact Nat.le_of_ble_eq_true rfl | apply And.intro | decide | intro _ | exact rfl))
        repeat' (first | refine tr_seq ?_ | refine tr_block ?_ | refine tr_skip ?_)
        refine tr_cond rfl (fun hc => ?_) (fun hc => ?_)
        · simp only [condT_tt, condT_ff, condF_tt, condF_ff, notE_t, notE_f, decide_eq_true_eq, decide_eq_false_iff_not] at hc
          (try simp only [hwl] at hc)
          (try simp only [condT_tt, condT_ff, condF_tt, condF_ff, notE_t, notE_f, decide_eq_true_eq, decide_eq_false_iff_not] at hc)
          have hlk : k < d.w.length := by omega
          have hgw := putGet d.w k hlk
          have hp32 : (d.w.getD k dp0).b.length = 32 := h.w _ (memD hlk)
          have hsn : rdW (i : Int) s (d.w.take (k + 1)) = if (d.w.getD k dp0).k = (i : Int) then (d.w.getD k dp0).b else rdW (i : Int) s (d.w.take k) := by rw [takeS (d := dp0) hlk, rdW_app]
          have hb32 := rdW_len (i : Int) (d.w.take k) s hs32 fun p hp => h.w p (List.mem_of_mem_take hp)
          generalize d.w.getD k dp0 = p at *
          generalize rdW (i : Int) s (d.w.take k) = b at *
          have h33 := ePut_len hp32
          have hts2 := take_all h33
          have h33b : 0 + 33 ≤ (Cs.es (ePut p)).len := by show 0 + 33 ≤ (ePut p).length; omega
          repeat' (first | refine tr_seq ?_ | refine tr_block ?_ | refine tr_skip ?_)
          first | refine reg (T := tab) tOk hnt rfl ?_ ?_ | refine regD (T := tab) tOk mixedR hnt rfl (by first | decide +kernel | kernel_rfl) ?_ ?_
          · rw [Int.toNat_natCast, hgw]
            (dsimp only [AllP]; (repeat' first | exact trivial | assumption | exact Nat.le_of_ble_eq_true rfl | apply And.intro | exact eCells_len1 _ _ ‹_› | exact eCells_isByte _ _ ‹_› | (intro hh_; have hg_ := hh_; (try simp only [condT_ff, condF_tt, notE_t, notE_f, Bool.and_eq_true, ne_eq, decide_eq_true_eq, decide_eq_false_iff_not] at hg_)) | intro _ | exact rfl | omega))
            all_goals trace_state
          rw [Int.toNat_natCast, hgw]
          refine tr_le (s' := St.of [(1, .one (.e (eI 0))), (2, .one (.e (eBl true))), (3, .one (.ptr 3 0 0)), (6, .one (.ptr 6 0 0)), (9, .one (.ptr 9 0 0)), (10, .one (.e (eI (i : Int)))), (11, .one (.ptr 11 0 0)), (12, .one (.e (eI (k : Int)))), (13, .one (.ptr 13 0 0)), (22, .one (.e (.sl (d.l.map eSec)))), (23, .one (.e (eI ((d.l.map eSec).length : Int)))), (24, .one (.e (eI (i : Int)))), (30, .one (.e (.sl (d.w.map ePut)))), (31, .one (.e (eI ((d.w.map ePut).length : Int)))), (32, .one (.e (eI (k : Int))))] [(3, ⟨0, .box (.es (eDsk d)), 0⟩), (6, ⟨0, .box (.ds [.nil, .nil]), 0⟩), (9, ⟨0, .box (.ds [.own 3000 0, .nil]), 0⟩), (11, ⟨0, .box (.es (eSec b)), 0⟩), (13, ⟨0, .box (.es (ePut p)), 0⟩), (3000, ⟨0, .row 32 (eLs ((ptL d.l d.w).take i)), 0⟩)]) (le_of (ad := []) (by refine ⟨?_, ?_, ?_, ?_, ?_, ?_, ?_, ?_, ?_, ?_, ?_, ?_, ?_, ?_, ?_, trivial⟩ <;> first | exact trivial | rfl | exact ⟨rfl, rfl⟩ | exact ⟨rfl, rfl, rfl⟩ | exact ⟨rfl, rfl, rfl, rfl⟩ | exact ⟨rfl, rfl, rfl, rfl, rfl⟩ | exact congrArg (fun z : Int => E.v (.int .i64 z)) (wrap64_id (by omega) (by omega)) | exact congrArg (fun z : Int => E.v (.int .u8 z)) (by assumption) | exact congrArg (fun z : ByteArray => E.v (.string z)) (by assumption) | (refine ⟨rfl, ?_⟩; repeat' first | exact trivial | rfl | apply And.intro)) (memOk_box rfl rfl rfl (memOk_box rfl rfl ⟨trivial, trivial, trivial⟩ (memOk_box rfl rfl ⟨⟨rfl, rfl, rfl, rfl⟩, trivial, trivial⟩ (memOk_box rfl rfl rfl (memOk_box rfl rfl (bxC h33 rfl) (memOk_row rfl rfl rfl trivial))))))) ?_
          have hpk0 : ((ePut p).getD (0 + 0) E.dflt).int = p.k := rfl
          have hpb : List.take 32 (List.drop (0 + 1) (ePut p)) = eSec p.b := ptB p hp32
          have hp32' : (eSec p.b).length = 32 := eSec_len hp32
          have hb32' : (eSec b).length = 32 := eSec_len hb32
          have hf32 : (List.take 32 (List.drop (0 + 1) (ePut p))).length = 32 := by rw [hpb]; exact hp32'
          have h1l : 0 + 1 + 32 ≤ (Cs.es (ePut p)).len := by show 0 + 1 + 32 ≤ (ePut p).length; omega
          have hbl : 0 + 32 ≤ (Cs.es (eSec b)).len := by show 0 + 32 ≤ (eSec b).length; omega
          repeat' (first | refine tr_seq ?_ | refine tr_block ?_ | refine tr_skip ?_)
          first | refine reg (T := tab) tOk hnt rfl ?_ ?_ | refine regD (T := tab) tOk mixedR hnt rfl (by first | decide +kernel | kernel_rfl) ?_ ?_
          · (dsimp only [AllP]; (repeat' first | exact trivial | assumption | exact Nat.le_of_ble_eq_true rfl | apply And.intro | exact eCells_len1 _ _ ‹_› | exact eCells_isByte _ _ ‹_› | (intro hh_; have hg_ := hh_; (try simp only [condT_ff, condF_tt, notE_t, notE_f, Bool.and_eq_true, ne_eq, decide_eq_true_eq, decide_eq_false_iff_not] at hg_)) | intro _ | exact rfl | omega))
            all_goals trace_state
          have hkeep : IntKind.i64.wrap ((k : Int) + 1) = ((k + 1 : Nat) : Int) := wrap64_id (by omega) (by omega)
          repeat' (first | refine tr_seq ?_ | refine tr_block ?_ | refine tr_skip ?_)
          refine tr_cond rfl (fun hc => ?_) (fun hc => ?_)
          · have hpi : p.k = (i : Int) := by
              by_cases e : p.k = (i : Int)
              · exact e
              · exfalso
                rw [hpk0, decide_eq_false e] at hc
                exact absurd hc (by simp)
            rw [if_pos hpi] at hsn
            repeat' (first | refine tr_seq ?_ | refine tr_block ?_ | refine tr_skip ?_)
            first | refine reg (T := tab) tOk hnt rfl ?_ ?_ | refine regD (T := tab) tOk mixedR hnt rfl (by first | decide +kernel | kernel_rfl) ?_ ?_
            · (dsimp only [AllP]; (repeat' first | exact trivial | assumption | exact Nat.le_of_ble_eq_true rfl | apply And.intro | exact eCells_len1 _ _ ‹_› | exact eCells_isByte _ _ ‹_› | (intro hh_; have hg_ := hh_; (try simp only [condT_ff, condF_tt, notE_t, notE_f, Bool.and_eq_true, ne_eq, decide_eq_true_eq, decide_eq_false_iff_not] at hg_)) | intro _ | exact rfl | omega))
              all_goals trace_state
            repeat' (first | refine tr_seq ?_ | refine reg (T := tab) tOk hnt rfl ?_ ?_ | refine regD (T := tab) tOk mixedR hnt rfl (by first | decide +kernel | kernel_rfl) ?_ ?_ | refine tr_block ?_ | refine tr_skip ?_)
            · (dsimp only [AllP]; (repeat' first | exact trivial | assumption | exact Nat.le_of_ble_eq_true rfl | apply And.intro | decide | intro _ | exact rfl))
            rw [hkeep]
            refine ⟨k + 1, (by omega), by omega, le_of (ad := []) (by refine ⟨?_, ?_, ?_, ?_, ?_, ?_, ?_, ?_, ?_, ?_, ?_, ?_, ?_, trivial⟩ <;> first | exact trivial | rfl | exact ⟨rfl, rfl⟩ | exact ⟨rfl, rfl, rfl⟩ | exact ⟨rfl, rfl, rfl, rfl⟩ | exact ⟨rfl, rfl, rfl, rfl, rfl⟩ | exact congrArg (fun z : Int => E.v (.int .i64 z)) (wrap64_id (by omega) (by omega)) | exact congrArg (fun z : Int => E.v (.int .u8 z)) (by assumption) | exact congrArg (fun z : ByteArray => E.v (.string z)) (by assumption) | (refine ⟨rfl, ?_⟩; repeat' first | exact trivial | rfl | apply And.intro)) (memOk_box rfl rfl rfl (memOk_box rfl rfl ⟨trivial, trivial, trivial⟩ (memOk_box rfl rfl ⟨⟨rfl, rfl, rfl, rfl⟩, trivial, trivial⟩ (memOk_box rfl rfl (by rw [hsn, ← hpb]; exact bxA hf32 hb32') (memOk_row rfl rfl rfl trivial)))))⟩
          have hpi : ¬ p.k = (i : Int) := fun e => by
            rw [hpk0, decide_eq_true e] at hc
            exact absurd hc (by simp)
          rw [if_neg hpi] at hsn
          repeat' (first | refine tr_seq ?_ | refine reg (T := tab) tOk hnt rfl ?_ ?_ | refine regD (T := tab) tOk mixedR hnt rfl (by first | decide +kernel | kernel_rfl) ?_ ?_ | refine tr_block ?_ | refine tr_skip ?_)
          · (dsimp only [AllP]; (repeat' first | exact trivial | assumption | exact Nat.le_of_ble_eq_true rfl | apply And.intro | decide | intro _ | exact rfl))
          rw [hkeep]
          refine ⟨k + 1, (by omega), by omega, le_of (ad := []) (by refine ⟨?_, ?_, ?_, ?_, ?_, ?_, ?_, ?_, ?_, ?_, ?_, ?_, ?_, trivial⟩ <;> first | exact trivial | rfl | exact ⟨rfl, rfl⟩ | exact ⟨rfl, rfl, rfl⟩ | exact ⟨rfl, rfl, rfl, rfl⟩ | exact ⟨rfl, rfl, rfl, rfl, rfl⟩ | exact congrArg (fun z : Int => E.v (.int .i64 z)) (wrap64_id (by omega) (by omega)) | exact congrArg (fun z : Int => E.v (.int .u8 z)) (by assumption) | exact congrArg (fun z : ByteArray => E.v (.string z)) (by assumption) | (refine ⟨rfl, ?_⟩; repeat' first | exact trivial | rfl | apply And.intro)) (memOk_box rfl rfl rfl (memOk_box rfl rfl ⟨trivial, trivial, trivial⟩ (memOk_box rfl rfl ⟨⟨rfl, rfl, rfl, rfl⟩, trivial, trivial⟩ (memOk_box rfl rfl (congrArg eSec hsn.symm) (memOk_row rfl rfl rfl trivial)))))⟩
        simp only [condT_tt, condT_ff, condF_tt, condF_ff, notE_t, notE_f, decide_eq_true_eq, decide_eq_false_iff_not] at hc
        (try simp only [hwl] at hc)
        (try simp only [condT_tt, condT_ff, condF_tt, condF_ff, notE_t, notE_f, decide_eq_true_eq, decide_eq_false_iff_not] at hc)
        refine tr_exit ?_
        obtain rfl : k = d.w.length := by omega
        rw [List.take_length]
        have hb32 := rdW_len (i : Int) d.w s hs32 h.w
        generalize rdW (i : Int) s d.w = b at *
        have hb32' : (eSec b).length = 32 := eSec_len hb32
        have hbl : 0 + 32 ≤ (Cs.es (eSec b)).len := by show 0 + 32 ≤ (eSec b).length; omega
        have hts3 := take_all hb32'
        have htl : (eLs ((ptL d.l d.w).take i)).length ≤ 400 := by unfold eLs; rw [List.length_map, List.length_take, ptL_len]; omega
        have hsec : List.take 32 (List.drop 0 (eSec b)) = eSec b := List.take_of_length_le (Nat.le_of_eq hb32')
        repeat' (first | refine tr_seq ?_ | refine tr_block ?_ | refine tr_skip ?_)
        first | refine reg (T := tab) tOk hnt rfl ?_ ?_ | refine regD (T := tab) tOk mixedR hnt rfl (by first | decide +kernel | kernel_rfl) ?_ ?_
        · (dsimp only [AllP]; (repeat' first | exact trivial | assumption | exact Nat.le_of_ble_eq_true rfl | apply And.intro | exact eCells_len1 _ _ ‹_› | exact eCells_isByte _ _ ‹_› | (intro hh_; have hg_ := hh_; (try simp only [condT_ff, condF_tt, notE_t, notE_f, Bool.and_eq_true, ne_eq, decide_eq_true_eq, decide_eq_false_iff_not] at hg_)) | intro _ | exact rfl | omega | exact Nat.le_trans (Nat.add_le_add_right htl 1) (by decide) | exact Nat.le_trans (Nat.mul_le_mul_right _ (Nat.add_le_add_right htl 1)) (by decide) | exact Nat.le_trans (Nat.add_le_add_left htl 0) (by decide) | exact Nat.le_trans (Nat.mul_le_mul_right _ (Nat.add_le_add_left htl 0)) (by decide)))
          all_goals trace_state
        repeat' (first | refine tr_seq ?_ | refine reg (T := tab) tOk hnt rfl ?_ ?_ | refine regD (T := tab) tOk mixedR hnt rfl (by first | decide +kernel | kernel_rfl) ?_ ?_ | refine tr_block ?_ | refine tr_skip ?_)
        · (dsimp only [AllP]; (repeat' first | exact trivial | assumption | exact Nat.le_of_ble_eq_true rfl | apply And.intro | decide | intro _ | exact rfl))
        rw [show IntKind.i64.wrap ((i : Int) + 1) = ((i + 1 : Nat) : Int) from wrap64_id (by omega) (by omega)]
        refine ⟨i + 1, (by omega), by omega, le_of (ad := []) (by refine ⟨?_, ?_, ?_, ?_, ?_, ?_, ?_, ?_, trivial⟩ <;> first | exact trivial | rfl | exact ⟨rfl, rfl⟩ | exact ⟨rfl, rfl, rfl⟩ | exact ⟨rfl, rfl, rfl, rfl⟩ | exact ⟨rfl, rfl, rfl, rfl, rfl⟩ | exact congrArg (fun z : Int => E.v (.int .i64 z)) (wrap64_id (by omega) (by omega)) | exact congrArg (fun z : Int => E.v (.int .u8 z)) (by assumption) | exact congrArg (fun z : ByteArray => E.v (.string z)) (by assumption) | (refine ⟨rfl, ?_⟩; repeat' first | exact trivial | rfl | apply And.intro)) (memOk_box rfl rfl rfl (memOk_box rfl rfl ⟨trivial, trivial, trivial⟩ (memOk_box rfl rfl ⟨⟨rfl, rfl, rfl, rfl⟩, trivial, trivial⟩ (memOk_row rfl rfl (by rw [htk, hsec]; unfold eLs; rw [List.map_append]; rfl) trivial))))⟩
    simp only [condT_tt, condT_ff, condF_tt, condF_ff, notE_t, notE_f, decide_eq_true_eq, decide_eq_false_iff_not] at hc
    (try simp only [hll] at hc)
    (try simp only [condT_tt, condT_ff, condF_tt, condF_ff, notE_t, notE_f, decide_eq_true_eq, decide_eq_false_iff_not] at hc)
    refine tr_exit ?_
    obtain rfl : i = d.l.length := by omega
    rw [show (ptL d.l d.w).take d.l.length = ptL d.l d.w by rw [← ptL_len d.w d.l, List.take_length]]
    repeat' (first | refine tr_seq ?_ | refine reg (T := tab) tOk hnt rfl ?_ ?_ | refine regD (T := tab) tOk mixedR hnt rfl (by first | decide +kernel | kernel_rfl) ?_ ?_ | refine tr_block ?_ | refine tr_skip ?_)
    · (dsimp only [AllP]; (repeat' first | exact trivial | assumption | exact Nat.le_of_ble_eq_true rfl | apply And.intro | decide | intro _ | exact rfl))
    exact tr_ret ⟨.inr rfl, _, _, _, rfl, by (repeat' first | exact trivial | exact Nat.le_of_ble_eq_true rfl | apply And.intro), rfl, fun X => le_of (ad := []) ⟨⟨⟨rfl, ⟨rfl, rfl, rfl, rfl⟩, trivial, trivial⟩, ⟨rfl, rfl⟩, trivial⟩, trivial⟩ (memOk_row rfl rfl rfl trivial)⟩
end Go.Proofs.Ytphaholcndhonaa
namespace Go.Proofs.Ytphaholcndhonaa
open Go Go.RowKit Go.Proofs.Ytphaholcndhonaa.Ab
set_option linter.unusedSimpArgs false
set_option linter.unusedVariables false

def putZ (k : Int) : List E := eI k :: List.replicate 32 (eB 0)
/-- bytes of a text, laid on a put's sector -/
theorem cp_put {b : List UInt8} (k : Int) (n : Nat) (hn : n = min 32 b.length) (Z : List E) (hZ : Z = putZ k) : List.take (0 + 1 + 0 * 1) Z ++ ((eCells b).take n).flatten ++ List.drop (0 + 1 + 0 * 1 + n * 1) Z = ePut ⟨k, padF (b.take 32)⟩ := by
  subst hZ
  subst hn
  have e1 : (eCells b).take (min 32 b.length) = eCells (b.take 32) := by
    unfold eCells
    rw [List.map_take]
    rcases Nat.lt_or_ge b.length 32 with h | h
    · rw [Nat.min_eq_right (by omega), List.take_of_length_le (by rw [List.length_map]; omega), List.take_of_length_le (by rw [List.length_map]; omega)]
    · rw [Nat.min_eq_left h]
  rw [e1, flatC]
  unfold putZ ePut padF eSec
  rw [show 0 + 1 + 0 * 1 = 1 from rfl, Nat.mul_one, Nat.add_comm 1, List.drop_succ_cons, List.drop_replicate, List.map_append, List.map_replicate, List.length_take]
  rfl
def aftN (a : Int) (n : Nat) : Nat := if a < 0 ∨ ((n + 3 : Nat) : Int) < a then n + 3 else a.toNat
theorem res_aft (L : List (List UInt8)) (t : List UInt8) (s0 n : Nat) (a : Int) : resT L t s0 n a = (trj L t s0 n (aftN a n), decide (((aftN a n : Nat) : Int) = ((n + 3 : Nat) : Int))) := by
  unfold resT aftN
  by_cases h : 0 ≤ a ∧ a < ((n + 3 : Nat) : Int)
  · rw [if_pos h, if_neg (by omega), decide_eq_false (by omega)]
  · rw [if_neg h]
    by_cases h2 : a < 0 ∨ ((n + 3 : Nat) : Int) < a
    · rw [if_pos h2, decide_eq_true rfl]
    · rw [if_neg h2, show a.toNat = n + 3 by omega, decide_eq_true rfl]
theorem aftN_le (a : Int) (n : Nat) : aftN a n ≤ n + 3 := by
  unfold aftN
  split <;> omega
theorem ptS_get (t : List UInt8) (s0 n : Nat) {i : Nat} (h : i < n) : (ptS t s0 n).getD i dp0 = ⟨((s0 + i + 1 : Nat) : Int), blkF t (s0 + i)⟩ := by
  unfold ptS
  rw [List.getD_eq_getElem?_getD, List.getElem?_map, List.getElem?_range h]
  rfl
set_option maxRecDepth 10000 in
set_option maxHeartbeats 2000000 in
theorem Appended_fn (d : Dsk) (h : d.ok) (r : List UInt8) (a : Int) (ha1 : -9223372036854775808 ≤ a) (ha2 : a ≤ 9223372036854775807) : FnD Try.prog 19 [.agg (.es (eDsk d)), .one (.e (eBytes r)), .one (.e (eI a))] (rAp (apF d r a)) := by
  refine fn_intro (T := tab) tOk Try.func19 rfl (by kernel_rfl) (by simp [Try.ntmps19]) ?_
  intro X hX
  have hnt : X.nt = 148 := hX
  clear hX
  have hll : (d.l.map eSec).length = d.l.length := List.length_map ..
  have hwl : (d.w.map ePut).length = d.w.length := List.length_map ..
  have h32 : ∀ cs ∈ d.l.map eSec, cs.length = 32 := fun cs hc => by obtain ⟨s, hs, rfl⟩ := List.mem_map.1 hc; exact eSec_len (h.l s hs)
  have hlx : ((eDsk d).getD (0 + 0) E.dflt).xs.length = d.l.length := hll
  have hwx : ((eDsk d).getD (0 + 1) E.dflt).xs.length = d.w.length := hwl
  have hrl : (eCells r).length = r.length := eCells_length r
  have h1 := RecordsOf_fn d h
  have h2 := tapeText_fn d h
  rw [← gd_tx h] at h2
  have hgl := gd_len h
  repeat' (first | refine tr_seq ?_ | refine tr_block ?_ | refine tr_skip ?_)
  first | refine reg (T := tab) tOk hnt rfl ?_ ?_ | refine regD (T := tab) tOk mixedR hnt rfl (by first | decide +kernel | kernel_rfl) ?_ ?_
  · (dsimp only [AllP]; (repeat' first | exact trivial | assumption | exact Nat.le_of_ble_eq_true rfl | apply And.intro | exact eCells_len1 _ _ ‹_› | exact eCells_isByte _ _ ‹_› | (intro hh_; have hg_ := hh_; (try simp only [condT_ff, condF_tt, notE_t, notE_f, Bool.and_eq_true, ne_eq, decide_eq_true_eq, decide_eq_false_iff_not] at hg_)) | intro _ | exact rfl | omega))
  repeat' (first | refine tr_seq ?_ | refine tr_block ?_ | refine tr_skip ?_)
  refine tr_region (lex (T := tab) tOk hnt rfl ?_ (call rfl rfl rfl rfl rfl rfl rfl hnt (h1) (lex (T := tab) tOk hnt rfl ?_ (Lex.nil _)))) ?_
  · (dsimp only [AllP]; (repeat' first | exact trivial | assumption | exact Nat.le_of_ble_eq_true rfl | apply And.intro | exact eCells_len1 _ _ ‹_› | exact eCells_isByte _ _ ‹_› | (intro hh_; have hg_ := hh_; (try simp only [condT_ff, condF_tt, notE_t, notE_f, Bool.and_eq_true, ne_eq, decide_eq_true_eq, decide_eq_false_iff_not] at hg_)) | intro _ | exact rfl | omega))
    all_goals trace_state
  · (dsimp only [AllP]; (repeat' first | exact trivial | assumption | exact Nat.le_of_ble_eq_true rfl | apply And.intro | exact eCells_len1 _ _ ‹_› | exact eCells_isByte _ _ ‹_› | (intro hh_; have hg_ := hh_; (try simp only [condT_ff, condF_tt, notE_t, notE_f, Bool.and_eq_true, ne_eq, decide_eq_true_eq, decide_eq_false_iff_not] at hg_)) | intro _ | exact rfl | omega))
    all_goals trace_state
  repeat' (first | refine tr_seq ?_ | refine reg (T := tab) tOk hnt rfl ?_ ?_ | refine regD (T := tab) tOk mixedR hnt rfl (by first | decide +kernel | kernel_rfl) ?_ ?_ | refine tr_block ?_ | refine tr_skip ?_)
  · (dsimp only [AllP]; (repeat' first | exact trivial | assumption | exact Nat.le_of_ble_eq_true rfl | apply And.intro | decide | intro _ | exact rfl))
  repeat' (first | refine tr_seq ?_ | refine tr_block ?_ | refine tr_skip ?_)
  refine tr_cond rfl (fun hc => ?_) (fun hc => ?_)
  · simp only [condT_tt, condT_ff, condF_tt, condF_ff, notE_t, notE_f, decide_eq_true_eq, decide_eq_false_iff_not] at hc
    have hc : (opR d).2 ≠ 0 := hc
    rw [ap1 r a hc]
    repeat' (first | refine tr_seq ?_ | refine reg (T := tab) tOk hnt rfl ?_ ?_ | refine regD (T := tab) tOk mixedR hnt rfl (by first | decide +kernel | kernel_rfl) ?_ ?_ | refine tr_block ?_ | refine tr_skip ?_)
    · (dsimp only [AllP]; (repeat' first | exact trivial | assumption | exact Nat.le_of_ble_eq_true rfl | apply And.intro | decide | intro _ | exact rfl))
    refine tr_ret ⟨.inr rfl, _, _, rfl, by (repeat' first | exact trivial | exact Nat.le_of_ble_eq_true rfl | apply And.intro), ?_⟩
    exact rfl
  simp only [condT_tt, condT_ff, condF_tt, condF_ff, notE_t, notE_f, decide_eq_true_eq, decide_eq_false_iff_not] at hc
  have ho : (opR d).2 = 0 := hc
  repeat' (first | refine tr_seq ?_ | refine reg (T := tab) tOk hnt rfl ?_ ?_ | refine regD (T := tab) tOk mixedR hnt rfl (by first | decide +kernel | kernel_rfl) ?_ ?_ | refine tr_block ?_ | refine tr_skip ?_)
  · (dsimp only [AllP]; (repeat' first | exact trivial | assumption | exact Nat.le_of_ble_eq_true rfl | apply And.intro | decide | intro _ | exact rfl))
  repeat' (first | refine tr_seq ?_ | refine tr_block ?_ | refine tr_skip ?_)
  refine tr_cond rfl (fun hc => ?_) (fun hc => ?_)
  · simp only [condT_tt, condT_ff, condF_tt, condF_ff, notE_t, notE_f, decide_eq_true_eq, decide_eq_false_iff_not] at hc
    (try simp only [hrl] at hc)
    (try simp only [condT_tt, condT_ff, condF_tt, condF_ff, notE_t, notE_f, decide_eq_true_eq, decide_eq_false_iff_not] at hc)
    rw [ap2 a ho (by omega)]
    repeat' (first | refine tr_seq ?_ | refine reg (T := tab) tOk hnt rfl ?_ ?_ | refine regD (T := tab) tOk mixedR hnt rfl (by first | decide +kernel | kernel_rfl) ?_ ?_ | refine tr_block ?_ | refine tr_skip ?_)
    · (dsimp only [AllP]; (repeat' first | exact trivial | assumption | exact Nat.le_of_ble_eq_true rfl | apply And.intro | decide | intro _ | exact rfl))
    refine tr_ret ⟨.inr rfl, _, _, rfl, by (repeat' first | exact trivial | exact Nat.le_of_ble_eq_true rfl | apply And.intro), ?_⟩
    exact rfl
  simp only [condT_tt, condT_ff, condF_tt, condF_ff, notE_t, notE_f, decide_eq_true_eq, decide_eq_false_iff_not] at hc
  (try simp only [hrl] at hc)
  (try simp only [condT_tt, condT_ff, condF_tt, condF_ff, notE_t, notE_f, decide_eq_true_eq, decide_eq_false_iff_not] at hc)
  have hr2 : ¬ (r.length < 1 ∨ 310 < r.length) := by omega
  repeat' (first | refine tr_seq ?_ | refine reg (T := tab) tOk hnt rfl ?_ ?_ | refine regD (T := tab) tOk mixedR hnt rfl (by first | decide +kernel | kernel_rfl) ?_ ?_ | refine tr_block ?_ | refine tr_skip ?_)
  · (dsimp only [AllP]; (repeat' first | exact trivial | assumption | exact Nat.le_of_ble_eq_true rfl | apply And.intro | decide | intro _ | exact rfl))
  repeat' (first | refine tr_seq ?_ | refine tr_block ?_ | refine tr_skip ?_)
  refine tr_cond rfl (fun hc => ?_) (fun hc => ?_)
  · simp only [condT_tt, condT_ff, condF_tt, condF_ff, notE_t, notE_f, decide_eq_true_eq, decide_eq_false_iff_not] at hc
    (try simp only [hwx] at hc)
    (try simp only [condT_tt, condT_ff, condF_tt, condF_ff, notE_t, notE_f, decide_eq_true_eq, decide_eq_false_iff_not] at hc)
    rw [ap3 a ho hr2 (by omega)]
    repeat' (first | refine tr_seq ?_ | refine reg (T := tab) tOk hnt rfl ?_ ?_ | refine regD (T := tab) tOk mixedR hnt rfl (by first | decide +kernel | kernel_rfl) ?_ ?_ | refine tr_block ?_ | refine tr_skip ?_)
    · (dsimp only [AllP]; (repeat' first | exact trivial | assumption | exact Nat.le_of_ble_eq_true rfl | apply And.intro | decide | intro _ | exact rfl))
    refine tr_ret ⟨.inr rfl, _, _, rfl, by (repeat' first | exact trivial | exact Nat.le_of_ble_eq_true rfl | apply And.intro), ?_⟩
    exact rfl
  simp only [condT_tt, condT_ff, condF_tt, condF_ff, notE_t, notE_f, decide_eq_true_eq, decide_eq_false_iff_not] at hc
  (try simp only [hwx] at hc)
  (try simp only [condT_tt, condT_ff, condF_tt, condF_ff, notE_t, notE_f, decide_eq_true_eq, decide_eq_false_iff_not] at hc)
  have hw0 : ¬ 0 < d.w.length := by omega
  have hg0 := op_gd ho
  have hdk := gd_hd hg0
  have hle := dk_le hdk
  have h3 := recordText_fn r (by omega)
  have hrc := rcT_len r
  have a4 := ap4 a ho hr2 hw0
  have a5 := ap5 a ho hr2 hw0
  generalize apF d r a = res at *
  generalize gdF d = gd at *
  obtain ⟨old, eg⟩ := gd
  have hg0 : eg = 0 := hg0
  subst hg0
  dsimp only at hgl a4 a5
  have hol : (strB old).size = old.length := strB_size old
  have hcl : (strB (rcT r)).size = 6 + r.length := by rw [strB_size, hrc]
  have m1 : (strB old).size + (strB (rcT r)).size ≤ maxLen := by unfold maxLen; omega
  repeat' (first | refine tr_seq ?_ | refine tr_block ?_ | refine tr_skip ?_)
  refine tr_region (lex (T := tab) tOk hnt rfl ?_ (call rfl rfl rfl rfl rfl rfl rfl hnt (h2) (lex (T := tab) tOk hnt rfl ?_ (Lex.nil _)))) ?_
  · (dsimp only [AllP]; (repeat' first | exact trivial | assumption | exact Nat.le_of_ble_eq_true rfl | apply And.intro | exact eCells_len1 _ _ ‹_› | exact eCells_isByte _ _ ‹_› | (intro hh_; have hg_ := hh_; (try simp only [condT_ff, condF_tt, notE_t, notE_f, Bool.and_eq_true, ne_eq, decide_eq_true_eq, decide_eq_false_iff_not] at hg_)) | intro _ | exact rfl | omega))
    all_goals trace_state
  · (dsimp only [AllP]; (repeat' first | exact trivial | assumption | exact Nat.le_of_ble_eq_true rfl | apply And.intro | exact eCells_len1 _ _ ‹_› | exact eCells_isByte _ _ ‹_› | (intro hh_; have hg_ := hh_; (try simp only [condT_ff, condF_tt, notE_t, notE_f, Bool.and_eq_true, ne_eq, decide_eq_true_eq, decide_eq_false_iff_not] at hg_)) | intro _ | exact rfl | omega))
    all_goals trace_state
  repeat' (first | refine tr_seq ?_ | refine tr_block ?_ | refine tr_skip ?_)
  refine tr_region (lex (T := tab) tOk hnt rfl ?_ (call rfl rfl rfl rfl rfl rfl rfl hnt (h3) (lex (T := tab) tOk hnt rfl ?_ (Lex.nil _)))) ?_
  · (dsimp only [AllP]; (repeat' first | exact trivial | assumption | exact Nat.le_of_ble_eq_true rfl | apply And.intro | exact eCells_len1 _ _ ‹_› | exact eCells_isByte _ _ ‹_› | (intro hh_; have hg_ := hh_; (try simp only [condT_ff, condF_tt, notE_t, notE_f, Bool.and_eq_true, ne_eq, decide_eq_true_eq, decide_eq_false_iff_not] at hg_)) | intro _ | exact rfl | omega))
    all_goals trace_state
  · (dsimp only [AllP]; (repeat' first | exact trivial | assumption | exact Nat.le_of_ble_eq_true rfl | apply And.intro | exact eCells_len1 _ _ ‹_› | exact eCells_isByte _ _ ‹_› | (intro hh_; have hg_ := hh_; (try simp only [condT_ff, condF_tt, notE_t, notE_f, Bool.and_eq_true, ne_eq, decide_eq_true_eq, decide_eq_false_iff_not] at hg_)) | intro _ | exact rfl | omega))
    all_goals trace_state
  have htl : (old ++ rcT r).length = old.length + (6 + r.length) := by rw [List.length_append, hrc]
  refine tr_le (s' := St.of [(2, .one (.e (eI a))), (3, .one (.ptr 3 0 0)), (6, .one (.ptr 6 0 0)), (11, .one (.e (eTx old))), (13, .one (.e (eTx (old ++ rcT r))))] [(3, ⟨0, .box (.es (eDsk d)), 0⟩), (6, ⟨0, .box (.ds [.nil, .nil]), 0⟩)]) (le_of (ad := []) ⟨rfl, ⟨rfl, rfl, rfl, rfl, rfl⟩, ⟨rfl, rfl, rfl, rfl, rfl⟩, rfl, congrArg (fun z => E.v (.string z)) (strApp old (rcT r)), trivial⟩ (memOk_box rfl rfl rfl (memOk_box rfl rfl ⟨trivial, trivial, trivial⟩ trivial))) ?_
  generalize ht : old ++ rcT r = t at *
  have htL : (strB t).size = t.length := strB_size t
  have w1 : IntKind.i64.wrap ((d.l.length : Int) - 1) = (d.l.length : Int) - 1 := wrap64_id (by omega) (by omega)
  have w2 : IntKind.i64.wrap (32 * ((d.l.length : Int) - 1)) = 32 * ((d.l.length : Int) - 1) := wrap64_id (by omega) (by omega)
  repeat' (first | refine tr_seq ?_ | refine reg (T := tab) tOk hnt rfl ?_ ?_ | refine regD (T := tab) tOk mixedR hnt rfl (by first | decide +kernel | kernel_rfl) ?_ ?_ | refine tr_block ?_ | refine tr_skip ?_)
  · (dsimp only [AllP]; (repeat' first | exact trivial | assumption | exact Nat.le_of_ble_eq_true rfl | apply And.intro | decide | intro _ | exact rfl))
  repeat' (first | refine tr_seq ?_ | refine tr_block ?_ | refine tr_skip ?_)
  refine tr_cond rfl (fun hc => ?_) (fun hc => ?_)
  · simp only [condT_tt, condT_ff, condF_tt, condF_ff, notE_t, notE_f, decide_eq_true_eq, decide_eq_false_iff_not] at hc
    (try simp only [htL, hlx] at hc)
    (try simp only [condT_tt, condT_ff, condF_tt, condF_ff, notE_t, notE_f, decide_eq_true_eq, decide_eq_false_iff_not] at hc)
    rw [w1, w2] at hc
    rw [a4 (by omega)]
    repeat' (first | refine tr_seq ?_ | refine reg (T := tab) tOk hnt rfl ?_ ?_ | refine regD (T := tab) tOk mixedR hnt rfl (by first | decide +kernel | kernel_rfl) ?_ ?_ | refine tr_block ?_ | refine tr_skip ?_)
    · (dsimp only [AllP]; (repeat' first | exact trivial | assumption | exact Nat.le_of_ble_eq_true rfl | apply And.intro | decide | intro _ | exact rfl))
    refine tr_ret ⟨.inr rfl, _, _, rfl, by (repeat' first | exact trivial | exact Nat.le_of_ble_eq_true rfl | apply And.intro), ?_⟩
    exact rfl
  simp only [condT_tt, condT_ff, condF_tt, condF_ff, notE_t, notE_f, decide_eq_true_eq, decide_eq_false_iff_not] at hc
  (try simp only [htL, hlx] at hc)
  (try simp only [condT_tt, condT_ff, condF_tt, condF_ff, notE_t, notE_f, decide_eq_true_eq, decide_eq_false_iff_not] at hc)
  rw [w1, w2] at hc
  have hfit : ¬ (d.l.length - 1) * 32 < t.length := by omega
  rw [a5 hfit]
  clear a4 a5
  have hdiv : IntKind.i64.wrap (Int.tdiv ((strB old).size : Int) 32) = ((old.length / 32 : Nat) : Int) := by
    rw [hol, Int.tdiv_eq_ediv_of_nonneg (by omega)]
    exact wrap64_id (by omega) (by omega)
  have hs0 : old.length / 32 * 32 ≤ old.length := Nat.div_mul_le_self _ _
  have hn0 : cnW old t = (t.length + 31) / 32 - old.length / 32 := rfl
  have hnj : ∀ j, (old.length / 32 + j) * 32 < t.length ↔ j < cnW old t := fun j => by rw [hn0]; omega
  have g : gdA d.l (old.length / 32) (cnW old t) := ⟨h.l, by omega, by omega, by rw [hn0]; omega, fun _ => by rw [hn0] at *; omega⟩
  clear hn0
  generalize cnW old t = n at *
  generalize old.length / 32 = s0 at *
  have g3 := g.nn
  repeat' (first | refine tr_seq ?_ | refine reg (T := tab) tOk hnt rfl ?_ ?_ | refine regD (T := tab) tOk mixedR hnt rfl (by first | decide +kernel | kernel_rfl) ?_ ?_ | refine tr_block ?_ | refine tr_skip ?_)
  · (dsimp only [AllP]; (repeat' first | exact trivial | assumption | exact Nat.le_of_ble_eq_true rfl | apply And.intro | decide | intro _ | exact rfl))
  · (dsimp only [AllP]; (repeat' first | exact trivial | assumption | exact Nat.le_of_ble_eq_true rfl | apply And.intro | decide | intro _ | exact rfl))
  rw [hdiv]
  repeat' (first | refine tr_seq ?_ | refine tr_block ?_ | refine tr_skip ?_)
  refine tr_loop (σ := Nat) (fun j => St.of [(2, .one (.e (eI a))), (3, .one (.ptr 3 0 0)), (6, .one (.ptr 6 0 0)), (13, .one (.e (eTx t))), (14, .one (.own 85 0)), (15, .one (.e (eI ((s0 + j : Nat) : Int))))] [(3, ⟨0, .box (.es (eDsk d)), 0⟩), (6, ⟨0, .box (.ds [.nil, .nil]), 0⟩), (85, ⟨0, .row 33 (eWs (ptS t s0 j)), 0⟩)]) (fun j => j ≤ n) (fun j => n - j) (0) (le_of (ad := [85]) (by refine ⟨?_, ?_, ?_, ?_, ?_, ?_, trivial⟩ <;> first | exact trivial | rfl | exact ⟨rfl, rfl⟩ | exact ⟨rfl, rfl, rfl⟩ | exact ⟨rfl, rfl, rfl, rfl⟩ | exact ⟨rfl, rfl, rfl, rfl, rfl⟩ | exact congrArg (fun z : Int => E.v (.int .i64 z)) (wrap64_id (by omega) (by omega)) | exact congrArg (fun z : Int => E.v (.int .u8 z)) (by assumption) | exact congrArg (fun z : ByteArray => E.v (.string z)) (by assumption) | (refine ⟨rfl, ?_⟩; repeat' first | exact trivial | rfl | apply And.intro)) (memOk_box rfl rfl rfl (memOk_box rfl rfl ⟨trivial, trivial, trivial⟩ (memOk_new rfl (by decide) trivial)))) (Nat.zero_le _) ?_
  · rintro j jn
    have hij := hnj j
    have q1 : IntKind.i64.wrap (((s0 + j : Nat) : Int) * 32) = (((s0 + j) * 32 : Nat) : Int) := by rw [wrap64_id (by omega) (by omega)]; omega
    repeat' (first | refine tr_seq ?_ | refine reg (T := tab) tOk hnt rfl ?_ ?_ | refine regD (T := tab) tOk mixedR hnt rfl (by first | decide +kernel | kernel_rfl) ?_ ?_ | refine tr_block ?_ | refine tr_skip ?_)
    · (dsimp only [AllP]; (repeat' first | exact trivial | assumption | exact Nat.le_of_ble_eq_true rfl | apply And.intro | decide | intro _ | exact rfl))
    repeat' (first | refine tr_seq ?_ | refine tr_block ?_ | refine tr_skip ?_)
    refine tr_cond rfl (fun hc => ?_) (fun hc => ?_)
    · simp only [condT_tt, condT_ff, condF_tt, condF_ff, notE_t, notE_f, decide_eq_true_eq, decide_eq_false_iff_not] at hc
      (try simp only [htL] at hc)
      (try simp only [condT_tt, condT_ff, condF_tt, condF_ff, notE_t, notE_f, decide_eq_true_eq, decide_eq_false_iff_not] at hc)
      rw [q1] at hc
      have hjn : j < n := hij.1 (by omega)
      have q3 : IntKind.i64.wrap (((s0 + j : Nat) : Int) + 1) = ((s0 + j + 1 : Nat) : Int) := by rw [wrap64_id (by omega) (by omega)]; omega
      repeat' (first | refine tr_seq ?_ | refine tr_block ?_ | refine tr_skip ?_)
      first | refine reg (T := tab) tOk hnt rfl ?_ ?_ | refine regD (T := tab) tOk mixedR hnt rfl (by first | decide +kernel | kernel_rfl) ?_ ?_
      · (dsimp only [AllP]; (repeat' first | exact trivial | assumption | exact Nat.le_of_ble_eq_true rfl | apply And.intro | exact eCells_len1 _ _ ‹_› | exact eCells_isByte _ _ ‹_› | (intro hh_; have hg_ := hh_; (try simp only [condT_ff, condF_tt, notE_t, notE_f, Bool.and_eq_true, ne_eq, decide_eq_true_eq, decide_eq_false_iff_not] at hg_)) | intro _ | exact rfl | omega))
        all_goals trace_state
      rw [q3]
      refine tr_le (s' := St.of [(2, .one (.e (eI a))), (3, .one (.ptr 3 0 0)), (6, .one (.ptr 6 0 0)), (13, .one (.e (eTx t))), (14, .one (.own 85 0)), (15, .one (.e (eI ((s0 + j : Nat) : Int)))), (16, .one (.ptr 16 0 0))] [(3, ⟨0, .box (.es (eDsk d)), 0⟩), (6, ⟨0, .box (.ds [.nil, .nil]), 0⟩), (16, ⟨0, .box (.es (putZ ((s0 + j + 1 : Nat) : Int))), 0⟩), (85, ⟨0, .row 33 (eWs (ptS t s0 j)), 0⟩)]) (le_of (ad := []) (by refine ⟨?_, ?_, ?_, ?_, ?_, ?_, ?_, trivial⟩ <;> first | exact trivial | rfl | exact ⟨rfl, rfl⟩ | exact ⟨rfl, rfl, rfl⟩ | exact ⟨rfl, rfl, rfl, rfl⟩ | exact ⟨rfl, rfl, rfl, rfl, rfl⟩ | exact congrArg (fun z : Int => E.v (.int .i64 z)) (wrap64_id (by omega) (by omega)) | exact congrArg (fun z : Int => E.v (.int .u8 z)) (by assumption) | exact congrArg (fun z : ByteArray => E.v (.string z)) (by assumption) | (refine ⟨rfl, ?_⟩; repeat' first | exact trivial | rfl | apply And.intro)) (memOk_box rfl rfl rfl (memOk_box rfl rfl ⟨trivial, trivial, trivial⟩ (memOk_box rfl rfl rfl (memOk_row rfl rfl rfl trivial))))) ?_
      have c1 : (0 : Int) ≤ IntKind.i64.wrap (((s0 + j : Nat) : Int) * 32) := by rw [q1]; omega
      have c2 : IntKind.i64.wrap (((s0 + j : Nat) : Int) * 32) ≤ ((strB t).size : Int) := by rw [q1, htL]; omega
      have hzl : 0 + 1 + 32 * 1 ≤ (Cs.es (putZ ((s0 + j + 1 : Nat) : Int))).len := by show 33 ≤ (putZ ((s0 + j + 1 : Nat) : Int)).length; exact Nat.le_refl _
      have hE : strBytes ((strB t).extract (Int.toNat (IntKind.i64.wrap (((s0 + j : Nat) : Int) * 32))) (Int.toNat ((strB t).size : Int))) = eCells (t.drop ((s0 + j) * 32)) := by
        rw [q1, Int.toNat_natCast, Int.toNat_natCast, htL, strB_extract, strBytes_B, List.take_of_length_le (Nat.le_refl _)]
      repeat' (first | refine tr_seq ?_ | refine tr_block ?_ | refine tr_skip ?_)
      first | refine reg (T := tab) tOk hnt rfl ?_ ?_ | refine regD (T := tab) tOk mixedR hnt rfl (by first | decide +kernel | kernel_rfl) ?_ ?_
      · (dsimp only [AllP]; (repeat' first | exact trivial | assumption | exact Nat.le_of_ble_eq_true rfl | apply And.intro | exact eCells_len1 _ _ ‹_› | exact eCells_isByte _ _ ‹_› | (intro hh_; have hg_ := hh_; (try simp only [condT_ff, condF_tt, notE_t, notE_f, Bool.and_eq_true, ne_eq, decide_eq_true_eq, decide_eq_false_iff_not] at hg_)) | intro _ | exact rfl | omega))
        all_goals trace_state
      rw [hE]
      refine tr_le (s' := St.of [(2, .one (.e (eI a))), (3, .one (.ptr 3 0 0)), (6, .one (.ptr 6 0 0)), (13, .one (.e (eTx t))), (14, .one (.own 85 0)), (15, .one (.e (eI ((s0 + j : Nat) : Int)))), (16, .one (.ptr 16 0 0))] [(3, ⟨0, .box (.es (eDsk d)), 0⟩), (6, ⟨0, .box (.ds [.nil, .nil]), 0⟩), (16, ⟨0, .box (.es (ePut ⟨((s0 + j + 1 : Nat) : Int), blkF t (s0 + j)⟩)), 0⟩), (85, ⟨0, .row 33 (eWs (ptS t s0 j)), 0⟩)]) (le_of (ad := []) (by refine ⟨?_, ?_, ?_, ?_, ?_, ?_, ?_, trivial⟩ <;> first | exact trivial | rfl | exact ⟨rfl, rfl⟩ | exact ⟨rfl, rfl, rfl⟩ | exact ⟨rfl, rfl, rfl, rfl⟩ | exact ⟨rfl, rfl, rfl, rfl, rfl⟩ | exact congrArg (fun z : Int => E.v (.int .i64 z)) (wrap64_id (by omega) (by omega)) | exact congrArg (fun z : Int => E.v (.int .u8 z)) (by assumption) | exact congrArg (fun z : ByteArray => E.v (.string z)) (by assumption) | (refine ⟨rfl, ?_⟩; repeat' first | exact trivial | rfl | apply And.intro)) (memOk_box rfl rfl rfl (memOk_box rfl rfl ⟨trivial, trivial, trivial⟩ (memOk_box rfl rfl (cp_put _ _ (congrArg (min 32) (eCells_length _)) _ rfl) (memOk_row rfl rfl rfl trivial))))) ?_
      have hp33 : (ePut ⟨((s0 + j + 1 : Nat) : Int), blkF t (s0 + j)⟩).length = 33 := ePut_len (blk_len t (s0 + j))
      have hts := take_all hp33
      have h33b : 0 + 33 ≤ (Cs.es (ePut ⟨((s0 + j + 1 : Nat) : Int), blkF t (s0 + j)⟩)).len := by show 0 + 33 ≤ (ePut _).length; rw [hp33]; exact Nat.le_refl _
      have hrow : (eWs (ptS t s0 j)).length ≤ 20 := by unfold eWs; rw [List.length_map, ptS_len]; omega
      have hpt : List.take 33 (List.drop 0 (ePut ⟨((s0 + j + 1 : Nat) : Int), blkF t (s0 + j)⟩)) = ePut ⟨((s0 + j + 1 : Nat) : Int), blkF t (s0 + j)⟩ := List.take_of_length_le (Nat.le_of_eq hp33)
      have hsn : eWs (ptS t s0 (j + 1)) = eWs (ptS t s0 j) ++ [ePut ⟨((s0 + j + 1 : Nat) : Int), blkF t (s0 + j)⟩] := by unfold eWs; rw [ptS_succ, List.map_append]; rfl
      repeat' (first | refine tr_seq ?_ | refine tr_block ?_ | refine tr_skip ?_)
      first | refine reg (T := tab) tOk hnt rfl ?_ ?_ | refine regD (T := tab) tOk mixedR hnt rfl (by first | decide +kernel | kernel_rfl) ?_ ?_
      · (dsimp only [AllP]; (repeat' first | exact trivial | assumption | exact Nat.le_of_ble_eq_true rfl | apply And.intro | exact eCells_len1 _ _ ‹_› | exact eCells_isByte _ _ ‹_› | (intro hh_; have hg_ := hh_; (try simp only [condT_ff, condF_tt, notE_t, notE_f, Bool.and_eq_true, ne_eq, decide_eq_true_eq, decide_eq_false_iff_not] at hg_)) | intro _ | exact rfl | omega | exact Nat.le_trans (Nat.add_le_add_right hrow 1) (by decide) | exact Nat.le_trans (Nat.mul_le_mul_right _ (Nat.add_le_add_right hrow 1)) (by decide) | exact Nat.le_trans (Nat.add_le_add_left hrow 0) (by decide) | exact Nat.le_trans (Nat.mul_le_mul_right _ (Nat.add_le_add_left hrow 0)) (by decide)))
        all_goals trace_state
      repeat' (first | refine tr_seq ?_ | refine reg (T := tab) tOk hnt rfl ?_ ?_ | refine regD (T := tab) tOk mixedR hnt rfl (by first | decide +kernel | kernel_rfl) ?_ ?_ | refine tr_block ?_ | refine tr_skip ?_)
      · (dsimp only [AllP]; (repeat' first | exact trivial | assumption | exact Nat.le_of_ble_eq_true rfl | apply And.intro | decide | intro _ | exact rfl))
      rw [q3]
      refine ⟨j + 1, (by omega), by omega, le_of (ad := []) (by refine ⟨?_, ?_, ?_, ?_, ?_, ?_, trivial⟩ <;> first | exact trivial | rfl | exact ⟨rfl, rfl⟩ | exact ⟨rfl, rfl, rfl⟩ | exact ⟨rfl, rfl, rfl, rfl⟩ | exact ⟨rfl, rfl, rfl, rfl, rfl⟩ | exact congrArg (fun z : Int => E.v (.int .i64 z)) (wrap64_id (by omega) (by omega)) | exact congrArg (fun z : Int => E.v (.int .u8 z)) (by assumption) | exact congrArg (fun z : ByteArray => E.v (.string z)) (by assumption) | (refine ⟨rfl, ?_⟩; repeat' first | exact trivial | rfl | apply And.intro)) (memOk_box rfl rfl rfl (memOk_box rfl rfl ⟨trivial, trivial, trivial⟩ (memOk_row rfl rfl (by rw [hsn, hpt]) trivial)))⟩
    simp only [condT_tt, condT_ff, condF_tt, condF_ff, notE_t, notE_f, decide_eq_true_eq, decide_eq_false_iff_not] at hc
    (try simp only [htL] at hc)
    (try simp only [condT_tt, condT_ff, condF_tt, condF_ff, notE_t, notE_f, decide_eq_true_eq, decide_eq_false_iff_not] at hc)
    rw [q1] at hc
    refine tr_exit ?_
    have hjn : n = j := by omega
    subst hjn
    refine tr_le (le_frz 14 rfl rfl) ?_
    refine tr_le (s' := St.of [(2, .one (.e (eI a))), (3, .one (.ptr 3 0 0)), (6, .one (.ptr 6 0 0)), (13, .one (.e (eTx t))), (14, .one (.e (.sl (eWs (ptS t s0 n)))))] [(3, ⟨0, .box (.es (eDsk d)), 0⟩), (6, ⟨0, .box (.ds [.nil, .nil]), 0⟩)]) (le_of (ad := []) (by refine ⟨?_, ?_, ?_, ?_, ?_, trivial⟩ <;> first | exact trivial | rfl | exact ⟨rfl, rfl⟩ | exact ⟨rfl, rfl, rfl⟩ | exact ⟨rfl, rfl, rfl, rfl⟩ | exact ⟨rfl, rfl, rfl, rfl, rfl⟩ | exact congrArg (fun z : Int => E.v (.int .i64 z)) (wrap64_id (by omega) (by omega)) | exact congrArg (fun z : Int => E.v (.int .u8 z)) (by assumption) | exact congrArg (fun z : ByteArray => E.v (.string z)) (by assumption) | (refine ⟨rfl, ?_⟩; repeat' first | exact trivial | rfl | apply And.intro)) (memOk_box rfl rfl rfl (memOk_box rfl rfl ⟨trivial, trivial, trivial⟩ trivial))) ?_
    repeat' (first | refine tr_seq ?_ | refine reg (T := tab) tOk hnt rfl ?_ ?_ | refine regD (T := tab) tOk mixedR hnt rfl (by first | decide +kernel | kernel_rfl) ?_ ?_ | refine tr_block ?_ | refine tr_skip ?_)
    · (dsimp only [AllP]; (repeat' first | exact trivial | assumption | exact Nat.le_of_ble_eq_true rfl | apply And.intro | decide | intro _ | exact rfl))
    refine tr_le (s' := St.of [(2, .one (.e (eI a))), (3, .one (.ptr 3 0 0)), (6, .one (.ptr 6 0 0)), (13, .one (.e (eTx t))), (14, .one (.e (.sl (eWs (ptS t s0 n))))), (17, .one (.ptr 17 0 0))] [(3, ⟨0, .box (.es (eDsk d)), 0⟩), (6, ⟨0, .box (.ds [.nil, .nil]), 0⟩), (17, ⟨0, .box (.es (putZ 0)), 0⟩)]) (le_of (ad := []) (by refine ⟨?_, ?_, ?_, ?_, ?_, ?_, trivial⟩ <;> first | exact trivial | rfl | exact ⟨rfl, rfl⟩ | exact ⟨rfl, rfl, rfl⟩ | exact ⟨rfl, rfl, rfl, rfl⟩ | exact ⟨rfl, rfl, rfl, rfl, rfl⟩ | exact congrArg (fun z : Int => E.v (.int .i64 z)) (wrap64_id (by omega) (by omega)) | exact congrArg (fun z : Int => E.v (.int .u8 z)) (by assumption) | exact congrArg (fun z : ByteArray => E.v (.string z)) (by assumption) | (refine ⟨rfl, ?_⟩; repeat' first | exact trivial | rfl | apply And.intro)) (memOk_box rfl rfl rfl (memOk_box rfl rfl ⟨trivial, trivial, trivial⟩ (memOk_box rfl rfl rfl trivial)))) ?_
    have hu : IntKind.u64.wrap ((strB t).size : Int) = (t.length : Int) := by rw [htL]; exact wrapU2 _ (by omega)
    have hbg := big_fn t.length 8 (by decide)
    rw [← hu] at hbg
    have hzl : 0 + 1 + 32 * 1 ≤ (Cs.es (putZ 0)).len := by show 33 ≤ (putZ 0).length; exact Nat.le_refl _
    repeat' (first | refine tr_seq ?_ | refine tr_block ?_ | refine tr_skip ?_)
    refine tr_draw (T := tab) tOk hnt mixedR (lexD (T := tab) rfl ?_ (callD rfl rfl rfl rfl rfl rfl rfl rfl (hbg) (lexD (T := tab) rfl ?_ (.nil _)))) (by first | decide +kernel | kernel_rfl) ?_
    · (dsimp only [AllP]; (repeat' first | exact trivial | assumption | exact Nat.le_of_ble_eq_true rfl | apply And.intro | exact eCells_len1 _ _ ‹_› | exact eCells_isByte _ _ ‹_› | (intro hh_; have hg_ := hh_; (try simp only [condT_ff, condF_tt, notE_t, notE_f, Bool.and_eq_true, ne_eq, decide_eq_true_eq, decide_eq_false_iff_not] at hg_)) | intro _ | exact rfl | omega))
      all_goals trace_state
    · (dsimp only [AllP]; (repeat' first | exact trivial | assumption | exact Nat.le_of_ble_eq_true rfl | apply And.intro | exact eCells_len1 _ _ ‹_› | exact eCells_isByte _ _ ‹_› | (intro hh_; have hg_ := hh_; (try simp only [condT_ff, condF_tt, notE_t, notE_f, Bool.and_eq_true, ne_eq, decide_eq_true_eq, decide_eq_false_iff_not] at hg_)) | intro _ | exact rfl | omega))
      all_goals trace_state
    rw [strBytes_B]
    refine tr_le (s' := St.of [(2, .one (.e (eI a))), (3, .one (.ptr 3 0 0)), (6, .one (.ptr 6 0 0)), (14, .one (.e (.sl (eWs (ptS t s0 n))))), (17, .one (.ptr 17 0 0)), (13, .one (.e (eTx t)))] [(3, ⟨0, .box (.es (eDsk d)), 0⟩), (6, ⟨0, .box (.ds [.nil, .nil]), 0⟩), (17, ⟨0, .box (.es (ePut ⟨0, hdB t.length⟩)), 0⟩)]) (le_of (ad := []) (by refine ⟨?_, ?_, ?_, ?_, ?_, ?_, trivial⟩ <;> first | exact trivial | rfl | exact ⟨rfl, rfl⟩ | exact ⟨rfl, rfl, rfl⟩ | exact ⟨rfl, rfl, rfl, rfl⟩ | exact ⟨rfl, rfl, rfl, rfl, rfl⟩ | exact congrArg (fun z : Int => E.v (.int .i64 z)) (wrap64_id (by omega) (by omega)) | exact congrArg (fun z : Int => E.v (.int .u8 z)) (by assumption) | exact congrArg (fun z : ByteArray => E.v (.string z)) (by assumption) | (refine ⟨rfl, ?_⟩; repeat' first | exact trivial | rfl | apply And.intro)) (memOk_box rfl rfl rfl (memOk_box rfl rfl ⟨trivial, trivial, trivial⟩ (memOk_box rfl rfl (Eq.trans (cp_put _ _ (congrArg (min 32) (eCells_length _)) _ rfl) (congrArg (fun z => ePut ⟨0, padF z⟩) (List.take_of_length_le (by rw [loF_len]; decide)))) trivial)))) ?_
    have hnl : (eWs (ptS t s0 n)).length = n := by unfold eWs; rw [List.length_map, ptS_len]
    have hn3 : IntKind.i64.wrap ((n : Int) + 3) = ((n + 3 : Nat) : Int) := by rw [wrap64_id (by omega) (by omega)]; omega
    have haf := res_aft d.l t s0 n a
    have hal := aftN_le a n
    rw [haf]
    clear haf
    repeat' (first | refine tr_seq ?_ | refine tr_block ?_ | refine tr_skip ?_)
    first | refine reg (T := tab) tOk hnt rfl ?_ ?_ | refine regD (T := tab) tOk mixedR hnt rfl (by first | decide +kernel | kernel_rfl) ?_ ?_
    · (dsimp only [AllP]; (repeat' first | exact trivial | assumption | exact Nat.le_of_ble_eq_true rfl | apply And.intro | exact eCells_len1 _ _ ‹_› | exact eCells_isByte _ _ ‹_› | (intro hh_; have hg_ := hh_; (try simp only [condT_ff, condF_tt, notE_t, notE_f, Bool.and_eq_true, ne_eq, decide_eq_true_eq, decide_eq_false_iff_not] at hg_)) | intro _ | exact rfl | omega))
      all_goals trace_state
    rw [hnl]
    first | refine tr_join (σ := Nat) (fun m => St.of [(2, .one (.e (eI ((m : Nat) : Int)))), (3, .one (.ptr 3 0 0)), (6, .one (.ptr 6 0 0)), (14, .one (.e (.sl (eWs (ptS t s0 n))))), (17, .one (.ptr 17 0 0)), (18, .one (.e (eI ((n : Nat) : Int))))] [(3, ⟨0, .box (.es (eDsk d)), 0⟩), (6, ⟨0, .box (.ds [.nil, .nil]), 0⟩), (17, ⟨0, .box (.es (ePut ⟨0, hdB t.length⟩)), 0⟩)]) (fun m => m = aftN a n) ?_ ?_ | refine tr_seq (tr_join (σ := Nat) (fun m => St.of [(2, .one (.e (eI ((m : Nat) : Int)))), (3, .one (.ptr 3 0 0)), (6, .one (.ptr 6 0 0)), (14, .one (.e (.sl (eWs (ptS t s0 n))))), (17, .one (.ptr 17 0 0)), (18, .one (.e (eI ((n : Nat) : Int))))] [(3, ⟨0, .box (.es (eDsk d)), 0⟩), (6, ⟨0, .box (.ds [.nil, .nil]), 0⟩), (17, ⟨0, .box (.es (ePut ⟨0, hdB t.length⟩)), 0⟩)]) (fun m => m = aftN a n) ?_ ?_)
    · repeat' (first | refine tr_seq ?_ | refine tr_block ?_ | refine tr_skip ?_)
      first | refine reg (T := tab) tOk hnt rfl ?_ ?_ | refine regD (T := tab) tOk mixedR hnt rfl (by first | decide +kernel | kernel_rfl) ?_ ?_
      · (dsimp only [AllP]; (repeat' first | exact trivial | assumption | exact Nat.le_of_ble_eq_true rfl | apply And.intro | exact eCells_len1 _ _ ‹_› | exact eCells_isByte _ _ ‹_› | (intro hh_; have hg_ := hh_; (try simp only [condT_ff, condF_tt, notE_t, notE_f, Bool.and_eq_true, ne_eq, decide_eq_true_eq, decide_eq_false_iff_not] at hg_)) | intro _ | exact rfl | omega))
        all_goals trace_state
      repeat' (first | refine tr_seq ?_ | refine tr_block ?_ | refine tr_skip ?_)
      refine tr_cond rfl (fun hc => ?_) (fun hc => ?_)
      · simp only [condT_tt, condT_ff, condF_tt, condF_ff, notE_t, notE_f, decide_eq_true_eq, decide_eq_false_iff_not] at hc
        try rw [hn3] at hc
        repeat' (first | refine tr_seq ?_ | refine reg (T := tab) tOk hnt rfl ?_ ?_ | refine regD (T := tab) tOk mixedR hnt rfl (by first | decide +kernel | kernel_rfl) ?_ ?_ | refine tr_block ?_ | refine tr_skip ?_)
        · (dsimp only [AllP]; (repeat' first | exact trivial | assumption | exact Nat.le_of_ble_eq_true rfl | apply And.intro | decide | intro _ | exact rfl))
        rw [hn3]
        repeat' (first | refine tr_seq ?_ | refine tr_block ?_ | refine tr_skip ?_)
        refine ⟨n + 3, (by unfold aftN; rw [if_pos (by omega)]), le_of (ad := []) (by refine ⟨?_, ?_, ?_, ?_, ?_, ?_, trivial⟩ <;> first | exact trivial | rfl | exact ⟨rfl, rfl⟩ | exact ⟨rfl, rfl, rfl⟩ | exact ⟨rfl, rfl, rfl, rfl⟩ | exact ⟨rfl, rfl, rfl, rfl, rfl⟩ | exact congrArg (fun z : Int => E.v (.int .i64 z)) (wrap64_id (by omega) (by omega)) | exact congrArg (fun z : Int => E.v (.int .u8 z)) (by assumption) | exact congrArg (fun z : ByteArray => E.v (.string z)) (by assumption) | (refine ⟨rfl, ?_⟩; repeat' first | exact trivial | rfl | apply And.intro)) (memOk_box rfl rfl rfl (memOk_box rfl rfl ⟨trivial, trivial, trivial⟩ (memOk_box rfl rfl rfl trivial)))⟩
      simp only [condT_tt, condT_ff, condF_tt, condF_ff, notE_t, notE_f, decide_eq_true_eq, decide_eq_false_iff_not] at hc
      try rw [hn3] at hc
      have hna : ¬ (a < 0 ∨ ((n + 3 : Nat) : Int) < a) := by omega
      obtain ⟨A, hA⟩ : ∃ A : Nat, a = (A : Int) := ⟨a.toNat, by omega⟩
      subst hA
      repeat' (first | refine tr_seq ?_ | refine tr_block ?_ | refine tr_skip ?_)
      refine ⟨A, (by unfold aftN; rw [if_neg hna]; exact (Int.toNat_natCast A).symm), le_of (ad := []) (by refine ⟨?_, ?_, ?_, ?_, ?_, ?_, trivial⟩ <;> first | exact trivial | rfl | exact ⟨rfl, rfl⟩ | exact ⟨rfl, rfl, rfl⟩ | exact ⟨rfl, rfl, rfl, rfl⟩ | exact ⟨rfl, rfl, rfl, rfl, rfl⟩ | exact congrArg (fun z : Int => E.v (.int .i64 z)) (wrap64_id (by omega) (by omega)) | exact congrArg (fun z : Int => E.v (.int .u8 z)) (by assumption) | exact congrArg (fun z : ByteArray => E.v (.string z)) (by assumption) | (refine ⟨rfl, ?_⟩; repeat' first | exact trivial | rfl | apply And.intro)) (memOk_box rfl rfl rfl (memOk_box rfl rfl ⟨trivial, trivial, trivial⟩ (memOk_box rfl rfl rfl trivial)))⟩
    rintro m hm
    rw [← hm] at hal ⊢
    clear hm
    have hd0 : trj d.l t s0 n 0 = ⟨d.l, []⟩ := trj_w (Nat.zero_le _)
    have k0 : E.sl (eLs d.l) = E.sl (eLs (trj d.l t s0 n 0).l) := by rw [hd0]
    repeat' (first | refine tr_seq ?_ | refine reg (T := tab) tOk hnt rfl ?_ ?_ | refine regD (T := tab) tOk mixedR hnt rfl (by first | decide +kernel | kernel_rfl) ?_ ?_ | refine tr_block ?_ | refine tr_skip ?_)
    · (dsimp only [AllP]; (repeat' first | exact trivial | assumption | exact Nat.le_of_ble_eq_true rfl | apply And.intro | decide | intro _ | exact rfl))
    · (dsimp only [AllP]; (repeat' first | exact trivial | assumption | exact Nat.le_of_ble_eq_true rfl | apply And.intro | decide | intro _ | exact rfl))
    repeat' (first | refine tr_seq ?_ | refine tr_block ?_ | refine tr_skip ?_)
    refine tr_loop (σ := Nat) (fun i => St.of [(2, .one (.e (eI ((m : Nat) : Int)))), (6, .one (.ptr 6 0 0)), (14, .one (.e (.sl (eWs (ptS t s0 n))))), (17, .one (.ptr 17 0 0)), (18, .one (.e (eI ((n : Nat) : Int)))), (19, .one (.ptr 19 0 0)), (20, .one (.e (eI (i : Int))))] [(6, ⟨0, .box (.ds [.nil, .nil]), 0⟩), (17, ⟨0, .box (.es (ePut ⟨0, hdB t.length⟩)), 0⟩), (19, ⟨0, .box (.ds [.e (.sl (eLs (trj d.l t s0 n i).l)), .own 60 0]), 0⟩), (60, ⟨0, .row 33 (eWs (trj d.l t s0 n i).w), 0⟩)]) (fun i => i ≤ m) (fun i => m - i) (0) (le_of (ad := [60]) (by refine ⟨?_, ?_, ?_, ?_, ?_, ?_, ?_, trivial⟩ <;> first | exact trivial | rfl | exact ⟨rfl, rfl⟩ | exact ⟨rfl, rfl, rfl⟩ | exact ⟨rfl, rfl, rfl, rfl⟩ | exact ⟨rfl, rfl, rfl, rfl, rfl⟩ | exact congrArg (fun z : Int => E.v (.int .i64 z)) (wrap64_id (by omega) (by omega)) | exact congrArg (fun z : Int => E.v (.int .u8 z)) (by assumption) | exact congrArg (fun z : ByteArray => E.v (.string z)) (by assumption) | (refine ⟨rfl, ?_⟩; repeat' first | exact trivial | rfl | apply And.intro)) (memOk_box rfl rfl ⟨trivial, trivial, trivial⟩ (memOk_box rfl rfl rfl (memOk_box rfl rfl ⟨k0, ⟨rfl, rfl⟩, trivial⟩ (by rw [hd0]; exact memOk_new rfl (by decide) trivial))))) (Nat.zero_le _) ?_
    rintro i im
    obtain ⟨tok, tl, tw, tdk⟩ := trj_ok t g i
    have hi1 : IntKind.i64.wrap ((i : Int) + 1) = ((i + 1 : Nat) : Int) := wrap64_id (by omega) (by omega)
    have hn1 : IntKind.i64.wrap ((n : Int) + 1) = ((n + 1 : Nat) : Int) := wrap64_id (by omega) (by omega)
    repeat' (first | refine tr_seq ?_ | refine reg (T := tab) tOk hnt rfl ?_ ?_ | refine regD (T := tab) tOk mixedR hnt rfl (by first | decide +kernel | kernel_rfl) ?_ ?_ | refine tr_block ?_ | refine tr_skip ?_)
    · (dsimp only [AllP]; (repeat' first | exact trivial | assumption | exact Nat.le_of_ble_eq_true rfl | apply And.intro | decide | intro _ | exact rfl))
    repeat' (first | refine tr_seq ?_ | refine tr_block ?_ | refine tr_skip ?_)
    refine tr_cond rfl (fun hc => ?_) (fun hc => ?_)
    · simp only [condT_tt, condT_ff, condF_tt, condF_ff, notE_t, notE_f, decide_eq_true_eq, decide_eq_false_iff_not] at hc
      repeat' (first | refine tr_seq ?_ | refine reg (T := tab) tOk hnt rfl ?_ ?_ | refine regD (T := tab) tOk mixedR hnt rfl (by first | decide +kernel | kernel_rfl) ?_ ?_ | refine tr_block ?_ | refine tr_skip ?_)
      · (dsimp only [AllP]; (repeat' first | exact trivial | assumption | exact Nat.le_of_ble_eq_true rfl | apply And.intro | decide | intro _ | exact rfl))
      repeat' (first | refine tr_seq ?_ | refine tr_block ?_ | refine tr_skip ?_)
      refine tr_cond rfl (fun hc => ?_) (fun hc => ?_)
      · simp only [condT_tt, condT_ff, condF_tt, condF_ff, notE_t, notE_f, decide_eq_true_eq, decide_eq_false_iff_not] at hc
        have hin : i < n := by omega
        have hg := putGet (ptS t s0 n) i (by rw [ptS_len]; exact hin)
        rw [ptS_get t s0 n hin] at hg
        have hg : (eWs (ptS t s0 n)).getD i [] = _ := hg
        have hp33 : (ePut ⟨((s0 + i + 1 : Nat) : Int), blkF t (s0 + i)⟩).length = 33 := ePut_len (blk_len t (s0 + i))
        have hsn : eWs (ptS t s0 (i + 1)) = eWs (ptS t s0 i) ++ [ePut ⟨((s0 + i + 1 : Nat) : Int), blkF t (s0 + i)⟩] := by unfold eWs; rw [ptS_succ, List.map_append]; rfl
        have hpt : List.take 33 (List.drop 0 (ePut ⟨((s0 + i + 1 : Nat) : Int), blkF t (s0 + i)⟩)) = ePut ⟨((s0 + i + 1 : Nat) : Int), blkF t (s0 + i)⟩ := List.take_of_length_le (Nat.le_of_eq hp33)
        have e1 : trj d.l t s0 n i = ⟨d.l, ptS t s0 i⟩ := trj_w (by omega)
        have e2 : trj d.l t s0 n (i + 1) = ⟨d.l, ptS t s0 (i + 1)⟩ := trj_w (by omega)
        have k1 : E.sl (eLs d.l) = E.sl (eLs (trj d.l t s0 n (i + 1)).l) := by rw [e2]
        rw [e1]
        have hrow : (eWs (ptS t s0 i)).length ≤ 20 := by unfold eWs; rw [List.length_map, ptS_len]; omega
        have h33b : 0 + 33 ≤ (Cs.es (ePut ⟨((s0 + i + 1 : Nat) : Int), blkF t (s0 + i)⟩)).len := by show 0 + 33 ≤ (ePut _).length; rw [hp33]; exact Nat.le_refl _
        have hts := take_all hp33
        repeat' (first | refine tr_seq ?_ | refine tr_block ?_ | refine tr_skip ?_)
        first | refine reg (T := tab) tOk hnt rfl ?_ ?_ | refine regD (T := tab) tOk mixedR hnt rfl (by first | decide +kernel | kernel_rfl) ?_ ?_
        · rw [Int.toNat_natCast, hg, hnl]
          (dsimp only [AllP]; (repeat' first | exact trivial | assumption | exact Nat.le_of_ble_eq_true rfl | apply And.intro | exact eCells_len1 _ _ ‹_› | exact eCells_isByte _ _ ‹_› | (intro hh_; have hg_ := hh_; (try simp only [condT_ff, condF_tt, notE_t, notE_f, Bool.and_eq_true, ne_eq, decide_eq_true_eq, decide_eq_false_iff_not] at hg_)) | intro _ | exact rfl | omega | exact Nat.le_trans (Nat.add_le_add_right hrow 1) (by decide) | exact Nat.le_trans (Nat.mul_le_mul_right _ (Nat.add_le_add_right hrow 1)) (by decide) | exact Nat.le_trans (Nat.add_le_add_left hrow 0) (by decide) | exact Nat.le_trans (Nat.mul_le_mul_right _ (Nat.add_le_add_left hrow 0)) (by decide)))
          all_goals trace_state
        rw [Int.toNat_natCast, hg]
        repeat' (first | refine tr_seq ?_ | refine reg (T := tab) tOk hnt rfl ?_ ?_ | refine regD (T := tab) tOk mixedR hnt rfl (by first | decide +kernel | kernel_rfl) ?_ ?_ | refine tr_block ?_ | refine tr_skip ?_)
        · (dsimp only [AllP]; (repeat' first | exact trivial | assumption | exact Nat.le_of_ble_eq_true rfl | apply And.intro | decide | intro _ | exact rfl))
        rw [hi1]
        refine ⟨i + 1, (by omega), by omega, le_of (ad := []) (by refine ⟨?_, ?_, ?_, ?_, ?_, ?_, ?_, trivial⟩ <;> first | exact trivial | rfl | exact ⟨rfl, rfl⟩ | exact ⟨rfl, rfl, rfl⟩ | exact ⟨rfl, rfl, rfl, rfl⟩ | exact ⟨rfl, rfl, rfl, rfl, rfl⟩ | exact congrArg (fun z : Int => E.v (.int .i64 z)) (wrap64_id (by omega) (by omega)) | exact congrArg (fun z : Int => E.v (.int .u8 z)) (by assumption) | exact congrArg (fun z : ByteArray => E.v (.string z)) (by assumption) | (refine ⟨rfl, ?_⟩; repeat' first | exact trivial | rfl | apply And.intro)) (memOk_box rfl rfl ⟨trivial, trivial, trivial⟩ (memOk_box rfl rfl rfl (memOk_box rfl rfl ⟨k1, ⟨rfl, rfl, rfl, rfl⟩, trivial⟩ (memOk_row rfl rfl (by rw [e2, hsn, hpt]) trivial))))⟩
      simp only [condT_tt, condT_ff, condF_tt, condF_ff, notE_t, notE_f, decide_eq_true_eq, decide_eq_false_iff_not] at hc
      repeat' (first | refine tr_seq ?_ | refine reg (T := tab) tOk hnt rfl ?_ ?_ | refine regD (T := tab) tOk mixedR hnt rfl (by first | decide +kernel | kernel_rfl) ?_ ?_ | refine tr_block ?_ | refine tr_skip ?_)
      · (dsimp only [AllP]; (repeat' first | exact trivial | assumption | exact Nat.le_of_ble_eq_true rfl | apply And.intro | decide | intro _ | exact rfl))
      repeat' (first | refine tr_seq ?_ | refine tr_block ?_ | refine tr_skip ?_)
      refine tr_cond rfl (fun hc => ?_) (fun hc => ?_)
      · simp only [condT_tt, condT_ff, condF_tt, condF_ff, notE_t, notE_f, decide_eq_true_eq, decide_eq_false_iff_not] at hc
        rw [hn1] at hc
        have hin : i = n + 1 := by omega
        subst hin
        have hp33 : (ePut ⟨0, hdB t.length⟩).length = 33 := ePut_len (hdB_len _)
        have hpt : List.take 33 (List.drop 0 (ePut ⟨0, hdB t.length⟩)) = ePut ⟨0, hdB t.length⟩ := List.take_of_length_le (Nat.le_of_eq hp33)
        have h33b : 0 + 33 ≤ (Cs.es (ePut ⟨0, hdB t.length⟩)).len := by show 0 + 33 ≤ (ePut _).length; rw [hp33]; exact Nat.le_refl _
        have hts := take_all hp33
        have k2 : E.sl (eLs (ptL d.l (ptS t s0 n))) = E.sl (eLs (trj d.l t s0 n (n + 1 + 1)).l) := by rw [show n + 1 + 1 = n + 2 from rfl, trj_2]
        rw [trj_1]
        repeat' (first | refine tr_seq ?_ | refine tr_block ?_ | refine tr_skip ?_)
        first | refine reg (T := tab) tOk hnt rfl ?_ ?_ | refine regD (T := tab) tOk mixedR hnt rfl (by first | decide +kernel | kernel_rfl) ?_ ?_
        · (dsimp only [AllP]; (repeat' first | exact trivial | assumption | exact Nat.le_of_ble_eq_true rfl | apply And.intro | exact eCells_len1 _ _ ‹_› | exact eCells_isByte _ _ ‹_› | (intro hh_; have hg_ := hh_; (try simp only [condT_ff, condF_tt, notE_t, notE_f, Bool.and_eq_true, ne_eq, decide_eq_true_eq, decide_eq_false_iff_not] at hg_)) | intro _ | exact rfl | omega))
          all_goals trace_state
        repeat' (first | refine tr_seq ?_ | refine reg (T := tab) tOk hnt rfl ?_ ?_ | refine regD (T := tab) tOk mixedR hnt rfl (by first | decide +kernel | kernel_rfl) ?_ ?_ | refine tr_block ?_ | refine tr_skip ?_)
        · (dsimp only [AllP]; (repeat' first | exact trivial | assumption | exact Nat.le_of_ble_eq_true rfl | apply And.intro | decide | intro _ | exact rfl))
        rw [hi1]
        refine ⟨n + 1 + 1, (by omega), by omega, le_of (ad := []) (by refine ⟨?_, ?_, ?_, ?_, ?_, ?_, ?_, trivial⟩ <;> first | exact trivial | rfl | exact ⟨rfl, rfl⟩ | exact ⟨rfl, rfl, rfl⟩ | exact ⟨rfl, rfl, rfl, rfl⟩ | exact ⟨rfl, rfl, rfl, rfl, rfl⟩ | exact congrArg (fun z : Int => E.v (.int .i64 z)) (wrap64_id (by omega) (by omega)) | exact congrArg (fun z : Int => E.v (.int .u8 z)) (by assumption) | exact congrArg (fun z : ByteArray => E.v (.string z)) (by assumption) | (refine ⟨rfl, ?_⟩; repeat' first | exact trivial | rfl | apply And.intro)) (memOk_box rfl rfl ⟨trivial, trivial, trivial⟩ (memOk_box rfl rfl rfl (memOk_box rfl rfl ⟨k2, ⟨rfl, rfl, rfl, rfl⟩, trivial⟩ (memOk_row rfl rfl (by rw [show n + 1 + 1 = n + 2 from rfl, trj_2, hpt]; rfl) trivial))))⟩
      simp only [condT_tt, condT_ff, condF_tt, condF_ff, notE_t, notE_f, decide_eq_true_eq, decide_eq_false_iff_not] at hc
      rw [hn1] at hc
      have hsy : syF (trj d.l t s0 n i) = (trj d.l t s0 n (i + 1), 0) := by
        rcases (show i = n ∨ i = n + 2 by omega) with rfl | rfl
        · exact sy_trj t g
        · exact sy2_trj t g
      have hsy2 : trj d.l t s0 n (i + 1) = ⟨ptL (trj d.l t s0 n i).l (trj d.l t s0 n i).w, []⟩ := by
        unfold syF at hsy
        rw [if_neg (not_not_intro tdk)] at hsy
        exact (congrArg Prod.fst hsy).symm
      have hF := Fallen_fn (trj d.l t s0 n i) tok tdk
      generalize trj d.l t s0 n i = di at *
      refine tr_le (le_box 19 rfl rfl rfl) ?_
      refine tr_le (s' := St.of [(2, .one (.e (eI ((m : Nat) : Int)))), (6, .one (.ptr 6 0 0)), (14, .one (.e (.sl (eWs (ptS t s0 n))))), (17, .one (.ptr 17 0 0)), (18, .one (.e (eI ((n : Nat) : Int)))), (19, .one (.ptr 19 0 0)), (20, .one (.e (eI (i : Int))))] [(6, ⟨0, .box (.ds [.nil, .nil]), 0⟩), (17, ⟨0, .box (.es (ePut ⟨0, hdB t.length⟩)), 0⟩), (19, ⟨0, .box (.es (eDsk di)), 0⟩)]) (le_of (ad := []) (by refine ⟨?_, ?_, ?_, ?_, ?_, ?_, ?_, trivial⟩ <;> first | exact trivial | rfl | exact ⟨rfl, rfl⟩ | exact ⟨rfl, rfl, rfl⟩ | exact ⟨rfl, rfl, rfl, rfl⟩ | exact ⟨rfl, rfl, rfl, rfl, rfl⟩ | exact congrArg (fun z : Int => E.v (.int .i64 z)) (wrap64_id (by omega) (by omega)) | exact congrArg (fun z : Int => E.v (.int .u8 z)) (by assumption) | exact congrArg (fun z : ByteArray => E.v (.string z)) (by assumption) | (refine ⟨rfl, ?_⟩; repeat' first | exact trivial | rfl | apply And.intro)) (memOk_box rfl rfl ⟨trivial, trivial, trivial⟩ (memOk_box rfl rfl rfl (memOk_box rfl rfl rfl trivial)))) ?_
      repeat' (first | refine tr_seq ?_ | refine tr_block ?_ | refine tr_skip ?_)
      refine tr_region (lex (T := tab) tOk hnt rfl ?_ (callH (us := []) [] [] [(3000, 3000)] rfl rfl rfl rfl (hF) (by repeat' first | exact .nil | refine .lent rfl rfl rfl ?_ | refine .data rfl ?_) (fun _ => rfl) rfl rfl hnt rfl rfl (by repeat' first | exact trivial | rfl | apply And.intro) (by repeat' first | exact trivial | rfl | apply And.intro) (lex (T := tab) tOk hnt rfl ?_ (Lex.nil _)))) ?_
      · (dsimp only [AllP]; (repeat' first | exact trivial | assumption | exact Nat.le_of_ble_eq_true rfl | apply And.intro | exact eCells_len1 _ _ ‹_› | exact eCells_isByte _ _ ‹_› | (intro hh_; have hg_ := hh_; (try simp only [condT_ff, condF_tt, notE_t, notE_f, Bool.and_eq_true, ne_eq, decide_eq_true_eq, decide_eq_false_iff_not] at hg_)) | intro _ | exact rfl | omega))
        all_goals trace_state
      · (dsimp only [AllP]; (repeat' first | exact trivial | assumption | exact Nat.le_of_ble_eq_true rfl | apply And.intro | exact eCells_len1 _ _ ‹_› | exact eCells_isByte _ _ ‹_› | (intro hh_; have hg_ := hh_; (try simp only [condT_ff, condF_tt, notE_t, notE_f, Bool.and_eq_true, ne_eq, decide_eq_true_eq, decide_eq_false_iff_not] at hg_)) | intro _ | exact rfl | omega))
        all_goals trace_state
      refine tr_le (le_box1 19 rfl rfl rfl) ?_
      refine tr_le (s' := St.of [(2, .one (.e (eI ((m : Nat) : Int)))), (6, .one (.ptr 6 0 0)), (14, .one (.e (.sl (eWs (ptS t s0 n))))), (17, .one (.ptr 17 0 0)), (18, .one (.e (eI ((n : Nat) : Int)))), (19, .one (.ptr 19 0 0)), (20, .one (.e (eI (i : Int))))] [(6, ⟨0, .box (.ds [.nil, .nil]), 0⟩), (17, ⟨0, .box (.es (ePut ⟨0, hdB t.length⟩)), 0⟩), (19, ⟨0, .box (.ds [.e (.sl (eLs (ptL di.l di.w))), .nil]), 0⟩)]) (le_of (ad := []) (by refine ⟨?_, ?_, ?_, ?_, ?_, ?_, ?_, trivial⟩ <;> first | exact trivial | rfl | exact ⟨rfl, rfl⟩ | exact ⟨rfl, rfl, rfl⟩ | exact ⟨rfl, rfl, rfl, rfl⟩ | exact ⟨rfl, rfl, rfl, rfl, rfl⟩ | exact congrArg (fun z : Int => E.v (.int .i64 z)) (wrap64_id (by omega) (by omega)) | exact congrArg (fun z : Int => E.v (.int .u8 z)) (by assumption) | exact congrArg (fun z : ByteArray => E.v (.string z)) (by assumption) | (refine ⟨rfl, ?_⟩; repeat' first | exact trivial | rfl | apply And.intro)) (memOk_box rfl rfl ⟨trivial, trivial, trivial⟩ (memOk_box rfl rfl rfl (memOk_box rfl rfl ⟨rfl, trivial, trivial⟩ trivial)))) ?_
      refine tr_le (s' := St.of [(2, .one (.e (eI ((m : Nat) : Int)))), (6, .one (.ptr 6 0 0)), (14, .one (.e (.sl (eWs (ptS t s0 n))))), (17, .one (.ptr 17 0 0)), (18, .one (.e (eI ((n : Nat) : Int)))), (19, .one (.ptr 19 0 0)), (20, .one (.e (eI (i : Int))))] [(6, ⟨0, .box (.ds [.nil, .nil]), 0⟩), (17, ⟨0, .box (.es (ePut ⟨0, hdB t.length⟩)), 0⟩), (19, ⟨0, .box (.ds [.e (.sl (eLs (ptL di.l di.w))), .own 60 0]), 0⟩), (60, ⟨0, .row 33 [], 0⟩)]) (le_of (ad := [60]) (by refine ⟨?_, ?_, ?_, ?_, ?_, ?_, ?_, trivial⟩ <;> first | exact trivial | rfl | exact ⟨rfl, rfl⟩ | exact ⟨rfl, rfl, rfl⟩ | exact ⟨rfl, rfl, rfl, rfl⟩ | exact ⟨rfl, rfl, rfl, rfl, rfl⟩ | exact congrArg (fun z : Int => E.v (.int .i64 z)) (wrap64_id (by omega) (by omega)) | exact congrArg (fun z : Int => E.v (.int .u8 z)) (by assumption) | exact congrArg (fun z : ByteArray => E.v (.string z)) (by assumption) | (refine ⟨rfl, ?_⟩; repeat' first | exact trivial | rfl | apply And.intro)) (memOk_box rfl rfl ⟨trivial, trivial, trivial⟩ (memOk_box rfl rfl rfl (memOk_box rfl rfl ⟨rfl, ⟨rfl, rfl⟩, trivial⟩ (memOk_new rfl (by decide) trivial))))) ?_
      repeat' (first | refine tr_seq ?_ | refine reg (T := tab) tOk hnt rfl ?_ ?_ | refine regD (T := tab) tOk mixedR hnt rfl (by first | decide +kernel | kernel_rfl) ?_ ?_ | refine tr_block ?_ | refine tr_skip ?_)
      · (dsimp only [AllP]; (repeat' first | exact trivial | assumption | exact Nat.le_of_ble_eq_true rfl | apply And.intro | decide | intro _ | exact rfl))
      rw [hi1]
      have k3 : E.sl (eLs (ptL di.l di.w)) = E.sl (eLs (trj d.l t s0 n (i + 1)).l) := by rw [hsy2]
      refine ⟨i + 1, (by omega), by omega, le_of (ad := []) (by refine ⟨?_, ?_, ?_, ?_, ?_, ?_, ?_, trivial⟩ <;> first | exact trivial | rfl | exact ⟨rfl, rfl⟩ | exact ⟨rfl, rfl, rfl⟩ | exact ⟨rfl, rfl, rfl, rfl⟩ | exact ⟨rfl, rfl, rfl, rfl, rfl⟩ | exact congrArg (fun z : Int => E.v (.int .i64 z)) (wrap64_id (by omega) (by omega)) | exact congrArg (fun z : Int => E.v (.int .u8 z)) (by assumption) | exact congrArg (fun z : ByteArray => E.v (.string z)) (by assumption) | (refine ⟨rfl, ?_⟩; repeat' first | exact trivial | rfl | apply And.intro)) (memOk_box rfl rfl ⟨trivial, trivial, trivial⟩ (memOk_box rfl rfl rfl (memOk_box rfl rfl ⟨k3, ⟨rfl, rfl, rfl, rfl⟩, trivial⟩ (memOk_row rfl rfl (by rw [hsy2]; rfl) trivial))))⟩
    simp only [condT_tt, condT_ff, condF_tt, condF_ff, notE_t, notE_f, decide_eq_true_eq, decide_eq_false_iff_not] at hc
    refine tr_exit ?_
    have him : i = m := by omega
    subst him
    repeat' (first | refine tr_seq ?_ | refine reg (T := tab) tOk hnt rfl ?_ ?_ | refine regD (T := tab) tOk mixedR hnt rfl (by first | decide +kernel | kernel_rfl) ?_ ?_ | refine tr_block ?_ | refine tr_skip ?_)
    · (dsimp only [AllP]; (repeat' first | exact trivial | assumption | exact Nat.le_of_ble_eq_true rfl | apply And.intro | decide | intro _ | exact rfl))
    refine tr_ret ⟨.inr rfl, _, _, rfl, by (repeat' first | exact trivial | exact Nat.le_of_ble_eq_true rfl | apply And.intro), ?_⟩
    rw [hn3]
    exact rfl
end Go.Proofs.Ytphaholcndhonaa
