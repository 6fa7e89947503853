/- An empty place of a state: deed.blank, the document's emptyTable. No condition. -/
import Derived.Test.YtphaholcndhonaaDoorTTab2
namespace Go.Proofs.YtphaholcndhonaaDoor
open Go Go.RowKit Go.Proofs.YtphaholcndhonaaDoor.Ab
set_option linter.unusedSimpArgs false
set_option linter.unusedVariables false

/-- something is in a cell -/
def celN (c : Cel) : Bool := c.f || decide (0 < c.r.length)
def drN (d : List Cel) : Bool := d.any celN
def blF (t : Tbl) : Bool := !(t.d.any drN) && !t.th && decide (t.n = []) && decide (t.c = [])
theorem eTab1 (t : Tbl) : ((eTab t).getD (0 + 1) E.dflt).str = strB t.n := rfl
theorem eTab2 (t : Tbl) : ((eTab t).getD (0 + 2) E.dflt).xs.length = t.c.length := List.length_map ..
theorem blEnd (th : Bool) (n : Byt) (c : List Colm) (d : List (List Cel)) (f : Bool) (h : d.any drN = f) : (bif (bif (bif !f then !th else false) then strEq (strB n) ⟨#[]⟩ else false) then decide ((c.length : Int) = 0) else false) = blF ⟨th, n, c, d⟩ := by
  rw [strEq_nil]
  show _ = (!(d.any drN) && !th && decide (n = []) && decide (c = []))
  rw [h]
  cases f <;> cases th <;> cases n <;> cases c <;> first | rfl | simp
theorem blEnd0 (th : Bool) (n : Byt) (c : List Colm) (d : List (List Cel)) (h : d.any drN = false) : (bif (bif !th then strEq (strB n) ⟨#[]⟩ else false) then decide ((c.length : Int) = 0) else false) = blF ⟨th, n, c, d⟩ := blEnd th n c d false h
set_option linter.unusedVariables false
set_option maxRecDepth 10000 in
set_option maxHeartbeats 2000000 in
theorem blank_fn (t : Tbl) (h : t.ok) : FnD Tryd.prog 61 [.agg (.es (eTab t))] (.v (.bool (blF t))) := by
  refine fn_intro (T := tab) tOk Tryd.func61 rfl (by kernel_rfl) (by simp [Tryd.ntmps61]) ?_
  intro X hX
  have hnt : X.nt = 40 := hX
  clear hX
  have h19 := tabLen h
  have hd := tabDr h
  have f19 : 0 + 19 ≤ (Cs.es (eTab t)).len := by show 0 + 19 ≤ (eTab t).length; omega
  have f16 : 0 + 3 + 16 ≤ (Cs.es (eTab t)).len := f19
  obtain ⟨th, n, c, d⟩ := t
  repeat' (first | refine tr_seq ?_ | refine tr_block ?_ | refine tr_skip ?_)
  first | refine reg (T := tab) tOk hnt rfl ?_ ?_ | refine regD (T := tab) tOk mixedR hnt rfl (by first | decide +kernel | kernel_rfl) ?_ ?_
  · (dsimp only [AllP]; (repeat' first | exact trivial | assumption | exact Nat.le_of_ble_eq_true rfl | apply And.intro | exact eCells_len1 _ _ ‹_› | exact eCells_isByte _ _ ‹_› | (intro hh_; have hg_ := hh_; (try simp only [condT_ff, condF_tt, notE_t, notE_f, Bool.and_eq_true, ne_eq, decide_eq_true_eq, decide_eq_false_iff_not] at hg_)) | intro _ | exact rfl | omega))
  repeat' (first | refine tr_seq ?_ | refine tr_block ?_ | refine tr_skip ?_)
  first | refine reg (T := tab) tOk hnt rfl ?_ ?_ | refine regD (T := tab) tOk mixedR hnt rfl (by first | decide +kernel | kernel_rfl) ?_ ?_
  · (dsimp only [AllP]; (repeat' first | exact trivial | assumption | exact Nat.le_of_ble_eq_true rfl | apply And.intro | exact eCells_len1 _ _ ‹_› | exact eCells_isByte _ _ ‹_› | (intro hh_; have hg_ := hh_; (try simp only [condT_ff, condF_tt, notE_t, notE_f, Bool.and_eq_true, ne_eq, decide_eq_true_eq, decide_eq_false_iff_not] at hg_)) | intro _ | exact rfl | omega))
  rw [hd]
  repeat' (first | refine tr_seq ?_ | refine tr_block ?_ | refine tr_skip ?_)
  refine tr_loop (σ := Nat) (fun i => St.of [(1, .one (.ptr 1 0 0)), (8, .agg (.es (d.map eDr).flatten)), (9, .one (.e (eI (i : Int))))] [(1, ⟨0, .box (.es (eTab ⟨th, n, c, d⟩)), 0⟩)]) (fun i => (d.drop i).any drN = d.any drN ∧ i ≤ d.length) (fun i => d.length - i) (0) (le_of (ad := []) (by refine ⟨?_, ?_, ?_, trivial⟩ <;> first | exact trivial | rfl | exact ⟨rfl, rfl⟩ | exact ⟨rfl, rfl, rfl⟩ | exact ⟨rfl, rfl, rfl, rfl⟩ | exact ⟨rfl, rfl, rfl, rfl, rfl⟩ | exact congrArg (fun z : Int => E.v (.int .i64 z)) (wrap64_id (by omega) (by omega)) | exact congrArg (fun z : Int => E.v (.int .u8 z)) (by assumption) | exact congrArg (fun z : ByteArray => E.v (.string z)) (by assumption) | (refine ⟨rfl, ?_⟩; repeat' first | exact trivial | rfl | apply And.intro)) (memOk_box rfl rfl rfl trivial)) ⟨rfl, Nat.zero_le _⟩ ?_
  rintro i ⟨hi, il⟩
  have h2 : d.length = 2 := h.h2
  repeat' (first | refine tr_seq ?_ | refine reg (T := tab) tOk hnt rfl ?_ ?_ | refine regD (T := tab) tOk mixedR hnt rfl (by first | decide +kernel | kernel_rfl) ?_ ?_ | refine tr_block ?_ | refine tr_skip ?_)
  · (dsimp only [AllP]; (repeat' first | exact trivial | assumption | exact Nat.le_of_ble_eq_true rfl | apply And.intro | decide | intro _ | exact rfl))
  repeat' (first | refine tr_seq ?_ | refine tr_block ?_ | refine tr_skip ?_)
  refine tr_cond rfl (fun hc => ?_) (fun hc => ?_)
  · simp only [condT_tt, condT_ff, condF_tt, condF_ff, notE_t, notE_f, decide_eq_true_eq, decide_eq_false_iff_not] at hc
    have hlt : i < d.length := by omega
    rw [drop_getD (d := []) hlt, List.any_cons] at hi
    have hg : List.take 8 (List.drop ((i : Int).toNat * 8) (d.map eDr).flatten) = eDr (d.getD i []) := drGet h.h4 i hlt
    have hdm : d.getD i [] ∈ d := by
      rw [List.getD_eq_getElem?_getD, List.getElem?_eq_getElem hlt]
      exact List.getElem_mem hlt
    have h4 : (d.getD i []).length = 4 := h.h4 _ hdm
    have h8 := drLen _ h4
    have e8 : (Cs.es (List.take 8 (List.drop ((i : Int).toNat * 8) (d.map eDr).flatten))).len = 8 := by rw [hg]; exact h8
    have l8 : i * 8 + 8 ≤ (Cs.es (d.map eDr).flatten).len := by rw [← hd]; show _ ≤ (List.take 16 _).length; rw [List.length_take, List.length_drop, h19]; omega
    repeat' (first | refine tr_seq ?_ | refine tr_block ?_ | refine tr_skip ?_)
    first | refine reg (T := tab) tOk hnt rfl ?_ ?_ | refine regD (T := tab) tOk mixedR hnt rfl (by first | decide +kernel | kernel_rfl) ?_ ?_
    · (dsimp only [AllP]; (repeat' first | exact trivial | assumption | exact Nat.le_of_ble_eq_true rfl | apply And.intro | exact eCells_len1 _ _ ‹_› | exact eCells_isByte _ _ ‹_› | (intro hh_; have hg_ := hh_; (try simp only [condT_ff, condF_tt, notE_t, notE_f, Bool.and_eq_true, ne_eq, decide_eq_true_eq, decide_eq_false_iff_not] at hg_)) | intro _ | exact rfl | omega))
    rw [hg]
    generalize d.getD i [] = e at *
    have f8 : 0 + 8 ≤ (Cs.es (eDr e)).len := by show 0 + 8 ≤ (eDr e).length; omega
    repeat' (first | refine tr_seq ?_ | refine tr_block ?_ | refine tr_skip ?_)
    first | refine reg (T := tab) tOk hnt rfl ?_ ?_ | refine regD (T := tab) tOk mixedR hnt rfl (by first | decide +kernel | kernel_rfl) ?_ ?_
    · (dsimp only [AllP]; (repeat' first | exact trivial | assumption | exact Nat.le_of_ble_eq_true rfl | apply And.intro | exact eCells_len1 _ _ ‹_› | exact eCells_isByte _ _ ‹_› | (intro hh_; have hg_ := hh_; (try simp only [condT_ff, condF_tt, notE_t, notE_f, Bool.and_eq_true, ne_eq, decide_eq_true_eq, decide_eq_false_iff_not] at hg_)) | intro _ | exact rfl | omega))
    rw [show List.take 8 (List.drop 0 (eDr e)) = eDr e from List.take_of_length_le (Nat.le_of_eq h8)]
    repeat' (first | refine tr_seq ?_ | refine tr_block ?_ | refine tr_skip ?_)
    refine tr_loop (σ := Nat) (fun j => St.of [(1, .one (.ptr 1 0 0)), (8, .agg (.es (d.map eDr).flatten)), (9, .one (.e (eI (i : Int)))), (12, .agg (.es (eDr e))), (13, .one (.e (eI (j : Int))))] [(1, ⟨0, .box (.es (eTab ⟨th, n, c, d⟩)), 0⟩)]) (fun j => (e.drop j).any celN = drN e ∧ j ≤ e.length) (fun j => e.length - j) (0) (le_of (ad := []) (by refine ⟨?_, ?_, ?_, ?_, ?_, trivial⟩ <;> first | exact trivial | rfl | exact ⟨rfl, rfl⟩ | exact ⟨rfl, rfl, rfl⟩ | exact ⟨rfl, rfl, rfl, rfl⟩ | exact ⟨rfl, rfl, rfl, rfl, rfl⟩ | exact congrArg (fun z : Int => E.v (.int .i64 z)) (wrap64_id (by omega) (by omega)) | exact congrArg (fun z : Int => E.v (.int .u8 z)) (by assumption) | exact congrArg (fun z : ByteArray => E.v (.string z)) (by assumption) | (refine ⟨rfl, ?_⟩; repeat' first | exact trivial | rfl | apply And.intro)) (memOk_box rfl rfl rfl trivial)) ⟨rfl, Nat.zero_le _⟩ ?_
    rintro j ⟨hj, jl⟩
    repeat' (first | refine tr_seq ?_ | refine reg (T := tab) tOk hnt rfl ?_ ?_ | refine regD (T := tab) tOk mixedR hnt rfl (by first | decide +kernel | kernel_rfl) ?_ ?_ | refine tr_block ?_ | refine tr_skip ?_)
    · (dsimp only [AllP]; (repeat' first | exact trivial | assumption | exact Nat.le_of_ble_eq_true rfl | apply And.intro | decide | intro _ | exact rfl))
    repeat' (first | refine tr_seq ?_ | refine tr_block ?_ | refine tr_skip ?_)
    refine tr_cond rfl (fun hc => ?_) (fun hc => ?_)
    · simp only [condT_tt, condT_ff, condF_tt, condF_ff, notE_t, notE_f, decide_eq_true_eq, decide_eq_false_iff_not] at hc
      have hjt : j < e.length := by omega
      rw [drop_getD (d := cel0) hjt, List.any_cons] at hj
      have hg2 : List.take 2 (List.drop ((j : Int).toNat * 2) (eDr e)) = eCel (e.getD j cel0) := flatGet eCel 2 cel0 (fun _ => rfl) e j hjt
      have e2 : (Cs.es (List.take 2 (List.drop ((j : Int).toNat * 2) (eDr e)))).len = 2 := congrArg List.length hg2
      have l2 : j * 2 + 2 ≤ (Cs.es (eDr e)).len := by show _ ≤ (eDr e).length; omega
      repeat' (first | refine tr_seq ?_ | refine tr_block ?_ | refine tr_skip ?_)
      first | refine reg (T := tab) tOk hnt rfl ?_ ?_ | refine regD (T := tab) tOk mixedR hnt rfl (by first | decide +kernel | kernel_rfl) ?_ ?_
      · (dsimp only [AllP]; (repeat' first | exact trivial | assumption | exact Nat.le_of_ble_eq_true rfl | apply And.intro | exact eCells_len1 _ _ ‹_› | exact eCells_isByte _ _ ‹_› | (intro hh_; have hg_ := hh_; (try simp only [condT_ff, condF_tt, notE_t, notE_f, Bool.and_eq_true, ne_eq, decide_eq_true_eq, decide_eq_false_iff_not] at hg_)) | intro _ | exact rfl | omega))
      rw [hg2]
      generalize e.getD j cel0 = x at *
      obtain ⟨xf, xr⟩ := x
      have hml : (xr.map eVal).length = xr.length := List.length_map ..
      repeat' (first | refine tr_seq ?_ | refine tr_block ?_ | refine tr_skip ?_)
      first | refine reg (T := tab) tOk hnt rfl ?_ ?_ | refine regD (T := tab) tOk mixedR hnt rfl (by first | decide +kernel | kernel_rfl) ?_ ?_
      · (dsimp only [AllP]; (repeat' first | exact trivial | assumption | exact Nat.le_of_ble_eq_true rfl | apply And.intro | exact eCells_len1 _ _ ‹_› | exact eCells_isByte _ _ ‹_› | (intro hh_; have hg_ := hh_; (try simp only [condT_ff, condF_tt, notE_t, notE_f, Bool.and_eq_true, ne_eq, decide_eq_true_eq, decide_eq_false_iff_not] at hg_)) | intro _ | exact rfl | omega))
      have hcc : (bif xf then true else decide ((0 : Int) < ((xr.map eVal).length : Int))) = celN ⟨xf, xr⟩ := by
        rw [hml]
        show _ = (xf || decide (0 < xr.length))
        cases xf
        · simp
        · first | rfl | exact ⟨rfl, rfl⟩ | exact ⟨rfl, rfl, rfl⟩ | exact ⟨rfl, rfl, rfl, rfl⟩ | exact ⟨rfl, rfl, rfl, rfl, rfl⟩
      repeat' (first | refine tr_seq ?_ | refine tr_block ?_ | refine tr_skip ?_)
      refine tr_cond rfl (fun hc => ?_) (fun hc => ?_)
      · have hc : celN ⟨xf, xr⟩ = true := hcc.symm.trans hc
        rw [hc, Bool.true_or] at hj
        rw [← hj, Bool.true_or] at hi
        have hb : blF ⟨th, n, c, d⟩ = false := by
          show (!(d.any drN) && !th && decide (n = []) && decide (c = [])) = false
          rw [← hi]
          rfl
        rw [hb]
        repeat' (first | refine tr_seq ?_ | refine reg (T := tab) tOk hnt rfl ?_ ?_ | refine regD (T := tab) tOk mixedR hnt rfl (by first | decide +kernel | kernel_rfl) ?_ ?_ | refine tr_block ?_ | refine tr_skip ?_)
        · (dsimp only [AllP]; (repeat' first | exact trivial | assumption | exact Nat.le_of_ble_eq_true rfl | apply And.intro | decide | intro _ | exact rfl))
        exact tr_ret ⟨.inr rfl, _, _, rfl, trivial, rfl⟩
      have hc : celN ⟨xf, xr⟩ = false := hcc.symm.trans hc
      rw [hc, Bool.false_or] at hj
      repeat' (first | refine tr_seq ?_ | refine reg (T := tab) tOk hnt rfl ?_ ?_ | refine regD (T := tab) tOk mixedR hnt rfl (by first | decide +kernel | kernel_rfl) ?_ ?_ | refine tr_block ?_ | refine tr_skip ?_)
      · (dsimp only [AllP]; (repeat' first | exact trivial | assumption | exact Nat.le_of_ble_eq_true rfl | apply And.intro | decide | intro _ | exact rfl))
      refine ⟨j + 1, ⟨hj, by omega⟩, by omega, le_of (ad := []) (by refine ⟨?_, ?_, ?_, ?_, ?_, trivial⟩ <;> first | exact trivial | rfl | exact ⟨rfl, rfl⟩ | exact ⟨rfl, rfl, rfl⟩ | exact ⟨rfl, rfl, rfl, rfl⟩ | exact ⟨rfl, rfl, rfl, rfl, rfl⟩ | exact congrArg (fun z : Int => E.v (.int .i64 z)) (wrap64_id (by omega) (by omega)) | exact congrArg (fun z : Int => E.v (.int .u8 z)) (by assumption) | exact congrArg (fun z : ByteArray => E.v (.string z)) (by assumption) | (refine ⟨rfl, ?_⟩; repeat' first | exact trivial | rfl | apply And.intro)) (memOk_box rfl rfl rfl trivial)⟩
    simp only [condT_tt, condT_ff, condF_tt, condF_ff, notE_t, notE_f, decide_eq_true_eq, decide_eq_false_iff_not] at hc
    refine tr_exit ?_
    rw [List.drop_eq_nil_of_le (by omega), List.any_nil] at hj
    rw [← hj, Bool.false_or] at hi
    repeat' (first | refine tr_seq ?_ | refine reg (T := tab) tOk hnt rfl ?_ ?_ | refine regD (T := tab) tOk mixedR hnt rfl (by first | decide +kernel | kernel_rfl) ?_ ?_ | refine tr_block ?_ | refine tr_skip ?_)
    · (dsimp only [AllP]; (repeat' first | exact trivial | assumption | exact Nat.le_of_ble_eq_true rfl | apply And.intro | decide | intro _ | exact rfl))
    refine ⟨i + 1, ⟨hi, by omega⟩, by omega, le_of (ad := []) (by refine ⟨?_, ?_, ?_, trivial⟩ <;> first | exact trivial | rfl | exact ⟨rfl, rfl⟩ | exact ⟨rfl, rfl, rfl⟩ | exact ⟨rfl, rfl, rfl, rfl⟩ | exact ⟨rfl, rfl, rfl, rfl, rfl⟩ | exact congrArg (fun z : Int => E.v (.int .i64 z)) (wrap64_id (by omega) (by omega)) | exact congrArg (fun z : Int => E.v (.int .u8 z)) (by assumption) | exact congrArg (fun z : ByteArray => E.v (.string z)) (by assumption) | (refine ⟨rfl, ?_⟩; repeat' first | exact trivial | rfl | apply And.intro)) (memOk_box rfl rfl rfl trivial)⟩
  simp only [condT_tt, condT_ff, condF_tt, condF_ff, notE_t, notE_f, decide_eq_true_eq, decide_eq_false_iff_not] at hc
  refine tr_exit ?_
  rw [List.drop_eq_nil_of_le (by omega), List.any_nil] at hi
  have hx := eTab2 ⟨th, n, c, d⟩
  repeat' (first | refine tr_seq ?_ | refine tr_block ?_ | refine tr_skip ?_)
  first | refine reg (T := tab) tOk hnt rfl ?_ ?_ | refine regD (T := tab) tOk mixedR hnt rfl (by first | decide +kernel | kernel_rfl) ?_ ?_
  · (dsimp only [AllP]; (repeat' first | exact trivial | assumption | exact Nat.le_of_ble_eq_true rfl | apply And.intro | exact eCells_len1 _ _ ‹_› | exact eCells_isByte _ _ ‹_› | (intro hh_; have hg_ := hh_; (try simp only [condT_ff, condF_tt, notE_t, notE_f, Bool.and_eq_true, ne_eq, decide_eq_true_eq, decide_eq_false_iff_not] at hg_)) | intro _ | exact rfl | omega))
  refine tr_ret ⟨.inr rfl, _, _, rfl, trivial, ?_⟩
  refine congrArg (fun z : Bool => D.v (.bool z)) ?_
  have h0 := blEnd0 th n c d hi.symm
  rw [← h0]
  have hx : (((eTab ⟨th, n, c, d⟩).getD (0 + 2) E.dflt).xs.length : Int) = (c.length : Int) := by rw [hx]
  rw [← hx]
  rfl
set_option maxRecDepth 10000 in
set_option maxHeartbeats 2000000 in
theorem empty_fn (t : Tbl) (h : t.ok) : FnD Tryd.prog 64 [.agg (.es (eTab t))] (.v (.bool (blF t))) := by
  refine fn_intro (T := tab) tOk Tryd.func64 rfl (by kernel_rfl) (by simp [Tryd.ntmps64]) ?_
  intro X hX
  have hnt : X.nt = 48 := hX
  clear hX
  have h19 := tabLen h
  have hd := tabDr h
  have f19 : 0 + 19 ≤ (Cs.es (eTab t)).len := by show 0 + 19 ≤ (eTab t).length; omega
  have f16 : 0 + 3 + 16 ≤ (Cs.es (eTab t)).len := f19
  obtain ⟨th, n, c, d⟩ := t
  repeat' (first | refine tr_seq ?_ | refine tr_block ?_ | refine tr_skip ?_)
  first | refine reg (T := tab) tOk hnt rfl ?_ ?_ | refine regD (T := tab) tOk mixedR hnt rfl (by first | decide +kernel | kernel_rfl) ?_ ?_
  · (dsimp only [AllP]; (repeat' first | exact trivial | assumption | exact Nat.le_of_ble_eq_true rfl | apply And.intro | exact eCells_len1 _ _ ‹_› | exact eCells_isByte _ _ ‹_› | (intro hh_; have hg_ := hh_; (try simp only [condT_ff, condF_tt, notE_t, notE_f, Bool.and_eq_true, ne_eq, decide_eq_true_eq, decide_eq_false_iff_not] at hg_)) | intro _ | exact rfl | omega))
  repeat' (first | refine tr_seq ?_ | refine tr_block ?_ | refine tr_skip ?_)
  first | refine reg (T := tab) tOk hnt rfl ?_ ?_ | refine regD (T := tab) tOk mixedR hnt rfl (by first | decide +kernel | kernel_rfl) ?_ ?_
  · (dsimp only [AllP]; (repeat' first | exact trivial | assumption | exact Nat.le_of_ble_eq_true rfl | apply And.intro | exact eCells_len1 _ _ ‹_› | exact eCells_isByte _ _ ‹_› | (intro hh_; have hg_ := hh_; (try simp only [condT_ff, condF_tt, notE_t, notE_f, Bool.and_eq_true, ne_eq, decide_eq_true_eq, decide_eq_false_iff_not] at hg_)) | intro _ | exact rfl | omega))
  repeat' (first | refine tr_seq ?_ | refine tr_block ?_ | refine tr_skip ?_)
  first | refine reg (T := tab) tOk hnt rfl ?_ ?_ | refine regD (T := tab) tOk mixedR hnt rfl (by first | decide +kernel | kernel_rfl) ?_ ?_
  · (dsimp only [AllP]; (repeat' first | exact trivial | assumption | exact Nat.le_of_ble_eq_true rfl | apply And.intro | exact eCells_len1 _ _ ‹_› | exact eCells_isByte _ _ ‹_› | (intro hh_; have hg_ := hh_; (try simp only [condT_ff, condF_tt, notE_t, notE_f, Bool.and_eq_true, ne_eq, decide_eq_true_eq, decide_eq_false_iff_not] at hg_)) | intro _ | exact rfl | omega))
  rw [hd]
  repeat' (first | refine tr_seq ?_ | refine tr_block ?_ | refine tr_skip ?_)
  refine tr_loop (σ := Nat × Bool) (fun s => St.of [(1, .one (.ptr 1 0 0)), (3, .one (.e (eBl s.2))), (9, .agg (.es (d.map eDr).flatten)), (10, .one (.e (eI (s.1 : Int))))] [(1, ⟨0, .box (.es (eTab ⟨th, n, c, d⟩)), 0⟩)]) (fun s => (s.2 || (d.drop s.1).any drN) = d.any drN ∧ s.1 ≤ d.length) (fun s => d.length - s.1) ((0, false)) (le_of (ad := []) (by refine ⟨?_, ?_, ?_, ?_, trivial⟩ <;> first | exact trivial | rfl | exact ⟨rfl, rfl⟩ | exact ⟨rfl, rfl, rfl⟩ | exact ⟨rfl, rfl, rfl, rfl⟩ | exact ⟨rfl, rfl, rfl, rfl, rfl⟩ | exact congrArg (fun z : Int => E.v (.int .i64 z)) (wrap64_id (by omega) (by omega)) | exact congrArg (fun z : Int => E.v (.int .u8 z)) (by assumption) | exact congrArg (fun z : ByteArray => E.v (.string z)) (by assumption) | (refine ⟨rfl, ?_⟩; repeat' first | exact trivial | rfl | apply And.intro)) (memOk_box rfl rfl rfl trivial)) ⟨rfl, Nat.zero_le _⟩ ?_
  rintro ⟨i, f⟩ ⟨hi, il⟩
  dsimp only at hi il ⊢
  have h2 : d.length = 2 := h.h2
  repeat' (first | refine tr_seq ?_ | refine reg (T := tab) tOk hnt rfl ?_ ?_ | refine regD (T := tab) tOk mixedR hnt rfl (by first | decide +kernel | kernel_rfl) ?_ ?_ | refine tr_block ?_ | refine tr_skip ?_)
  · (dsimp only [AllP]; (repeat' first | exact trivial | assumption | exact Nat.le_of_ble_eq_true rfl | apply And.intro | decide | intro _ | exact rfl))
  repeat' (first | refine tr_seq ?_ | refine tr_block ?_ | refine tr_skip ?_)
  refine tr_cond rfl (fun hc => ?_) (fun hc => ?_)
  · simp only [condT_tt, condT_ff, condF_tt, condF_ff, notE_t, notE_f, decide_eq_true_eq, decide_eq_false_iff_not] at hc
    have hlt : i < d.length := by omega
    rw [drop_getD (d := []) hlt, List.any_cons] at hi
    have hg : List.take 8 (List.drop ((i : Int).toNat * 8) (d.map eDr).flatten) = eDr (d.getD i []) := drGet h.h4 i hlt
    have hdm : d.getD i [] ∈ d := by
      rw [List.getD_eq_getElem?_getD, List.getElem?_eq_getElem hlt]
      exact List.getElem_mem hlt
    have h4 : (d.getD i []).length = 4 := h.h4 _ hdm
    have h8 := drLen _ h4
    have e8 : (Cs.es (List.take 8 (List.drop ((i : Int).toNat * 8) (d.map eDr).flatten))).len = 8 := by rw [hg]; exact h8
    have l8 : i * 8 + 8 ≤ (Cs.es (d.map eDr).flatten).len := by rw [← hd]; show _ ≤ (List.take 16 _).length; rw [List.length_take, List.length_drop, h19]; omega
    repeat' (first | refine tr_seq ?_ | refine tr_block ?_ | refine tr_skip ?_)
    first | refine reg (T := tab) tOk hnt rfl ?_ ?_ | refine regD (T := tab) tOk mixedR hnt rfl (by first | decide +kernel | kernel_rfl) ?_ ?_
    · (dsimp only [AllP]; (repeat' first | exact trivial | assumption | exact Nat.le_of_ble_eq_true rfl | apply And.intro | exact eCells_len1 _ _ ‹_› | exact eCells_isByte _ _ ‹_› | (intro hh_; have hg_ := hh_; (try simp only [condT_ff, condF_tt, notE_t, notE_f, Bool.and_eq_true, ne_eq, decide_eq_true_eq, decide_eq_false_iff_not] at hg_)) | intro _ | exact rfl | omega))
    rw [hg]
    generalize d.getD i [] = e at *
    have f8 : 0 + 8 ≤ (Cs.es (eDr e)).len := by show 0 + 8 ≤ (eDr e).length; omega
    repeat' (first | refine tr_seq ?_ | refine tr_block ?_ | refine tr_skip ?_)
    first | refine reg (T := tab) tOk hnt rfl ?_ ?_ | refine regD (T := tab) tOk mixedR hnt rfl (by first | decide +kernel | kernel_rfl) ?_ ?_
    · (dsimp only [AllP]; (repeat' first | exact trivial | assumption | exact Nat.le_of_ble_eq_true rfl | apply And.intro | exact eCells_len1 _ _ ‹_› | exact eCells_isByte _ _ ‹_› | (intro hh_; have hg_ := hh_; (try simp only [condT_ff, condF_tt, notE_t, notE_f, Bool.and_eq_true, ne_eq, decide_eq_true_eq, decide_eq_false_iff_not] at hg_)) | intro _ | exact rfl | omega))
    rw [show List.take 8 (List.drop 0 (eDr e)) = eDr e from List.take_of_length_le (Nat.le_of_eq h8)]
    repeat' (first | refine tr_seq ?_ | refine tr_block ?_ | refine tr_skip ?_)
    refine tr_loop (σ := Nat × Bool) (fun s => St.of [(1, .one (.ptr 1 0 0)), (3, .one (.e (eBl s.2))), (9, .agg (.es (d.map eDr).flatten)), (10, .one (.e (eI (i : Int)))), (13, .agg (.es (eDr e))), (14, .one (.e (eI (s.1 : Int))))] [(1, ⟨0, .box (.es (eTab ⟨th, n, c, d⟩)), 0⟩)]) (fun s => (s.2 || (e.drop s.1).any celN) = (f || drN e) ∧ s.1 ≤ e.length) (fun s => e.length - s.1) ((0, f)) (le_of (ad := []) (by refine ⟨?_, ?_, ?_, ?_, ?_, ?_, trivial⟩ <;> first | exact trivial | rfl | exact ⟨rfl, rfl⟩ | exact ⟨rfl, rfl, rfl⟩ | exact ⟨rfl, rfl, rfl, rfl⟩ | exact ⟨rfl, rfl, rfl, rfl, rfl⟩ | exact congrArg (fun z : Int => E.v (.int .i64 z)) (wrap64_id (by omega) (by omega)) | exact congrArg (fun z : Int => E.v (.int .u8 z)) (by assumption) | exact congrArg (fun z : ByteArray => E.v (.string z)) (by assumption) | (refine ⟨rfl, ?_⟩; repeat' first | exact trivial | rfl | apply And.intro)) (memOk_box rfl rfl rfl trivial)) ⟨rfl, Nat.zero_le _⟩ ?_
    rintro ⟨j, f2⟩ ⟨hj, jl⟩
    dsimp only at hj jl ⊢
    repeat' (first | refine tr_seq ?_ | refine reg (T := tab) tOk hnt rfl ?_ ?_ | refine regD (T := tab) tOk mixedR hnt rfl (by first | decide +kernel | kernel_rfl) ?_ ?_ | refine tr_block ?_ | refine tr_skip ?_)
    · (dsimp only [AllP]; (repeat' first | exact trivial | assumption | exact Nat.le_of_ble_eq_true rfl | apply And.intro | decide | intro _ | exact rfl))
    repeat' (first | refine tr_seq ?_ | refine tr_block ?_ | refine tr_skip ?_)
    refine tr_cond rfl (fun hc => ?_) (fun hc => ?_)
    · simp only [condT_tt, condT_ff, condF_tt, condF_ff, notE_t, notE_f, decide_eq_true_eq, decide_eq_false_iff_not] at hc
      have hjt : j < e.length := by omega
      rw [drop_getD (d := cel0) hjt, List.any_cons] at hj
      have hg2 : List.take 2 (List.drop ((j : Int).toNat * 2) (eDr e)) = eCel (e.getD j cel0) := flatGet eCel 2 cel0 (fun _ => rfl) e j hjt
      have e2 : (Cs.es (List.take 2 (List.drop ((j : Int).toNat * 2) (eDr e)))).len = 2 := congrArg List.length hg2
      have l2 : j * 2 + 2 ≤ (Cs.es (eDr e)).len := by show _ ≤ (eDr e).length; omega
      repeat' (first | refine tr_seq ?_ | refine tr_block ?_ | refine tr_skip ?_)
      first | refine reg (T := tab) tOk hnt rfl ?_ ?_ | refine regD (T := tab) tOk mixedR hnt rfl (by first | decide +kernel | kernel_rfl) ?_ ?_
      · (dsimp only [AllP]; (repeat' first | exact trivial | assumption | exact Nat.le_of_ble_eq_true rfl | apply And.intro | exact eCells_len1 _ _ ‹_› | exact eCells_isByte _ _ ‹_› | (intro hh_; have hg_ := hh_; (try simp only [condT_ff, condF_tt, notE_t, notE_f, Bool.and_eq_true, ne_eq, decide_eq_true_eq, decide_eq_false_iff_not] at hg_)) | intro _ | exact rfl | omega))
      rw [hg2]
      generalize e.getD j cel0 = x at *
      obtain ⟨xf, xr⟩ := x
      have hml : (xr.map eVal).length = xr.length := List.length_map ..
      repeat' (first | refine tr_seq ?_ | refine tr_block ?_ | refine tr_skip ?_)
      first | refine reg (T := tab) tOk hnt rfl ?_ ?_ | refine regD (T := tab) tOk mixedR hnt rfl (by first | decide +kernel | kernel_rfl) ?_ ?_
      · (dsimp only [AllP]; (repeat' first | exact trivial | assumption | exact Nat.le_of_ble_eq_true rfl | apply And.intro | exact eCells_len1 _ _ ‹_› | exact eCells_isByte _ _ ‹_› | (intro hh_; have hg_ := hh_; (try simp only [condT_ff, condF_tt, notE_t, notE_f, Bool.and_eq_true, ne_eq, decide_eq_true_eq, decide_eq_false_iff_not] at hg_)) | intro _ | exact rfl | omega))
      repeat' (first | refine tr_seq ?_ | refine reg (T := tab) tOk hnt rfl ?_ ?_ | refine regD (T := tab) tOk mixedR hnt rfl (by first | decide +kernel | kernel_rfl) ?_ ?_ | refine tr_block ?_ | refine tr_skip ?_)
      · (dsimp only [AllP]; (repeat' first | exact trivial | assumption | exact Nat.le_of_ble_eq_true rfl | apply And.intro | decide | intro _ | exact rfl))
      refine ⟨(j + 1, f2 || celN ⟨xf, xr⟩), ⟨by dsimp only; rw [← hj, Bool.or_assoc], by dsimp only; omega⟩, by dsimp only; omega, le_of (ad := []) (by
        refine ⟨?_, ?_, ?_, ?_, ?_, ?_, trivial⟩
        · first | rfl | exact ⟨rfl, rfl⟩ | exact ⟨rfl, rfl, rfl⟩ | exact ⟨rfl, rfl, rfl, rfl⟩ | exact ⟨rfl, rfl, rfl, rfl, rfl⟩
        · refine congrArg (fun z : Bool => E.v (.bool z)) ?_
          show (bif (bif f2 then true else xf) then true else decide ((0 : Int) < ((xr.map eVal).length : Int))) = (f2 || (xf || decide (0 < xr.length)))
          rw [hml]
          cases f2 <;> cases xf <;> simp
        · first | rfl | exact ⟨rfl, rfl⟩ | exact ⟨rfl, rfl, rfl⟩ | exact ⟨rfl, rfl, rfl, rfl⟩ | exact ⟨rfl, rfl, rfl, rfl, rfl⟩
        · first | rfl | exact ⟨rfl, rfl⟩ | exact ⟨rfl, rfl, rfl⟩ | exact ⟨rfl, rfl, rfl, rfl⟩ | exact ⟨rfl, rfl, rfl, rfl, rfl⟩
        · first | rfl | exact ⟨rfl, rfl⟩ | exact ⟨rfl, rfl, rfl⟩ | exact ⟨rfl, rfl, rfl, rfl⟩ | exact ⟨rfl, rfl, rfl, rfl, rfl⟩
        · exact congrArg (fun z : Int => E.v (.int .i64 z)) (wrap64_id (by omega) (by omega))) (memOk_box rfl rfl rfl trivial)⟩
    simp only [condT_tt, condT_ff, condF_tt, condF_ff, notE_t, notE_f, decide_eq_true_eq, decide_eq_false_iff_not] at hc
    refine tr_exit ?_
    rw [List.drop_eq_nil_of_le (by omega), List.any_nil, Bool.or_false] at hj
    rw [← Bool.or_assoc, ← hj] at hi
    repeat' (first | refine tr_seq ?_ | refine reg (T := tab) tOk hnt rfl ?_ ?_ | refine regD (T := tab) tOk mixedR hnt rfl (by first | decide +kernel | kernel_rfl) ?_ ?_ | refine tr_block ?_ | refine tr_skip ?_)
    · (dsimp only [AllP]; (repeat' first | exact trivial | assumption | exact Nat.le_of_ble_eq_true rfl | apply And.intro | decide | intro _ | exact rfl))
    refine ⟨(i + 1, f2), ⟨hi, by dsimp only; omega⟩, by dsimp only; omega, le_of (ad := []) (by
      refine ⟨?_, ?_, ?_, ?_, trivial⟩
      · first | rfl | exact ⟨rfl, rfl⟩ | exact ⟨rfl, rfl, rfl⟩ | exact ⟨rfl, rfl, rfl, rfl⟩ | exact ⟨rfl, rfl, rfl, rfl, rfl⟩
      · first | rfl | exact ⟨rfl, rfl⟩ | exact ⟨rfl, rfl, rfl⟩ | exact ⟨rfl, rfl, rfl, rfl⟩ | exact ⟨rfl, rfl, rfl, rfl, rfl⟩
      · first | rfl | exact ⟨rfl, rfl⟩ | exact ⟨rfl, rfl, rfl⟩ | exact ⟨rfl, rfl, rfl, rfl⟩ | exact ⟨rfl, rfl, rfl, rfl, rfl⟩
      · exact congrArg (fun z : Int => E.v (.int .i64 z)) (wrap64_id (by omega) (by omega))) (memOk_box rfl rfl rfl trivial)⟩
  simp only [condT_tt, condT_ff, condF_tt, condF_ff, notE_t, notE_f, decide_eq_true_eq, decide_eq_false_iff_not] at hc
  refine tr_exit ?_
  rw [List.drop_eq_nil_of_le (by omega), List.any_nil, Bool.or_false] at hi
  have hx := eTab2 ⟨th, n, c, d⟩
  repeat' (first | refine tr_seq ?_ | refine tr_block ?_ | refine tr_skip ?_)
  first | refine reg (T := tab) tOk hnt rfl ?_ ?_ | refine regD (T := tab) tOk mixedR hnt rfl (by first | decide +kernel | kernel_rfl) ?_ ?_
  · (dsimp only [AllP]; (repeat' first | exact trivial | assumption | exact Nat.le_of_ble_eq_true rfl | apply And.intro | exact eCells_len1 _ _ ‹_› | exact eCells_isByte _ _ ‹_› | (intro hh_; have hg_ := hh_; (try simp only [condT_ff, condF_tt, notE_t, notE_f, Bool.and_eq_true, ne_eq, decide_eq_true_eq, decide_eq_false_iff_not] at hg_)) | intro _ | exact rfl | omega))
  refine tr_ret ⟨.inr rfl, _, _, rfl, trivial, ?_⟩
  refine congrArg (fun z : Bool => D.v (.bool z)) ?_
  have h0 := blEnd th n c d f hi.symm
  rw [← h0]
  have hx : (((eTab ⟨th, n, c, d⟩).getD (0 + 2) E.dflt).xs.length : Int) = (c.length : Int) := by rw [hx]
  rw [← hx]
  rfl
end Go.Proofs.YtphaholcndhonaaDoor
