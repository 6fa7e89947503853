/- table.Insert and the document's Inserted. No condition. -/
import Derived.Test.YtcjeeoimjkhijaaDoorTTi
namespace Go.Proofs.YtcjeeoimjkhijaaDoor
open Go Go.RowKit Go.Proofs.YtcjeeoimjkhijaaDoor.Ab
set_option linter.unusedSimpArgs false
set_option linter.unusedVariables false

def rTb (r : Tbl × Int) : D := .tup [(true, .es (eTab r.1)), (false, .es [eI r.2])]
def bgE (t : Tbl) (i : Int) : Int := if tabF t ≠ 0 then tabF t else if i < 0 ∨ 2 ≤ i then 6 else 0
theorem colsF_len {l : List Colm} (h : colsF l = 0) : l.length ≤ 5 := by
  unfold colsF at h
  split at h
  · exact absurd h (by decide)
  · omega
theorem rowF_len {r : List Val} {l : List Colm} (h : rowF r l = 0) : r.length = l.length := by
  unfold rowF at h
  split at h
  · contradiction
  · split at h
    · exact absurd h (by decide)
    · rename_i h1; exact Classical.not_not.1 h1
theorem celF_len {c : List Colm} (hc : c.length ≤ 5) : ∀ {d : List Cel}, celF c d = 0 → ∀ x ∈ d, x.r.length ≤ 5
  | [], _ => fun x hx => absurd hx List.not_mem_nil
  | y :: r, h => by
    unfold celF at h
    intro x hx
    by_cases hy : y.f = false
    · rw [if_pos hy] at h
      split at h
      · exact absurd h (by decide)
      · rename_i h1
        rcases List.mem_cons.1 hx with rfl | hx
        · omega
        · exact celF_len hc h x hx
    · rw [if_neg hy] at h
      split at h
      · contradiction
      · rename_i h1
        rcases List.mem_cons.1 hx with rfl | hx
        · rw [rowF_len (Classical.not_not.1 h1)]; exact hc
        · exact celF_len hc h x hx
theorem drF_each {c : List Colm} : ∀ {l : List (List Cel)}, drF c l = 0 → ∀ d ∈ l, celF c d = 0 ∧ kF [] d = 0
  | [], _ => fun d hd => absurd hd List.not_mem_nil
  | e :: r, h => by
    rw [drF] at h
    split at h
    · contradiction
    · rename_i h1
      split at h
      · contradiction
      · rename_i h2
        intro d hd
        rcases List.mem_cons.1 hd with rfl | hd
        · exact ⟨Classical.not_not.1 h1, Classical.not_not.1 h2⟩
        · exact drF_each h d hd
theorem tabF_parts {t : Tbl} (h : tabF t = 0) : t.th = true ∧ nmOk t.n ∧ colsF t.c = 0 ∧ fstOk t.c ∧ ∀ d ∈ t.d, celF t.c d = 0 ∧ kF [] d = 0 := by
  unfold tabF at h
  split at h
  · exact absurd h (by decide)
  · rename_i h1
    split at h
    · exact absurd h (by decide)
    · rename_i h2
      split at h
      · contradiction
      · rename_i h3
        split at h
        · exact absurd h (by decide)
        · rename_i h4
          exact ⟨by cases hh : t.th; exact absurd hh h1; rfl, Classical.not_not.1 h2, Classical.not_not.1 h3, fstB_ok (by cases hh : fstB t.c; exact absurd hh h4; rfl), drF_each h⟩
theorem tabF_short {t : Tbl} (h : tabF t = 0) : t.short := by
  obtain ⟨_, _, h3, _, h5⟩ := tabF_parts h
  have hc := colsF_len h3
  exact ⟨by omega, fun d hd x hx => Nat.le_trans (celF_len hc (h5 d hd).1 x hx) (by decide)⟩
set_option maxRecDepth 10000 in
set_option maxHeartbeats 2000000 in
theorem begun_fn (t : Tbl) (i : Int) (h : t.ok) : FnG Tryd.prog 53 gK [.agg (.es (eTab t)), .one (.e (eI i))] (rTb (if bgE t i = 0 then t else tz, bgE t i)) := by
  refine fn_introG (T := tab) tOk Tryd.func53 rfl (by kernel_rfl) (by simp [Tryd.ntmps53]) ?_
  intro X hX
  have hnt : X.nt = 22 := hX
  clear hX
  have h19 := tabLen h
  have f19 : 0 + 19 ≤ (Cs.es (eTab t)).len := by show 0 + 19 ≤ (eTab t).length; omega
  have e19 : (Cs.es (List.take 19 (List.drop 0 (eTab t)))).len = 19 := by rw [tabAll h]; exact h19
  have h1 := tabCheck_fn t h
  have h2 := fun hz => fresh_fn t h (tabF_short hz)
  unfold bgE
  rw [← tabAll h] at h1 h2
  generalize tabF t = e at *
  repeat' (first | refine tr_seq ?_ | refine reg (T := tab) tOk hnt rfl ?_ ?_ | refine regD (T := tab) tOk mixedR hnt rfl (by decide +kernel) ?_ ?_ | refine tr_block ?_ | refine tr_skip ?_)
  · (dsimp only [AllP]; (repeat' first | exact trivial | assumption | exact Nat.le_of_ble_eq_true rfl | apply And.intro | decide | intro _ | exact rfl))
  repeat' (first | refine tr_seq ?_ | refine tr_block ?_ | refine tr_skip ?_)
  refine tr_region (lex (T := tab) tOk hnt rfl ?_ (callV rfl rfl rfl rfl rfl rfl rfl hnt rfl (h1) (lex (T := tab) tOk hnt rfl ?_ (Lex.nil _)))) ?_
  · (dsimp only [AllP]; (repeat' first | exact trivial | assumption | exact Nat.le_of_ble_eq_true rfl | apply And.intro | exact eCells_len1 _ _ ‹_› | exact eCells_isByte _ _ ‹_› | (intro hh_; have hg_ := hh_; (try simp only [condT_ff, condF_tt, notE_t, notE_f, Bool.and_eq_true, ne_eq, decide_eq_true_eq, decide_eq_false_iff_not] at hg_)) | intro _ | exact rfl | omega))
  · (dsimp only [AllP]; (repeat' first | exact trivial | assumption | exact Nat.le_of_ble_eq_true rfl | apply And.intro | decide | intro _ | exact rfl))
  repeat' (first | refine tr_seq ?_ | refine reg (T := tab) tOk hnt rfl ?_ ?_ | refine regD (T := tab) tOk mixedR hnt rfl (by decide +kernel) ?_ ?_ | refine tr_block ?_ | refine tr_skip ?_)
  · (dsimp only [AllP]; (repeat' first | exact trivial | assumption | exact Nat.le_of_ble_eq_true rfl | apply And.intro | decide | intro _ | exact rfl))
  repeat' (first | refine tr_seq ?_ | refine tr_block ?_ | refine tr_skip ?_)
  refine tr_cond rfl (fun hc => ?_) (fun hc => ?_)
  · simp only [condT_tt, condT_ff, condF_tt, condF_ff, notE_t, notE_f, decide_eq_true_eq, decide_eq_false_iff_not] at hc
    rw [if_pos hc, if_neg hc]
    repeat' (first | refine tr_seq ?_ | refine reg (T := tab) tOk hnt rfl ?_ ?_ | refine regD (T := tab) tOk mixedR hnt rfl (by decide +kernel) ?_ ?_ | refine tr_block ?_ | refine tr_skip ?_)
    · (dsimp only [AllP]; (repeat' first | exact trivial | assumption | exact Nat.le_of_ble_eq_true rfl | apply And.intro | decide | intro _ | exact rfl))
    repeat' (first | refine tr_seq ?_ | refine tr_block ?_ | refine tr_skip ?_)
    refine tr_ret ⟨.inr rfl, _, _, rfl, by (repeat' first | exact trivial | exact Nat.le_of_ble_eq_true rfl | apply And.intro), ?_⟩
    exact rfl
  simp only [condT_tt, condT_ff, condF_tt, condF_ff, notE_t, notE_f, decide_eq_true_eq, decide_eq_false_iff_not] at hc
  rw [if_neg (not_not_intro hc)]
  repeat' (first | refine tr_seq ?_ | refine tr_block ?_ | refine tr_skip ?_)
  first | refine reg (T := tab) tOk hnt rfl ?_ ?_ | refine regD (T := tab) tOk mixedR hnt rfl (by decide +kernel) ?_ ?_
  · (dsimp only [AllP]; (repeat' first | exact trivial | assumption | exact Nat.le_of_ble_eq_true rfl | apply And.intro | exact eCells_len1 _ _ ‹_› | exact eCells_isByte _ _ ‹_› | (intro hh_; have hg_ := hh_; (try simp only [condT_ff, condF_tt, notE_t, notE_f, Bool.and_eq_true, ne_eq, decide_eq_true_eq, decide_eq_false_iff_not] at hg_)) | intro _ | exact rfl | omega))
  repeat' (first | refine tr_seq ?_ | refine tr_block ?_ | refine tr_skip ?_)
  refine tr_cond rfl (fun hc => ?_) (fun hc => ?_)
  · have hc : (bif decide (i < 0) then true else decide (2 ≤ i)) = true := hc
    simp only [condT_tt, condT_ff, condF_tt, condF_ff, notE_t, notE_f, decide_eq_true_eq, decide_eq_false_iff_not] at hc
    rw [if_pos hc, if_neg (by decide)]
    repeat' (first | refine tr_seq ?_ | refine reg (T := tab) tOk hnt rfl ?_ ?_ | refine regD (T := tab) tOk mixedR hnt rfl (by decide +kernel) ?_ ?_ | refine tr_block ?_ | refine tr_skip ?_)
    · (dsimp only [AllP]; (repeat' first | exact trivial | assumption | exact Nat.le_of_ble_eq_true rfl | apply And.intro | decide | intro _ | exact rfl))
    repeat' (first | refine tr_seq ?_ | refine tr_block ?_ | refine tr_skip ?_)
    refine tr_ret ⟨.inr rfl, _, _, rfl, by (repeat' first | exact trivial | exact Nat.le_of_ble_eq_true rfl | apply And.intro), ?_⟩
    exact rfl
  have hc2 : (bif decide (i < 0) then true else decide (2 ≤ i)) = false := hc
  clear hc
  have hc := hc2
  simp only [condT_tt, condT_ff, condF_tt, condF_ff, notE_t, notE_f, decide_eq_true_eq, decide_eq_false_iff_not] at hc
  rw [if_neg (show ¬ (i < 0 ∨ 2 ≤ i) by omega), if_pos rfl]
  have h2 := h2 ‹e = 0›
  repeat' (first | refine tr_seq ?_ | refine tr_block ?_ | refine tr_skip ?_)
  refine tr_region (lex (T := tab) tOk hnt rfl ?_ (call rfl rfl rfl rfl rfl rfl rfl hnt (h2) (lex (T := tab) tOk hnt rfl ?_ (Lex.nil _)))) ?_
  · (dsimp only [AllP]; (repeat' first | exact trivial | assumption | exact Nat.le_of_ble_eq_true rfl | apply And.intro | exact eCells_len1 _ _ ‹_› | exact eCells_isByte _ _ ‹_› | (intro hh_; have hg_ := hh_; (try simp only [condT_ff, condF_tt, notE_t, notE_f, Bool.and_eq_true, ne_eq, decide_eq_true_eq, decide_eq_false_iff_not] at hg_)) | intro _ | exact rfl | omega))
  · (dsimp only [AllP]; (repeat' first | exact trivial | assumption | exact Nat.le_of_ble_eq_true rfl | apply And.intro | exact eCells_len1 _ _ ‹_› | exact eCells_isByte _ _ ‹_› | (intro hh_; have hg_ := hh_; (try simp only [condT_ff, condF_tt, notE_t, notE_f, Bool.and_eq_true, ne_eq, decide_eq_true_eq, decide_eq_false_iff_not] at hg_)) | intro _ | exact rfl | omega))
  repeat' (first | refine tr_seq ?_ | refine tr_block ?_ | refine tr_skip ?_)
  refine tr_ret ⟨.inr rfl, _, _, rfl, ?_, ?_⟩
  · (dsimp only [AllP]; (repeat' first | exact trivial | assumption | exact Nat.le_of_ble_eq_true rfl | apply And.intro | exact eCells_len1 _ _ ‹_› | exact eCells_isByte _ _ ‹_› | (intro hh_; have hg_ := hh_; (try simp only [condT_ff, condF_tt, notE_t, notE_f, Bool.and_eq_true, ne_eq, decide_eq_true_eq, decide_eq_false_iff_not] at hg_)) | intro _ | exact rfl | omega))
  rw [tabAll h, tabAll h]
  rfl
set_option maxRecDepth 10000 in
set_option maxHeartbeats 2000000 in
theorem ready_fn (t : Tbl) (i : Int) (h : t.ok) : FnG Tryd.prog 54 gK [.agg (.es (eTab t)), .one (.e (eI i))] (.one (.e (eI (bgE t i)))) := by
  refine fn_introG (T := tab) tOk Tryd.func54 rfl (by kernel_rfl) (by simp [Tryd.ntmps54]) ?_
  intro X hX
  have hnt : X.nt = 17 := hX
  clear hX
  have h19 := tabLen h
  have f19 : 0 + 19 ≤ (Cs.es (eTab t)).len := by show 0 + 19 ≤ (eTab t).length; omega
  have h1 := tableFault_fn t h
  unfold bgE
  rw [← tabAll h] at h1
  generalize tabF t = e at *
  repeat' (first | refine tr_seq ?_ | refine reg (T := tab) tOk hnt rfl ?_ ?_ | refine regD (T := tab) tOk mixedR hnt rfl (by decide +kernel) ?_ ?_ | refine tr_block ?_ | refine tr_skip ?_)
  · (dsimp only [AllP]; (repeat' first | exact trivial | assumption | exact Nat.le_of_ble_eq_true rfl | apply And.intro | decide | intro _ | exact rfl))
  repeat' (first | refine tr_seq ?_ | refine tr_block ?_ | refine tr_skip ?_)
  refine tr_region (lex (T := tab) tOk hnt rfl ?_ (callV rfl rfl rfl rfl rfl rfl rfl hnt rfl (h1) (lex (T := tab) tOk hnt rfl ?_ (Lex.nil _)))) ?_
  · (dsimp only [AllP]; (repeat' first | exact trivial | assumption | exact Nat.le_of_ble_eq_true rfl | apply And.intro | exact eCells_len1 _ _ ‹_› | exact eCells_isByte _ _ ‹_› | (intro hh_; have hg_ := hh_; (try simp only [condT_ff, condF_tt, notE_t, notE_f, Bool.and_eq_true, ne_eq, decide_eq_true_eq, decide_eq_false_iff_not] at hg_)) | intro _ | exact rfl | omega))
  · (dsimp only [AllP]; (repeat' first | exact trivial | assumption | exact Nat.le_of_ble_eq_true rfl | apply And.intro | decide | intro _ | exact rfl))
  repeat' (first | refine tr_seq ?_ | refine reg (T := tab) tOk hnt rfl ?_ ?_ | refine regD (T := tab) tOk mixedR hnt rfl (by decide +kernel) ?_ ?_ | refine tr_block ?_ | refine tr_skip ?_)
  · (dsimp only [AllP]; (repeat' first | exact trivial | assumption | exact Nat.le_of_ble_eq_true rfl | apply And.intro | decide | intro _ | exact rfl))
  repeat' (first | refine tr_seq ?_ | refine tr_block ?_ | refine tr_skip ?_)
  refine tr_cond rfl (fun hc => ?_) (fun hc => ?_)
  · simp only [condT_tt, condT_ff, condF_tt, condF_ff, notE_t, notE_f, decide_eq_true_eq, decide_eq_false_iff_not] at hc
    rw [if_pos hc]
    repeat' (first | refine tr_seq ?_ | refine reg (T := tab) tOk hnt rfl ?_ ?_ | refine regD (T := tab) tOk mixedR hnt rfl (by decide +kernel) ?_ ?_ | refine tr_block ?_ | refine tr_skip ?_)
    · (dsimp only [AllP]; (repeat' first | exact trivial | assumption | exact Nat.le_of_ble_eq_true rfl | apply And.intro | decide | intro _ | exact rfl))
    repeat' (first | refine tr_seq ?_ | refine tr_block ?_ | refine tr_skip ?_)
    refine tr_ret ⟨.inr rfl, _, _, rfl, by (repeat' first | exact trivial | exact Nat.le_of_ble_eq_true rfl | apply And.intro), ?_⟩
    exact rfl
  simp only [condT_tt, condT_ff, condF_tt, condF_ff, notE_t, notE_f, decide_eq_true_eq, decide_eq_false_iff_not] at hc
  rw [if_neg (not_not_intro hc)]
  repeat' (first | refine tr_seq ?_ | refine tr_block ?_ | refine tr_skip ?_)
  first | refine reg (T := tab) tOk hnt rfl ?_ ?_ | refine regD (T := tab) tOk mixedR hnt rfl (by decide +kernel) ?_ ?_
  · (dsimp only [AllP]; (repeat' first | exact trivial | assumption | exact Nat.le_of_ble_eq_true rfl | apply And.intro | exact eCells_len1 _ _ ‹_› | exact eCells_isByte _ _ ‹_› | (intro hh_; have hg_ := hh_; (try simp only [condT_ff, condF_tt, notE_t, notE_f, Bool.and_eq_true, ne_eq, decide_eq_true_eq, decide_eq_false_iff_not] at hg_)) | intro _ | exact rfl | omega))
  repeat' (first | refine tr_seq ?_ | refine tr_block ?_ | refine tr_skip ?_)
  refine tr_cond rfl (fun hc => ?_) (fun hc => ?_)
  · have hc : (bif !decide (i = 0) then !decide (i = 1) else false) = true := hc
    simp only [condT_tt, condT_ff, condF_tt, condF_ff, notE_t, notE_f, decide_eq_true_eq, decide_eq_false_iff_not] at hc
    rw [if_pos (by omega)]
    repeat' (first | refine tr_seq ?_ | refine reg (T := tab) tOk hnt rfl ?_ ?_ | refine regD (T := tab) tOk mixedR hnt rfl (by decide +kernel) ?_ ?_ | refine tr_block ?_ | refine tr_skip ?_)
    · (dsimp only [AllP]; (repeat' first | exact trivial | assumption | exact Nat.le_of_ble_eq_true rfl | apply And.intro | decide | intro _ | exact rfl))
    repeat' (first | refine tr_seq ?_ | refine tr_block ?_ | refine tr_skip ?_)
    refine tr_ret ⟨.inr rfl, _, _, rfl, by (repeat' first | exact trivial | exact Nat.le_of_ble_eq_true rfl | apply And.intro), ?_⟩
    exact rfl
  have hc : (bif !decide (i = 0) then !decide (i = 1) else false) = false := hc
  simp only [condT_tt, condT_ff, condF_tt, condF_ff, notE_t, notE_f, decide_eq_true_eq, decide_eq_false_iff_not] at hc
  rw [if_neg (by omega)]
  repeat' (first | refine tr_seq ?_ | refine reg (T := tab) tOk hnt rfl ?_ ?_ | refine regD (T := tab) tOk mixedR hnt rfl (by decide +kernel) ?_ ?_ | refine tr_block ?_ | refine tr_skip ?_)
  · (dsimp only [AllP]; (repeat' first | exact trivial | assumption | exact Nat.le_of_ble_eq_true rfl | apply And.intro | decide | intro _ | exact rfl))
  repeat' (first | refine tr_seq ?_ | refine tr_block ?_ | refine tr_skip ?_)
  refine tr_ret ⟨.inr rfl, _, _, rfl, by (repeat' first | exact trivial | exact Nat.le_of_ble_eq_true rfl | apply And.intro), ?_⟩
  exact rfl
def frN (d : List Cel) : Nat := d.findIdx fun c => !c.f
def putT (t : Tbl) (i j : Nat) (x : Cel) : Tbl := { t with d := t.d.set i ((t.d.getD i []).set j x) }
/-- what table.Insert answers -/
def insF (t : Tbl) (i : Int) (r : List Val) : Tbl × Int :=
  if bgE t i ≠ 0 then (tz, bgE t i) else if rowF r t.c ≠ 0 then (tz, rowF r t.c)
  else if hasK (t.d.getD i.toNat []) (r.getD 0 val0).i = true then (tz, 8)
  else if frN (t.d.getD i.toNat []) < 4 then (putT t i.toNat (frN (t.d.getD i.toNat [])) ⟨true, r⟩, 0) else (tz, 9)
theorem tabDrw {t : Tbl} (h : t.ok) {i : Nat} (hi : i < 2) : List.take 8 (List.drop (0 + 3 + i * 8) (eTab t)) = eDr (t.d.getD i []) := by
  have h1 : List.drop (0 + 3) (eTab t) = (t.d.map eDr).flatten := rfl
  rw [← List.drop_drop, h1]
  exact drGet h.h4 i (by rw [h.h2]; exact hi)
def atF (d : List Cel) (j : Nat) : Int := if frN (d.take j) < j then (frN (d.take j) : Int) else -1
theorem frN_le (l : List Cel) : frN l ≤ l.length := List.findIdx_le_length
theorem atF_succ {d : List Cel} {j : Nat} (h : j < d.length) : atF d (j + 1) = if (d.getD j cel0).f = false ∧ atF d j < 0 then (j : Int) else atF d j := by
  have hl : (d.take j).length = j := by rw [List.length_take]; omega
  have hle := frN_le (d.take j)
  have h1 : frN (d.take (j + 1)) = if frN (d.take j) < j then frN (d.take j) else (if (d.getD j cel0).f = false then 0 else 1) + j := by
    rw [take_succ (d := cel0) h]
    unfold frN
    rw [List.findIdx_append, hl]
    split
    · rfl
    · rw [List.findIdx_cons]
      cases (d.getD j cel0).f <;> rfl
  unfold atF
  rw [h1]
  by_cases g : frN (d.take j) < j
  · rw [if_pos g, if_pos (by omega), if_pos g, if_neg (by omega)]
  · rw [if_neg g, if_neg g]
    cases (d.getD j cel0).f with
    | false => rw [if_pos rfl, if_pos (by omega), if_pos ⟨rfl, by decide⟩]; omega
    | true => rw [if_neg (fun h => Bool.noConfusion h), if_neg (by omega), if_neg (fun h => Bool.noConfusion h.1)]
theorem len4 {α : Type} {l : List α} (h : l.length = 4) : ∃ a b c d, l = [a, b, c, d] := by
  match l, h with
  | [a, b, c, d], _ => exact ⟨a, b, c, d, rfl⟩
theorem tabPut {t : Tbl} (h : t.ok) {i j : Nat} (hi : i < 2) (hj : j < 4) (x : Cel) : List.take (0 + 3 + i * 8 + j * 2) (eTab t) ++ eCel x ++ List.drop (0 + 3 + i * 8 + j * 2 + 2) (eTab t) = eTab (putT t i j x) := by
  obtain ⟨h2, h4, _, _, _⟩ := h
  obtain ⟨th, n, c, d⟩ := t
  match d, h2 with
  | [p, q], _ =>
    obtain ⟨a0, a1, a2, a3, rfl⟩ := len4 (h4 p (by simp))
    obtain ⟨b0, b1, b2, b3, rfl⟩ := len4 (h4 q (by simp))
    have hi : i = 0 ∨ i = 1 := by omega
    have hj : j = 0 ∨ j = 1 ∨ j = 2 ∨ j = 3 := by omega
    rcases hi with rfl | rfl <;> rcases hj with rfl | rfl | rfl | rfl <;> rfl
theorem putT_ok {t : Tbl} (h : t.ok) {i j : Nat} (hi : i < 2) (x : Cel) (hx : ∀ v ∈ x.r, v.fit) : (putT t i j x).ok := by
  have hil : i < t.d.length := by rw [h.h2]; exact hi
  have hm := memD (d := []) hil
  have hmem : ∀ d ∈ (putT t i j x).d, d = (t.d.getD i []).set j x ∨ d ∈ t.d := fun d hd => (List.mem_or_eq_of_mem_set hd).symm.imp id id
  refine ⟨?_, ?_, h.nm, h.cs, ?_⟩
  · show (t.d.set i _).length = 2
    rw [List.length_set, h.h2]
  · intro d hd
    rcases hmem d hd with rfl | hd
    · rw [List.length_set]; exact h.h4 _ hm
    · exact h.h4 _ hd
  · intro d hd y hy
    rcases hmem d hd with rfl | hd
    · rcases List.mem_or_eq_of_mem_set hy with hy | rfl
      · exact h.vs _ hm y hy
      · exact hx
    · exact h.vs _ hd y hy
set_option maxRecDepth 10000 in
set_option maxHeartbeats 2000000 in
theorem Insert_fn (t : Tbl) (i : Int) (r : List Val) (h : t.ok) (hr : ∀ v ∈ r, v.fit) : FnG Tryd.prog 22 gK [.agg (.es (eTab t)), .one (.e (eI i)), .one (.e (eRow r))] (rTb (insF t i r)) := by
  refine fn_introG (T := tab) tOk Tryd.func22 rfl (by kernel_rfl) (by simp [Tryd.ntmps22]) ?_
  intro X hX
  have hnt : X.nt = 73 := hX
  clear hX
  have h19 := tabLen h
  have f19 : 0 + 19 ≤ (Cs.es (eTab t)).len := by show 0 + 19 ≤ (eTab t).length; omega
  have h1 := begun_fn t i h
  have h2 := Row_fn r t.c h.cs (fun v hv => (hr v hv).1)
  have hbg : bgE t i = 0 → tabF t = 0 ∧ 0 ≤ i ∧ i < 2 := by
    unfold bgE
    intro hb
    split at hb
    · contradiction
    · rename_i h0
      split at hb
      · exact absurd hb (by decide)
      · exact ⟨Classical.not_not.1 h0, by omega, by omega⟩
  have hap : List.take 0 (eTab t) ++ eTab t ++ List.drop (0 + 19) (eTab t) = eTab t := by
    rw [List.drop_eq_nil_of_le (by omega)]
    simp
  unfold insF
  rw [← tabAll h] at h1
  generalize bgE t i = e at *
  repeat' (first | refine tr_seq ?_ | refine reg (T := tab) tOk hnt rfl ?_ ?_ | refine regD (T := tab) tOk mixedR hnt rfl (by decide +kernel) ?_ ?_ | refine tr_block ?_ | refine tr_skip ?_)
  · (dsimp only [AllP]; (repeat' first | exact trivial | assumption | exact Nat.le_of_ble_eq_true rfl | apply And.intro | decide | intro _ | exact rfl))
  by_cases he : e = 0
  case neg =>
    rw [if_pos he]
    rw [if_neg he] at h1
    repeat' (first | refine tr_seq ?_ | refine tr_block ?_ | refine tr_skip ?_)
    refine tr_region (lex (T := tab) tOk hnt rfl ?_ (callV rfl rfl rfl rfl rfl rfl rfl hnt rfl (h1) (lex (T := tab) tOk hnt rfl ?_ (Lex.nil _)))) ?_
    · (dsimp only [AllP]; (repeat' first | exact trivial | assumption | exact Nat.le_of_ble_eq_true rfl | apply And.intro | exact eCells_len1 _ _ ‹_› | exact eCells_isByte _ _ ‹_› | (intro hh_; have hg_ := hh_; (try simp only [condT_ff, condF_tt, notE_t, notE_f, Bool.and_eq_true, ne_eq, decide_eq_true_eq, decide_eq_false_iff_not] at hg_)) | intro _ | exact rfl | omega))
    · (dsimp only [AllP]; (repeat' first | exact trivial | assumption | exact Nat.le_of_ble_eq_true rfl | apply And.intro | exact eCells_len1 _ _ ‹_› | exact eCells_isByte _ _ ‹_› | (intro hh_; have hg_ := hh_; (try simp only [condT_ff, condF_tt, notE_t, notE_f, Bool.and_eq_true, ne_eq, decide_eq_true_eq, decide_eq_false_iff_not] at hg_)) | intro _ | exact rfl | omega))
    repeat' (first | refine tr_seq ?_ | refine reg (T := tab) tOk hnt rfl ?_ ?_ | refine regD (T := tab) tOk mixedR hnt rfl (by decide +kernel) ?_ ?_ | refine tr_block ?_ | refine tr_skip ?_)
    · (dsimp only [AllP]; (repeat' first | exact trivial | assumption | exact Nat.le_of_ble_eq_true rfl | apply And.intro | decide | intro _ | exact rfl))
    repeat' (first | refine tr_seq ?_ | refine tr_block ?_ | refine tr_skip ?_)
    refine tr_cond rfl (fun hc => ?_) (fun hc => ?_)
    · repeat' (first | refine tr_seq ?_ | refine reg (T := tab) tOk hnt rfl ?_ ?_ | refine regD (T := tab) tOk mixedR hnt rfl (by decide +kernel) ?_ ?_ | refine tr_block ?_ | refine tr_skip ?_)
      · (dsimp only [AllP]; (repeat' first | exact trivial | assumption | exact Nat.le_of_ble_eq_true rfl | apply And.intro | decide | intro _ | exact rfl))
      repeat' (first | refine tr_seq ?_ | refine tr_block ?_ | refine tr_skip ?_)
      refine tr_ret ⟨.inr rfl, _, _, rfl, by (repeat' first | exact trivial | exact Nat.le_of_ble_eq_true rfl | apply And.intro), ?_⟩
      exact rfl
    simp only [condT_tt, condT_ff, condF_tt, condF_ff, notE_t, notE_f, decide_eq_true_eq, decide_eq_false_iff_not] at hc
    exact absurd hc he
  rw [if_neg (not_not_intro he)]
  rw [if_pos he] at h1
  obtain ⟨ht, i0, i2⟩ := hbg he
  obtain ⟨p1, p2, p3, p4, p5⟩ := tabF_parts ht
  repeat' (first | refine tr_seq ?_ | refine tr_block ?_ | refine tr_skip ?_)
  refine tr_region (lex (T := tab) tOk hnt rfl ?_ (callV rfl rfl rfl rfl rfl rfl rfl hnt rfl (h1) (lex (T := tab) tOk hnt rfl ?_ (Lex.nil _)))) ?_
  · (dsimp only [AllP]; (repeat' first | exact trivial | assumption | exact Nat.le_of_ble_eq_true rfl | apply And.intro | exact eCells_len1 _ _ ‹_› | exact eCells_isByte _ _ ‹_› | (intro hh_; have hg_ := hh_; (try simp only [condT_ff, condF_tt, notE_t, notE_f, Bool.and_eq_true, ne_eq, decide_eq_true_eq, decide_eq_false_iff_not] at hg_)) | intro _ | exact rfl | omega))
  · (dsimp only [AllP]; (repeat' first | exact trivial | assumption | exact Nat.le_of_ble_eq_true rfl | apply And.intro | exact eCells_len1 _ _ ‹_› | exact eCells_isByte _ _ ‹_› | (intro hh_; have hg_ := hh_; (try simp only [condT_ff, condF_tt, notE_t, notE_f, Bool.and_eq_true, ne_eq, decide_eq_true_eq, decide_eq_false_iff_not] at hg_)) | intro _ | exact rfl | omega))
  rw [hap]
  repeat' (first | refine tr_seq ?_ | refine reg (T := tab) tOk hnt rfl ?_ ?_ | refine regD (T := tab) tOk mixedR hnt rfl (by decide +kernel) ?_ ?_ | refine tr_block ?_ | refine tr_skip ?_)
  · (dsimp only [AllP]; (repeat' first | exact trivial | assumption | exact Nat.le_of_ble_eq_true rfl | apply And.intro | decide | intro _ | exact rfl))
  repeat' (first | refine tr_seq ?_ | refine tr_block ?_ | refine tr_skip ?_)
  refine tr_cond rfl (fun hc => ?_) (fun hc => ?_)
  · simp only [condT_tt, condT_ff, condF_tt, condF_ff, notE_t, notE_f, decide_eq_true_eq, decide_eq_false_iff_not] at hc
    exact absurd he hc
  clear hc
  repeat' (first | refine tr_seq ?_ | refine tr_block ?_ | refine tr_skip ?_)
  refine tr_region (lex (T := tab) tOk hnt rfl ?_ (callV rfl rfl rfl rfl rfl rfl rfl hnt rfl (h2) (lex (T := tab) tOk hnt rfl ?_ (Lex.nil _)))) ?_
  · (dsimp only [AllP]; (repeat' first | exact trivial | assumption | exact Nat.le_of_ble_eq_true rfl | apply And.intro | decide | intro _ | exact rfl))
  · (dsimp only [AllP]; (repeat' first | exact trivial | assumption | exact Nat.le_of_ble_eq_true rfl | apply And.intro | decide | intro _ | exact rfl))
  repeat' (first | refine tr_seq ?_ | refine reg (T := tab) tOk hnt rfl ?_ ?_ | refine regD (T := tab) tOk mixedR hnt rfl (by decide +kernel) ?_ ?_ | refine tr_block ?_ | refine tr_skip ?_)
  · (dsimp only [AllP]; (repeat' first | exact trivial | assumption | exact Nat.le_of_ble_eq_true rfl | apply And.intro | decide | intro _ | exact rfl))
  repeat' (first | refine tr_seq ?_ | refine tr_block ?_ | refine tr_skip ?_)
  refine tr_cond rfl (fun hc => ?_) (fun hc => ?_)
  · simp only [condT_tt, condT_ff, condF_tt, condF_ff, notE_t, notE_f, decide_eq_true_eq, decide_eq_false_iff_not] at hc
    rw [if_pos hc]
    repeat' (first | refine tr_seq ?_ | refine reg (T := tab) tOk hnt rfl ?_ ?_ | refine regD (T := tab) tOk mixedR hnt rfl (by decide +kernel) ?_ ?_ | refine tr_block ?_ | refine tr_skip ?_)
    · (dsimp only [AllP]; (repeat' first | exact trivial | assumption | exact Nat.le_of_ble_eq_true rfl | apply And.intro | decide | intro _ | exact rfl))
    repeat' (first | refine tr_seq ?_ | refine tr_block ?_ | refine tr_skip ?_)
    refine tr_ret ⟨.inr rfl, _, _, rfl, by (repeat' first | exact trivial | exact Nat.le_of_ble_eq_true rfl | apply And.intro), ?_⟩
    exact rfl
  simp only [condT_tt, condT_ff, condF_tt, condF_ff, notE_t, notE_f, decide_eq_true_eq, decide_eq_false_iff_not] at hc
  rw [if_neg (not_not_intro hc)]
  have hrl := rowF_len hc
  clear h1 h2 hbg he
  obtain ⟨m, rfl⟩ : ∃ m : Nat, i = m := ⟨i.toNat, by omega⟩
  have hmd : m < t.d.length := by rw [h.h2]; omega
  have hm := memD (d := []) hmd
  have h4 := h.h4 _ hm
  have hkk := celF_kOk p4 (p5 _ hm).1
  have hg : List.take 8 (List.drop (0 + 3 + (m : Int).toNat * 8) (eTab t)) = eDr (t.d.getD m []) := tabDrw h (by omega)
  have l8 : 0 + 3 + (m : Int).toNat * 8 + 8 ≤ (Cs.es (eTab t)).len := by show 0 + 3 + m * 8 + 8 ≤ (eTab t).length; omega
  have e8 : (Cs.es (List.take 8 (List.drop (0 + 3 + (m : Int).toNat * 8) (eTab t)))).len = 8 := by rw [hg]; exact drLen _ h4
  rw [Int.toNat_natCast]
  have hrk := rowF_kOk (x := ⟨true, r⟩) p4 (fun _ => hc) rfl
  repeat' (first | refine tr_seq ?_ | refine reg (T := tab) tOk hnt rfl ?_ ?_ | refine regD (T := tab) tOk mixedR hnt rfl (by decide +kernel) ?_ ?_ | refine tr_block ?_ | refine tr_skip ?_)
  · (dsimp only [AllP]; (repeat' first | exact trivial | assumption | exact Nat.le_of_ble_eq_true rfl | apply And.intro | decide | intro _ | exact rfl))
  · (dsimp only [AllP]; (repeat' first | exact trivial | assumption | exact Nat.le_of_ble_eq_true rfl | apply And.intro | exact eCells_len1 _ _ ‹_› | exact eCells_isByte _ _ ‹_› | (intro hh_; have hg_ := hh_; (try simp only [condT_ff, condF_tt, notE_t, notE_f, Bool.and_eq_true, ne_eq, decide_eq_true_eq, decide_eq_false_iff_not] at hg_)) | intro _ | exact rfl | omega))
  rw [hg]
  obtain ⟨k1, k2, k3, k4⟩ := hrk
  dsimp only at k1 k2 k3 k4
  cases r with
  | nil => exact absurd rfl k1
  | cons u rr =>
    have k2 : u.k = 2 := k2
    have k3 : u.b = 0 := k3
    have k4 : u.t = [] := k4
    rw [show ((u :: rr).getD 0 val0).i = u.i from rfl]
    have hd8 := drLen _ h4
    generalize hdd : t.d.getD m [] = d at *
    repeat' (first | refine tr_seq ?_ | refine tr_block ?_ | refine tr_skip ?_)
    refine tr_loop (σ := Nat × Int) (fun y => St.of [(1, .one (.e (eI (m : Int)))), (2, .one (.e (eRow (u :: rr)))), (3, .one (.ptr 3 0 0)), (6, .one (.ptr 6 0 0)), (10, .one (.e (eI y.2))), (34, .agg (.es (eDr d))), (35, .one (.e (eI (y.1 : Int))))] [(3, ⟨0, .box (.es (eTab t)), 0⟩), (6, ⟨0, .box (.es (eTab tz)), 0⟩)]) (fun y => hasK (d.drop y.1) u.i = hasK d u.i ∧ y.1 ≤ d.length ∧ y.2 = atF d y.1) (fun y => d.length - y.1) ((0, -1)) (le_of (ad := []) (by refine ⟨?_, ?_, ?_, ?_, ?_, ?_, ?_, trivial⟩ <;> first | exact trivial | rfl | exact ⟨rfl, rfl⟩ | exact ⟨rfl, rfl, rfl⟩ | exact ⟨rfl, rfl, rfl, rfl⟩ | exact ⟨rfl, rfl, rfl, rfl, rfl⟩ | exact congrArg (fun z : Int => E.v (.int .i64 z)) (wrap64_id (by omega) (by omega))) (memOk_box rfl rfl rfl (memOk_box rfl rfl (by repeat' first | exact trivial | exact rfl | apply And.intro) trivial))) ⟨rfl, Nat.zero_le _, rfl⟩ ?_
    rintro ⟨j, a⟩ ⟨hj, jl, ha⟩
    dsimp only at hj jl ha ⊢
    repeat' (first | refine tr_seq ?_ | refine reg (T := tab) tOk hnt rfl ?_ ?_ | refine regD (T := tab) tOk mixedR hnt rfl (by decide +kernel) ?_ ?_ | refine tr_block ?_ | refine tr_skip ?_)
    · (dsimp only [AllP]; (repeat' first | exact trivial | assumption | exact Nat.le_of_ble_eq_true rfl | apply And.intro | decide | intro _ | exact rfl))
    repeat' (first | refine tr_seq ?_ | refine tr_block ?_ | refine tr_skip ?_)
    refine tr_cond rfl (fun hc => ?_) (fun hc => ?_)
    · simp only [condT_tt, condT_ff, condF_tt, condF_ff, notE_t, notE_f, decide_eq_true_eq, decide_eq_false_iff_not] at hc
      have hjt : j < d.length := by omega
      rw [drop_getD (d := cel0) hjt, hasK, List.any_cons] at hj
      have hat := atF_succ hjt
      rw [← ha] at hat
      have hg2 : List.take 2 (List.drop ((j : Int).toNat * 2) (eDr d)) = eCel (d.getD j cel0) := flatGet eCel 2 cel0 (fun _ => rfl) d j hjt
      have e2 : (Cs.es (List.take 2 (List.drop ((j : Int).toNat * 2) (eDr d)))).len = 2 := congrArg List.length hg2
      have l2 : j * 2 + 2 ≤ (Cs.es (eDr d)).len := by show _ ≤ (eDr d).length; omega
      have hxk := hkk _ (memD (d := cel0) hjt)
      repeat' (first | refine tr_seq ?_ | refine tr_block ?_ | refine tr_skip ?_)
      first | refine reg (T := tab) tOk hnt rfl ?_ ?_ | refine regD (T := tab) tOk mixedR hnt rfl (by decide +kernel) ?_ ?_
      · (dsimp only [AllP]; (repeat' first | exact trivial | assumption | exact Nat.le_of_ble_eq_true rfl | apply And.intro | exact eCells_len1 _ _ ‹_› | exact eCells_isByte _ _ ‹_› | (intro hh_; have hg_ := hh_; (try simp only [condT_ff, condF_tt, notE_t, notE_f, Bool.and_eq_true, ne_eq, decide_eq_true_eq, decide_eq_false_iff_not] at hg_)) | intro _ | exact rfl | omega))
      rw [hg2]
      generalize d.getD j cel0 = x at *
      obtain ⟨xf, xr⟩ := x
      cases xf with
      | false =>
        repeat' (first | refine tr_seq ?_ | refine tr_block ?_ | refine tr_skip ?_)
        first | refine reg (T := tab) tOk hnt rfl ?_ ?_ | refine regD (T := tab) tOk mixedR hnt rfl (by decide +kernel) ?_ ?_
        · (dsimp only [AllP]; (repeat' first | exact trivial | assumption | exact Nat.le_of_ble_eq_true rfl | apply And.intro | (intro hh_; exact absurd (show false = true from hh_) Bool.false_ne_true) | intro _ | exact rfl))
        repeat' (first | refine tr_seq ?_ | refine tr_block ?_ | refine tr_skip ?_)
        refine tr_cond rfl (fun hc => ?_) (fun hc => ?_)
        · exact absurd (show false = true from hc) Bool.false_ne_true
        clear hc
        have hj : hasK (d.drop (j + 1)) u.i = hasK d u.i := hj
        repeat' (first | refine tr_seq ?_ | refine tr_block ?_ | refine tr_skip ?_)
        first | refine reg (T := tab) tOk hnt rfl ?_ ?_ | refine regD (T := tab) tOk mixedR hnt rfl (by decide +kernel) ?_ ?_
        · (dsimp only [AllP]; (repeat' first | exact trivial | assumption | exact Nat.le_of_ble_eq_true rfl | apply And.intro | exact eCells_len1 _ _ ‹_› | exact eCells_isByte _ _ ‹_› | (intro hh_; have hg_ := hh_; (try simp only [condT_ff, condF_tt, notE_t, notE_f, Bool.and_eq_true, ne_eq, decide_eq_true_eq, decide_eq_false_iff_not] at hg_)) | intro _ | exact rfl | omega))
        repeat' (first | refine tr_seq ?_ | refine tr_block ?_ | refine tr_skip ?_)
        refine tr_cond rfl (fun hc => ?_) (fun hc => ?_)
        · have hc : decide (a < 0) = true := hc
          simp only [condT_tt, condT_ff, condF_tt, condF_ff, notE_t, notE_f, decide_eq_true_eq, decide_eq_false_iff_not] at hc
          rw [if_pos ⟨rfl, hc⟩] at hat
          repeat' (first | refine tr_seq ?_ | refine reg (T := tab) tOk hnt rfl ?_ ?_ | refine regD (T := tab) tOk mixedR hnt rfl (by decide +kernel) ?_ ?_ | refine tr_block ?_ | refine tr_skip ?_)
          · (dsimp only [AllP]; (repeat' first | exact trivial | assumption | exact Nat.le_of_ble_eq_true rfl | apply And.intro | decide | intro _ | exact rfl))
          · (dsimp only [AllP]; (repeat' first | exact trivial | assumption | exact Nat.le_of_ble_eq_true rfl | apply And.intro | decide | intro _ | exact rfl))
          refine ⟨(j + 1, (j : Int)), ⟨hj, by dsimp only; omega, hat.symm⟩, by dsimp only; omega, le_of (ad := []) (by refine ⟨?_, ?_, ?_, ?_, ?_, ?_, ?_, trivial⟩ <;> first | exact trivial | rfl | exact ⟨rfl, rfl⟩ | exact ⟨rfl, rfl, rfl⟩ | exact ⟨rfl, rfl, rfl, rfl⟩ | exact ⟨rfl, rfl, rfl, rfl, rfl⟩ | exact congrArg (fun z : Int => E.v (.int .i64 z)) (wrap64_id (by omega) (by omega))) (memOk_box rfl rfl rfl (memOk_box rfl rfl rfl trivial))⟩
        have hc : decide (a < 0) = false := hc
        simp only [condT_tt, condT_ff, condF_tt, condF_ff, notE_t, notE_f, decide_eq_true_eq, decide_eq_false_iff_not] at hc
        rw [if_neg (fun h => absurd h.2 (by omega))] at hat
        repeat' (first | refine tr_seq ?_ | refine reg (T := tab) tOk hnt rfl ?_ ?_ | refine regD (T := tab) tOk mixedR hnt rfl (by decide +kernel) ?_ ?_ | refine tr_block ?_ | refine tr_skip ?_)
        · (dsimp only [AllP]; (repeat' first | exact trivial | assumption | exact Nat.le_of_ble_eq_true rfl | apply And.intro | decide | intro _ | exact rfl))
        refine ⟨(j + 1, a), ⟨hj, by dsimp only; omega, hat.symm⟩, by dsimp only; omega, le_of (ad := []) (by refine ⟨?_, ?_, ?_, ?_, ?_, ?_, ?_, trivial⟩ <;> first | exact trivial | rfl | exact ⟨rfl, rfl⟩ | exact ⟨rfl, rfl, rfl⟩ | exact ⟨rfl, rfl, rfl, rfl⟩ | exact ⟨rfl, rfl, rfl, rfl, rfl⟩ | exact congrArg (fun z : Int => E.v (.int .i64 z)) (wrap64_id (by omega) (by omega))) (memOk_box rfl rfl rfl (memOk_box rfl rfl rfl trivial))⟩
      | true =>
        obtain ⟨x1, x2, x3, x4⟩ := hxk rfl
        dsimp only at x1 x2 x3 x4
        cases xr with
        | nil => exact absurd rfl x1
        | cons v xr =>
          have x2 : v.k = 2 := x2
          have x3 : v.b = 0 := x3
          have x4 : v.t = [] := x4
          rw [if_neg (fun h => Bool.noConfusion h.1)] at hat
          repeat' (first | refine tr_seq ?_ | refine tr_block ?_ | refine tr_skip ?_)
          first | refine reg (T := tab) tOk hnt rfl ?_ ?_ | refine regD (T := tab) tOk mixedR hnt rfl (by decide +kernel) ?_ ?_
          · (dsimp only [AllP]; (repeat' first | exact trivial | assumption | exact Nat.le_of_ble_eq_true rfl | apply And.intro | exact rfl | (intro _) | exact Int.natCast_pos.2 (Nat.succ_pos _) | exact Int.le_refl _))
          repeat' (first | refine tr_seq ?_ | refine tr_block ?_ | refine tr_skip ?_)
          refine tr_cond rfl (fun hc => ?_) (fun hc => ?_)
          · have hc : (eqD tab 9 24 (.agg (.es (List.take 4 (List.drop 0 (eVal v))))) (.agg (.es (List.take 4 (List.drop 0 (eVal u)))))).2 = true := hc
            rw [eqV2, decide_eq_true_eq] at hc
            have hk1 : (decide (key ⟨true, v :: xr⟩ = u.i)) = true := decide_eq_true hc.2.1
            rw [hk1] at hj
            have hj : hasK d u.i = true := hj.symm
            rw [if_pos hj]
            repeat' (first | refine tr_seq ?_ | refine reg (T := tab) tOk hnt rfl ?_ ?_ | refine regD (T := tab) tOk mixedR hnt rfl (by decide +kernel) ?_ ?_ | refine tr_block ?_ | refine tr_skip ?_)
            · (dsimp only [AllP]; (repeat' first | exact trivial | assumption | exact Nat.le_of_ble_eq_true rfl | apply And.intro | decide | intro _ | exact rfl))
            repeat' (first | refine tr_seq ?_ | refine tr_block ?_ | refine tr_skip ?_)
            refine tr_ret ⟨.inr rfl, _, _, rfl, by (repeat' first | exact trivial | exact Nat.le_of_ble_eq_true rfl | apply And.intro), ?_⟩
            exact rfl
          have hc2 : (eqD tab 9 24 (.agg (.es (List.take 4 (List.drop 0 (eVal v))))) (.agg (.es (List.take 4 (List.drop 0 (eVal u)))))).2 = false := hc
          clear hc
          have hc := hc2
          rw [eqV2, decide_eq_false_iff_not, x2, x3, x4, k2, k3, k4] at hc
          have hk1 : (decide (key ⟨true, v :: xr⟩ = u.i)) = false := decide_eq_false fun h => hc ⟨rfl, h, rfl, rfl⟩
          rw [hk1] at hj
          repeat' (first | refine tr_seq ?_ | refine tr_block ?_ | refine tr_skip ?_)
          first | refine reg (T := tab) tOk hnt rfl ?_ ?_ | refine regD (T := tab) tOk mixedR hnt rfl (by decide +kernel) ?_ ?_
          · (dsimp only [AllP]; (repeat' first | exact trivial | assumption | exact Nat.le_of_ble_eq_true rfl | apply And.intro | exact eCells_len1 _ _ ‹_› | exact eCells_isByte _ _ ‹_› | (intro hh_; have hg_ := hh_; (try simp only [condT_ff, condF_tt, notE_t, notE_f, Bool.and_eq_true, ne_eq, decide_eq_true_eq, decide_eq_false_iff_not] at hg_)) | intro _ | exact rfl | omega))
          repeat' (first | refine tr_seq ?_ | refine tr_block ?_ | refine tr_skip ?_)
          refine tr_cond rfl (fun hc => ?_) (fun hc => ?_)
          · exact absurd (show false = true from ‹_›) Bool.false_ne_true
          repeat' (first | refine tr_seq ?_ | refine reg (T := tab) tOk hnt rfl ?_ ?_ | refine regD (T := tab) tOk mixedR hnt rfl (by decide +kernel) ?_ ?_ | refine tr_block ?_ | refine tr_skip ?_)
          · (dsimp only [AllP]; (repeat' first | exact trivial | assumption | exact Nat.le_of_ble_eq_true rfl | apply And.intro | decide | intro _ | exact rfl))
          refine ⟨(j + 1, a), ⟨hj, by dsimp only; omega, hat.symm⟩, by dsimp only; omega, le_of (ad := []) (by refine ⟨?_, ?_, ?_, ?_, ?_, ?_, ?_, trivial⟩ <;> first | exact trivial | rfl | exact ⟨rfl, rfl⟩ | exact ⟨rfl, rfl, rfl⟩ | exact ⟨rfl, rfl, rfl, rfl⟩ | exact ⟨rfl, rfl, rfl, rfl, rfl⟩ | exact congrArg (fun z : Int => E.v (.int .i64 z)) (wrap64_id (by omega) (by omega))) (memOk_box rfl rfl rfl (memOk_box rfl rfl rfl trivial))⟩
    simp only [condT_tt, condT_ff, condF_tt, condF_ff, notE_t, notE_f, decide_eq_true_eq, decide_eq_false_iff_not] at hc
    refine tr_exit ?_
    have hjd : j = d.length := by omega
    rw [List.drop_eq_nil_of_le (by omega)] at hj
    have hj : hasK d u.i = false := hj.symm
    rw [if_neg (by rw [hj]; exact Bool.noConfusion)]
    have hq := frN_le d
    unfold atF at ha
    rw [hjd, List.take_length, h4] at ha
    clear hc
    repeat' (first | refine tr_seq ?_ | refine reg (T := tab) tOk hnt rfl ?_ ?_ | refine regD (T := tab) tOk mixedR hnt rfl (by decide +kernel) ?_ ?_ | refine tr_block ?_ | refine tr_skip ?_)
    · (dsimp only [AllP]; (repeat' first | exact trivial | assumption | exact Nat.le_of_ble_eq_true rfl | apply And.intro | decide | intro _ | exact rfl))
    repeat' (first | refine tr_seq ?_ | refine tr_block ?_ | refine tr_skip ?_)
    refine tr_cond rfl (fun hc => ?_) (fun hc => ?_)
    · have hc : a < 0 := of_decide_eq_true hc
      rw [if_neg (fun g => by rw [if_pos g] at ha; omega)]
      repeat' (first | refine tr_seq ?_ | refine reg (T := tab) tOk hnt rfl ?_ ?_ | refine regD (T := tab) tOk mixedR hnt rfl (by decide +kernel) ?_ ?_ | refine tr_block ?_ | refine tr_skip ?_)
      · (dsimp only [AllP]; (repeat' first | exact trivial | assumption | exact Nat.le_of_ble_eq_true rfl | apply And.intro | decide | intro _ | exact rfl))
      repeat' (first | refine tr_seq ?_ | refine tr_block ?_ | refine tr_skip ?_)
      refine tr_ret ⟨.inr rfl, _, _, rfl, by (repeat' first | exact trivial | exact Nat.le_of_ble_eq_true rfl | apply And.intro), ?_⟩
      exact rfl
    have hc : ¬ a < 0 := of_decide_eq_false hc
    have hq4 : frN d < 4 := by
      by_cases g : frN d < 4
      · exact g
      · rw [if_neg g] at ha; omega
    rw [if_pos hq4] at ha ⊢
    subst ha
    generalize frN d = q at *
    have hrw := row_fn (u :: rr) (by rw [hrl]; have := colsF_len p3; omega)
    have hput : List.take (0 + 3 + (m : Int).toNat * 8 + (q : Int).toNat * 2) (eTab t) ++ [E.v (.bool true), E.sl ((u :: rr).map eVal)] ++ List.drop (0 + 3 + (m : Int).toNat * 8 + (q : Int).toNat * 2 + 2) (eTab t) = eTab (putT t m q ⟨true, u :: rr⟩) := tabPut h (i := m) (j := q) (by omega) hq4 ⟨true, u :: rr⟩
    have l2 : 0 + 3 + (m : Int).toNat * 8 + (q : Int).toNat * 2 + 2 ≤ (Cs.es (eTab t)).len := by show 0 + 3 + m * 8 + q * 2 + 2 ≤ (eTab t).length; omega
    repeat' (first | refine tr_seq ?_ | refine tr_block ?_ | refine tr_skip ?_)
    repeat' (first | refine tr_seq ?_ | refine tr_block ?_ | refine tr_skip ?_)
    refine tr_draw (T := tab) tOk hnt mixedR (lexD (T := tab) rfl ?_ (callD rfl rfl rfl rfl rfl rfl rfl rfl (hrw) (lexD (T := tab) rfl ?_ (.nil _)))) (by decide +kernel) ?_
    · (dsimp only [AllP]; (repeat' first | exact trivial | assumption | exact Nat.le_of_ble_eq_true rfl | apply And.intro | exact eCells_len1 _ _ ‹_› | exact eCells_isByte _ _ ‹_› | (intro hh_; have hg_ := hh_; (try simp only [condT_ff, condF_tt, notE_t, notE_f, Bool.and_eq_true, ne_eq, decide_eq_true_eq, decide_eq_false_iff_not] at hg_)) | intro _ | exact rfl | omega))
    · (dsimp only [AllP]; (repeat' first | exact trivial | assumption | exact Nat.le_of_ble_eq_true rfl | apply And.intro | exact eCells_len1 _ _ ‹_› | exact eCells_isByte _ _ ‹_› | (intro hh_; have hg_ := hh_; (try simp only [condT_ff, condF_tt, notE_t, notE_f, Bool.and_eq_true, ne_eq, decide_eq_true_eq, decide_eq_false_iff_not] at hg_)) | intro _ | exact rfl | omega))
    have hok := putT_ok (j := q) h (show m < 2 by omega) ⟨true, u :: rr⟩ hr
    generalize putT t m q ⟨true, u :: rr⟩ = t' at *
    have h19' := tabLen hok
    have f19' : 0 + 19 ≤ (Cs.es (eTab t')).len := by show 0 + 19 ≤ (eTab t').length; omega
    have e19' : (Cs.es (List.take 19 (List.drop 0 (eTab t')))).len = 19 := by rw [tabAll hok]; exact h19'
    rw [hput]
    repeat' (first | refine tr_seq ?_ | refine tr_block ?_ | refine tr_skip ?_)
    first | refine reg (T := tab) tOk hnt rfl ?_ ?_ | refine regD (T := tab) tOk mixedR hnt rfl (by decide +kernel) ?_ ?_
    · (dsimp only [AllP]; (repeat' first | exact trivial | assumption | exact Nat.le_of_ble_eq_true rfl | apply And.intro | exact eCells_len1 _ _ ‹_› | exact eCells_isByte _ _ ‹_› | (intro hh_; have hg_ := hh_; (try simp only [condT_ff, condF_tt, notE_t, notE_f, Bool.and_eq_true, ne_eq, decide_eq_true_eq, decide_eq_false_iff_not] at hg_)) | intro _ | exact rfl | omega))
    rw [tabAll hok, tzPut]
    repeat' (first | refine tr_seq ?_ | refine tr_block ?_ | refine tr_skip ?_)
    refine tr_ret ⟨.inr rfl, _, _, rfl, ?_, ?_⟩
    · (dsimp only [AllP]; (repeat' first | exact trivial | assumption | exact Nat.le_of_ble_eq_true rfl | apply And.intro | exact eCells_len1 _ _ ‹_› | exact eCells_isByte _ _ ‹_› | (intro hh_; have hg_ := hh_; (try simp only [condT_ff, condF_tt, notE_t, notE_f, Bool.and_eq_true, ne_eq, decide_eq_true_eq, decide_eq_false_iff_not] at hg_)) | intro _ | exact rfl | omega))
    rw [tabAll hok]
    rfl
set_option maxRecDepth 10000 in
set_option maxHeartbeats 2000000 in
theorem Inserted_fn (t : Tbl) (i : Int) (r : List Val) (h : t.ok) (hr : ∀ v ∈ r, v.fit) : FnG Tryd.prog 23 gK [.agg (.es (eTab t)), .one (.e (eI i)), .one (.e (eRow r))] (rTb (insF t i r)) := by
  refine fn_introG (T := tab) tOk Tryd.func23 rfl (by kernel_rfl) (by simp [Tryd.ntmps23]) ?_
  intro X hX
  have hnt : X.nt = 67 := hX
  clear hX
  have h19 := tabLen h
  have f19 : 0 + 19 ≤ (Cs.es (eTab t)).len := by show 0 + 19 ≤ (eTab t).length; omega
  have h1 := ready_fn t i h
  have h2 := rowFault_fn r t.c h.cs (fun v hv => (hr v hv).1)
  have hbg : bgE t i = 0 → tabF t = 0 ∧ 0 ≤ i ∧ i < 2 := by
    unfold bgE
    intro hb
    split at hb
    · contradiction
    · rename_i h0
      split at hb
      · exact absurd hb (by decide)
      · exact ⟨Classical.not_not.1 h0, by omega, by omega⟩
  unfold insF
  rw [← tabAll h] at h1
  generalize bgE t i = e at *
  repeat' (first | refine tr_seq ?_ | refine reg (T := tab) tOk hnt rfl ?_ ?_ | refine regD (T := tab) tOk mixedR hnt rfl (by decide +kernel) ?_ ?_ | refine tr_block ?_ | refine tr_skip ?_)
  · (dsimp only [AllP]; (repeat' first | exact trivial | assumption | exact Nat.le_of_ble_eq_true rfl | apply And.intro | decide | intro _ | exact rfl))
  repeat' (first | refine tr_seq ?_ | refine tr_block ?_ | refine tr_skip ?_)
  refine tr_region (lex (T := tab) tOk hnt rfl ?_ (callV rfl rfl rfl rfl rfl rfl rfl hnt rfl (h1) (lex (T := tab) tOk hnt rfl ?_ (Lex.nil _)))) ?_
  · (dsimp only [AllP]; (repeat' first | exact trivial | assumption | exact Nat.le_of_ble_eq_true rfl | apply And.intro | exact eCells_len1 _ _ ‹_› | exact eCells_isByte _ _ ‹_› | (intro hh_; have hg_ := hh_; (try simp only [condT_ff, condF_tt, notE_t, notE_f, Bool.and_eq_true, ne_eq, decide_eq_true_eq, decide_eq_false_iff_not] at hg_)) | intro _ | exact rfl | omega))
  · (dsimp only [AllP]; (repeat' first | exact trivial | assumption | exact Nat.le_of_ble_eq_true rfl | apply And.intro | decide | intro _ | exact rfl))
  repeat' (first | refine tr_seq ?_ | refine reg (T := tab) tOk hnt rfl ?_ ?_ | refine regD (T := tab) tOk mixedR hnt rfl (by decide +kernel) ?_ ?_ | refine tr_block ?_ | refine tr_skip ?_)
  · (dsimp only [AllP]; (repeat' first | exact trivial | assumption | exact Nat.le_of_ble_eq_true rfl | apply And.intro | decide | intro _ | exact rfl))
  by_cases he : e = 0
  case neg =>
    rw [if_pos he]
    repeat' (first | refine tr_seq ?_ | refine tr_block ?_ | refine tr_skip ?_)
    refine tr_cond rfl (fun hc => ?_) (fun hc => ?_)
    · exact absurd (of_decide_eq_true hc) he
    repeat' (first | refine tr_seq ?_ | refine reg (T := tab) tOk hnt rfl ?_ ?_ | refine regD (T := tab) tOk mixedR hnt rfl (by decide +kernel) ?_ ?_ | refine tr_block ?_ | refine tr_skip ?_)
    · (dsimp only [AllP]; (repeat' first | exact trivial | assumption | exact Nat.le_of_ble_eq_true rfl | apply And.intro | decide | intro _ | exact rfl))
    repeat' (first | refine tr_seq ?_ | refine tr_block ?_ | refine tr_skip ?_)
    refine tr_cond rfl (fun hc => ?_) (fun hc => ?_)
    · repeat' (first | refine tr_seq ?_ | refine reg (T := tab) tOk hnt rfl ?_ ?_ | refine regD (T := tab) tOk mixedR hnt rfl (by decide +kernel) ?_ ?_ | refine tr_block ?_ | refine tr_skip ?_)
      · (dsimp only [AllP]; (repeat' first | exact trivial | assumption | exact Nat.le_of_ble_eq_true rfl | apply And.intro | decide | intro _ | exact rfl))
      repeat' (first | refine tr_seq ?_ | refine tr_block ?_ | refine tr_skip ?_)
      refine tr_ret ⟨.inr rfl, _, _, rfl, by (repeat' first | exact trivial | exact Nat.le_of_ble_eq_true rfl | apply And.intro), ?_⟩
      exact rfl
    simp only [condT_tt, condT_ff, condF_tt, condF_ff, notE_t, notE_f, decide_eq_true_eq, decide_eq_false_iff_not] at hc
    exact absurd hc he
  rw [if_neg (not_not_intro he)]
  obtain ⟨ht, i0, i2⟩ := hbg he
  obtain ⟨p1, p2, p3, p4, p5⟩ := tabF_parts ht
  have hrk := fun hz => rowF_kOk (x := ⟨true, r⟩) p4 (fun _ => hz) rfl
  repeat' (first | refine tr_seq ?_ | refine tr_block ?_ | refine tr_skip ?_)
  refine tr_cond rfl (fun hc => ?_) (fun hc => ?_)
  · clear hc
    repeat' (first | refine tr_seq ?_ | refine tr_block ?_ | refine tr_skip ?_)
    refine tr_region (lex (T := tab) tOk hnt rfl ?_ (callV rfl rfl rfl rfl rfl rfl rfl hnt rfl (h2) (lex (T := tab) tOk hnt rfl ?_ (Lex.nil _)))) ?_
    · (dsimp only [AllP]; (repeat' first | exact trivial | assumption | exact Nat.le_of_ble_eq_true rfl | apply And.intro | decide | intro _ | exact rfl))
    · (dsimp only [AllP]; (repeat' first | exact trivial | assumption | exact Nat.le_of_ble_eq_true rfl | apply And.intro | decide | intro _ | exact rfl))
    repeat' (first | refine tr_seq ?_ | refine reg (T := tab) tOk hnt rfl ?_ ?_ | refine regD (T := tab) tOk mixedR hnt rfl (by decide +kernel) ?_ ?_ | refine tr_block ?_ | refine tr_skip ?_)
    · (dsimp only [AllP]; (repeat' first | exact trivial | assumption | exact Nat.le_of_ble_eq_true rfl | apply And.intro | decide | intro _ | exact rfl))
    repeat' (first | refine tr_seq ?_ | refine tr_block ?_ | refine tr_skip ?_)
    refine tr_cond rfl (fun hc => ?_) (fun hc => ?_)
    · simp only [condT_tt, condT_ff, condF_tt, condF_ff, notE_t, notE_f, decide_eq_true_eq, decide_eq_false_iff_not] at hc
      rw [if_pos hc]
      repeat' (first | refine tr_seq ?_ | refine reg (T := tab) tOk hnt rfl ?_ ?_ | refine regD (T := tab) tOk mixedR hnt rfl (by decide +kernel) ?_ ?_ | refine tr_block ?_ | refine tr_skip ?_)
      · (dsimp only [AllP]; (repeat' first | exact trivial | assumption | exact Nat.le_of_ble_eq_true rfl | apply And.intro | decide | intro _ | exact rfl))
      repeat' (first | refine tr_seq ?_ | refine tr_block ?_ | refine tr_skip ?_)
      refine tr_ret ⟨.inr rfl, _, _, rfl, by (repeat' first | exact trivial | exact Nat.le_of_ble_eq_true rfl | apply And.intro), ?_⟩
      exact rfl
    simp only [condT_tt, condT_ff, condF_tt, condF_ff, notE_t, notE_f, decide_eq_true_eq, decide_eq_false_iff_not] at hc
    rw [if_neg (not_not_intro hc)]
    obtain ⟨k1, k2, k3, k4⟩ := hrk hc
    dsimp only at k1 k2 k3 k4
    clear hrk h1 h2 hbg he
    obtain ⟨m, rfl⟩ : ∃ m : Nat, i = m := ⟨i.toNat, by omega⟩
    have hmd : m < t.d.length := by rw [h.h2]; omega
    have hm := memD (d := []) hmd
    have h4 := h.h4 _ hm
    have hkk := celF_kOk p4 (p5 _ hm).1
    have hcell : ∀ j : Nat, j < 4 → List.take 2 (List.drop (0 + 3 + (m : Int).toNat * 8 + (j : Int).toNat * 2) (eTab t)) = eCel ((t.d.getD m []).getD j cel0) := fun j hj => tabCel h (i := m) (j := j) (by omega) hj
    rw [Int.toNat_natCast]
    cases r with
    | nil => exact absurd rfl k1
    | cons u rr =>
      rw [show ((u :: rr).getD 0 val0).i = u.i from rfl]
      generalize rowF (u :: rr) t.c = e0 at *
      generalize hdd : t.d.getD m [] = d at *
      repeat' (first | refine tr_seq ?_ | refine reg (T := tab) tOk hnt rfl ?_ ?_ | refine regD (T := tab) tOk mixedR hnt rfl (by decide +kernel) ?_ ?_ | refine tr_block ?_ | refine tr_skip ?_)
      · (dsimp only [AllP]; (repeat' first | exact trivial | assumption | exact Nat.le_of_ble_eq_true rfl | apply And.intro | decide | intro _ | exact rfl))
      · (dsimp only [AllP]; (repeat' first | exact trivial | assumption | exact Nat.le_of_ble_eq_true rfl | apply And.intro | decide | intro _ | exact rfl))
      repeat' (first | refine tr_seq ?_ | refine tr_block ?_ | refine tr_skip ?_)
      refine tr_loop (σ := Nat × Int × Int) (fun y => St.of [(1, .one (.e (eI (m : Int)))), (2, .one (.e (eRow (u :: rr)))), (3, .one (.ptr 3 0 0)), (6, .one (.ptr 6 0 0)), (8, .one (.e (eI y.2.1))), (9, .one (.e (eI y.2.2))), (10, .one (.e (eI ((y.1 : Int) - 1))))] [(3, ⟨0, .box (.es (eTab t)), 0⟩), (6, ⟨0, .box (.es (eTab tz)), 0⟩)]) (fun y => y.2.1 = (if hasK (d.drop y.1) u.i = true then 8 else 0) ∧ y.2.2 = ((y.1 + frN (d.drop y.1) : Nat) : Int) ∧ y.1 ≤ 4) (fun y => y.1) ((4, e0, 4)) (le_of (ad := []) (by refine ⟨?_, ?_, ?_, ?_, ?_, ?_, ?_, trivial⟩ <;> first | exact trivial | rfl | exact ⟨rfl, rfl⟩ | exact ⟨rfl, rfl, rfl⟩ | exact ⟨rfl, rfl, rfl, rfl⟩ | exact ⟨rfl, rfl, rfl, rfl, rfl⟩ | exact congrArg (fun z : Int => E.v (.int .i64 z)) (wrap64_id (by omega) (by omega))) (memOk_box rfl rfl rfl (memOk_box rfl rfl (by repeat' first | exact trivial | exact rfl | apply And.intro) trivial))) ⟨by dsimp only; rw [List.drop_eq_nil_of_le (by omega), hc]; rfl, by dsimp only; rw [List.drop_eq_nil_of_le (by omega)]; rfl, by dsimp only; omega⟩ ?_
      rintro ⟨k, e1, f1⟩ ⟨he, hf, kl⟩
      dsimp only at he hf kl ⊢
      repeat' (first | refine tr_seq ?_ | refine reg (T := tab) tOk hnt rfl ?_ ?_ | refine regD (T := tab) tOk mixedR hnt rfl (by decide +kernel) ?_ ?_ | refine tr_block ?_ | refine tr_skip ?_)
      · (dsimp only [AllP]; (repeat' first | exact trivial | assumption | exact Nat.le_of_ble_eq_true rfl | apply And.intro | decide | intro _ | exact rfl))
      repeat' (first | refine tr_seq ?_ | refine tr_block ?_ | refine tr_skip ?_)
      refine tr_cond rfl (fun hc => ?_) (fun hc => ?_)
      · simp only [condT_tt, condT_ff, condF_tt, condF_ff, notE_t, notE_f, decide_eq_true_eq, decide_eq_false_iff_not] at hc
        obtain ⟨j, rfl⟩ : ∃ j, k = j + 1 := ⟨k - 1, by omega⟩
        have ej : ((j + 1 : Nat) : Int) - 1 = (j : Int) := by omega
        rw [ej]
        have hjt : j < d.length := by omega
        have hg2 := hcell j (by omega)
        have hdr := drop_getD (d := cel0) hjt
        have hxk := hkk _ (memD (d := cel0) hjt)
        have l2 : 0 + 3 + (m : Int).toNat * 8 + (j : Int).toNat * 2 + 2 ≤ (Cs.es (eTab t)).len := by show 0 + 3 + m * 8 + j * 2 + 2 ≤ (eTab t).length; omega
        have e2 : (Cs.es (List.take 2 (List.drop (0 + 3 + (m : Int).toNat * 8 + (j : Int).toNat * 2) (eTab t)))).len = 2 := congrArg List.length hg2
        repeat' (first | refine tr_seq ?_ | refine tr_block ?_ | refine tr_skip ?_)
        first | refine reg (T := tab) tOk hnt rfl ?_ ?_ | refine regD (T := tab) tOk mixedR hnt rfl (by decide +kernel) ?_ ?_
        · (dsimp only [AllP]; (repeat' first | exact trivial | assumption | exact Nat.le_of_ble_eq_true rfl | apply And.intro | exact eCells_len1 _ _ ‹_› | exact eCells_isByte _ _ ‹_› | (intro hh_; have hg_ := hh_; (try simp only [condT_ff, condF_tt, notE_t, notE_f, Bool.and_eq_true, ne_eq, decide_eq_true_eq, decide_eq_false_iff_not] at hg_)) | intro _ | exact rfl | omega))
        rw [hg2]
        generalize d.getD j cel0 = x at *
        obtain ⟨xf, xr⟩ := x
        repeat' (first | refine tr_seq ?_ | refine tr_block ?_ | refine tr_skip ?_)
        first | refine reg (T := tab) tOk hnt rfl ?_ ?_ | refine regD (T := tab) tOk mixedR hnt rfl (by decide +kernel) ?_ ?_
        · (dsimp only [AllP]; (repeat' first | exact trivial | assumption | exact Nat.le_of_ble_eq_true rfl | apply And.intro | exact eCells_len1 _ _ ‹_› | exact eCells_isByte _ _ ‹_› | (intro hh_; have hg_ := hh_; (try simp only [condT_ff, condF_tt, notE_t, notE_f, Bool.and_eq_true, ne_eq, decide_eq_true_eq, decide_eq_false_iff_not] at hg_)) | intro _ | exact rfl | omega))
        cases xf with
        | false =>
          have he' : e1 = (if hasK (d.drop j) u.i = true then 8 else 0) := by rw [hdr]; exact he
          have hf' : ((j : Nat) : Int) = ((j + frN (d.drop j) : Nat) : Int) := by
            rw [hdr]; rfl
          repeat' (first | refine tr_seq ?_ | refine tr_block ?_ | refine tr_skip ?_)
          refine tr_cond rfl (fun hc => ?_) (fun hc => ?_)
          · repeat' (first | refine tr_seq ?_ | refine reg (T := tab) tOk hnt rfl ?_ ?_ | refine regD (T := tab) tOk mixedR hnt rfl (by decide +kernel) ?_ ?_ | refine tr_block ?_ | refine tr_skip ?_)
            · (dsimp only [AllP]; (repeat' first | exact trivial | assumption | exact Nat.le_of_ble_eq_true rfl | apply And.intro | decide | intro _ | exact rfl))
            · (dsimp only [AllP]; (repeat' first | exact trivial | assumption | exact Nat.le_of_ble_eq_true rfl | apply And.intro | decide | intro _ | exact rfl))
            refine ⟨(j, e1, (j : Int)), ⟨he', hf', by dsimp only; omega⟩, by dsimp only; omega, le_of (ad := []) (by refine ⟨?_, ?_, ?_, ?_, ?_, ?_, ?_, trivial⟩ <;> first | exact trivial | rfl | exact ⟨rfl, rfl⟩ | exact ⟨rfl, rfl, rfl⟩ | exact ⟨rfl, rfl, rfl, rfl⟩ | exact ⟨rfl, rfl, rfl, rfl, rfl⟩ | exact congrArg (fun z : Int => E.v (.int .i64 z)) (wrap64_id (by omega) (by omega))) (memOk_box rfl rfl rfl (memOk_box rfl rfl rfl trivial))⟩
          exact absurd (show true = false from hc) Bool.noConfusion
        | true =>
          have hf' : f1 = ((j + frN (d.drop j) : Nat) : Int) := by
            rw [hdr, hf]
            unfold frN
            rw [List.findIdx_cons]
            show _ = ((j + (List.findIdx (fun c => !c.f) (List.drop (j + 1) d) + 1) : Nat) : Int)
            omega
          repeat' (first | refine tr_seq ?_ | refine tr_block ?_ | refine tr_skip ?_)
          refine tr_cond rfl (fun hc => ?_) (fun hc => ?_)
          · exact absurd (show false = true from hc) Bool.noConfusion
          obtain ⟨x1, x2, x3, x4⟩ := hxk rfl
          dsimp only at x1 x2 x3 x4
          cases xr with
          | nil => exact absurd rfl x1
          | cons v xr =>
            have hh : hasK (d.drop j) u.i = (decide (v.i = u.i) || hasK (d.drop (j + 1)) u.i) := by rw [hdr]; rfl
            repeat' (first | refine tr_seq ?_ | refine tr_block ?_ | refine tr_skip ?_)
            first | refine reg (T := tab) tOk hnt rfl ?_ ?_ | refine regD (T := tab) tOk mixedR hnt rfl (by decide +kernel) ?_ ?_
            · (dsimp only [AllP]; (repeat' first | exact trivial | assumption | exact Nat.le_of_ble_eq_true rfl | apply And.intro | exact rfl | (intro _) | exact Int.natCast_pos.2 (Nat.succ_pos _) | exact Int.le_refl _))
            repeat' (first | refine tr_seq ?_ | refine tr_block ?_ | refine tr_skip ?_)
            refine tr_cond rfl (fun hc => ?_) (fun hc => ?_)
            · have hc : decide (v.i = u.i) = true := hc
              rw [hc, Bool.true_or] at hh
              have he' : (8 : Int) = (if hasK (d.drop j) u.i = true then 8 else 0) := by rw [if_pos hh]
              repeat' (first | refine tr_seq ?_ | refine reg (T := tab) tOk hnt rfl ?_ ?_ | refine regD (T := tab) tOk mixedR hnt rfl (by decide +kernel) ?_ ?_ | refine tr_block ?_ | refine tr_skip ?_)
              · (dsimp only [AllP]; (repeat' first | exact trivial | assumption | exact Nat.le_of_ble_eq_true rfl | apply And.intro | decide | intro _ | exact rfl))
              · (dsimp only [AllP]; (repeat' first | exact trivial | assumption | exact Nat.le_of_ble_eq_true rfl | apply And.intro | decide | intro _ | exact rfl))
              refine ⟨(j, 8, f1), ⟨he', hf', by dsimp only; omega⟩, by dsimp only; omega, le_of (ad := []) (by refine ⟨?_, ?_, ?_, ?_, ?_, ?_, ?_, trivial⟩ <;> first | exact trivial | rfl | exact ⟨rfl, rfl⟩ | exact ⟨rfl, rfl, rfl⟩ | exact ⟨rfl, rfl, rfl, rfl⟩ | exact ⟨rfl, rfl, rfl, rfl, rfl⟩ | exact congrArg (fun z : Int => E.v (.int .i64 z)) (wrap64_id (by omega) (by omega))) (memOk_box rfl rfl rfl (memOk_box rfl rfl rfl trivial))⟩
            have hc : decide (v.i = u.i) = false := hc
            rw [hc, Bool.false_or] at hh
            have he' : e1 = (if hasK (d.drop j) u.i = true then 8 else 0) := by rw [hh]; exact he
            repeat' (first | refine tr_seq ?_ | refine reg (T := tab) tOk hnt rfl ?_ ?_ | refine regD (T := tab) tOk mixedR hnt rfl (by decide +kernel) ?_ ?_ | refine tr_block ?_ | refine tr_skip ?_)
            · (dsimp only [AllP]; (repeat' first | exact trivial | assumption | exact Nat.le_of_ble_eq_true rfl | apply And.intro | decide | intro _ | exact rfl))
            refine ⟨(j, e1, f1), ⟨he', hf', by dsimp only; omega⟩, by dsimp only; omega, le_of (ad := []) (by refine ⟨?_, ?_, ?_, ?_, ?_, ?_, ?_, trivial⟩ <;> first | exact trivial | rfl | exact ⟨rfl, rfl⟩ | exact ⟨rfl, rfl, rfl⟩ | exact ⟨rfl, rfl, rfl, rfl⟩ | exact ⟨rfl, rfl, rfl, rfl, rfl⟩ | exact congrArg (fun z : Int => E.v (.int .i64 z)) (wrap64_id (by omega) (by omega))) (memOk_box rfl rfl rfl (memOk_box rfl rfl rfl trivial))⟩
      simp only [condT_tt, condT_ff, condF_tt, condF_ff, notE_t, notE_f, decide_eq_true_eq, decide_eq_false_iff_not] at hc
      refine tr_exit ?_
      obtain rfl : k = 0 := by omega
      rw [List.drop_zero] at he hf
      have hq := frN_le d
      clear hc
      repeat' (first | refine tr_seq ?_ | refine tr_block ?_ | refine tr_skip ?_)
      first | refine reg (T := tab) tOk hnt rfl ?_ ?_ | refine regD (T := tab) tOk mixedR hnt rfl (by decide +kernel) ?_ ?_
      · (dsimp only [AllP]; (repeat' first | exact trivial | assumption | exact Nat.le_of_ble_eq_true rfl | apply And.intro | exact eCells_len1 _ _ ‹_› | exact eCells_isByte _ _ ‹_› | (intro hh_; have hg_ := hh_; (try simp only [condT_ff, condF_tt, notE_t, notE_f, Bool.and_eq_true, ne_eq, decide_eq_true_eq, decide_eq_false_iff_not] at hg_)) | intro _ | exact rfl | omega))
      repeat' (first | refine tr_seq ?_ | refine tr_block ?_ | refine tr_skip ?_)
      refine tr_cond rfl (fun hc => ?_) (fun hc => ?_)
      · have hc : (bif decide (e1 = 0) then decide (f1 = 4) else false) = true := hc
        simp only [condT_tt, condT_ff, condF_tt, condF_ff, notE_t, notE_f, decide_eq_true_eq, decide_eq_false_iff_not] at hc
        have hnk : ¬ hasK d u.i = true := fun g => by rw [if_pos g] at he; omega
        rw [if_neg hnk, if_neg (by omega)]
        repeat' (first | refine tr_seq ?_ | refine reg (T := tab) tOk hnt rfl ?_ ?_ | refine regD (T := tab) tOk mixedR hnt rfl (by decide +kernel) ?_ ?_ | refine tr_block ?_ | refine tr_skip ?_)
        · (dsimp only [AllP]; (repeat' first | exact trivial | assumption | exact Nat.le_of_ble_eq_true rfl | apply And.intro | decide | intro _ | exact rfl))
        · (dsimp only [AllP]; (repeat' first | exact trivial | assumption | exact Nat.le_of_ble_eq_true rfl | apply And.intro | decide | intro _ | exact rfl))
        repeat' (first | refine tr_seq ?_ | refine tr_block ?_ | refine tr_skip ?_)
        refine tr_cond rfl (fun hc => ?_) (fun hc => ?_)
        · repeat' (first | refine tr_seq ?_ | refine reg (T := tab) tOk hnt rfl ?_ ?_ | refine regD (T := tab) tOk mixedR hnt rfl (by decide +kernel) ?_ ?_ | refine tr_block ?_ | refine tr_skip ?_)
          · (dsimp only [AllP]; (repeat' first | exact trivial | assumption | exact Nat.le_of_ble_eq_true rfl | apply And.intro | decide | intro _ | exact rfl))
          repeat' (first | refine tr_seq ?_ | refine tr_block ?_ | refine tr_skip ?_)
          refine tr_ret ⟨.inr rfl, _, _, rfl, by (repeat' first | exact trivial | exact Nat.le_of_ble_eq_true rfl | apply And.intro), ?_⟩
          exact rfl
        exact absurd (show true = false from hc) Bool.noConfusion
      have hc : (bif decide (e1 = 0) then decide (f1 = 4) else false) = false := hc
      simp only [condT_tt, condT_ff, condF_tt, condF_ff, notE_t, notE_f, decide_eq_true_eq, decide_eq_false_iff_not] at hc
      have hc1 : ¬ (e1 = 0 ∧ f1 = 4) := by omega
      clear hc
      repeat' (first | refine tr_seq ?_ | refine reg (T := tab) tOk hnt rfl ?_ ?_ | refine regD (T := tab) tOk mixedR hnt rfl (by decide +kernel) ?_ ?_ | refine tr_block ?_ | refine tr_skip ?_)
      · (dsimp only [AllP]; (repeat' first | exact trivial | assumption | exact Nat.le_of_ble_eq_true rfl | apply And.intro | decide | intro _ | exact rfl))
      repeat' (first | refine tr_seq ?_ | refine tr_block ?_ | refine tr_skip ?_)
      refine tr_cond rfl (fun hc => ?_) (fun hc => ?_)
      · simp only [condT_tt, condT_ff, condF_tt, condF_ff, notE_t, notE_f, decide_eq_true_eq, decide_eq_false_iff_not] at hc
        have hk : hasK d u.i = true := by
          cases hh : hasK d u.i with
          | true => rfl
          | false => rw [if_neg (by rw [hh]; exact Bool.noConfusion)] at he; exact absurd he hc
        rw [if_pos hk] at he ⊢
        subst he
        repeat' (first | refine tr_seq ?_ | refine reg (T := tab) tOk hnt rfl ?_ ?_ | refine regD (T := tab) tOk mixedR hnt rfl (by decide +kernel) ?_ ?_ | refine tr_block ?_ | refine tr_skip ?_)
        · (dsimp only [AllP]; (repeat' first | exact trivial | assumption | exact Nat.le_of_ble_eq_true rfl | apply And.intro | decide | intro _ | exact rfl))
        repeat' (first | refine tr_seq ?_ | refine tr_block ?_ | refine tr_skip ?_)
        refine tr_ret ⟨.inr rfl, _, _, rfl, by (repeat' first | exact trivial | exact Nat.le_of_ble_eq_true rfl | apply And.intro), ?_⟩
        exact rfl
      simp only [condT_tt, condT_ff, condF_tt, condF_ff, notE_t, notE_f, decide_eq_true_eq, decide_eq_false_iff_not] at hc
      have hnk : ¬ hasK d u.i = true := fun g => by rw [if_pos g] at he; omega
      have hq4 : frN d < 4 := by omega
      rw [if_neg hnk, if_pos hq4]
      have hf : f1 = (frN d : Int) := by rw [hf]; omega
      subst hf
      generalize frN d = q at *
      have hput : List.take (0 + 3 + (m : Int).toNat * 8 + (q : Int).toNat * 2) (eTab t) ++ [E.v (.bool true), E.sl ((u :: rr).map eVal)] ++ List.drop (0 + 3 + (m : Int).toNat * 8 + (q : Int).toNat * 2 + 2) (eTab t) = eTab (putT t m q ⟨true, u :: rr⟩) := tabPut h (i := m) (j := q) (by omega) hq4 ⟨true, u :: rr⟩
      have l2 : 0 + 3 + (m : Int).toNat * 8 + (q : Int).toNat * 2 + 2 ≤ (Cs.es (eTab t)).len := by show 0 + 3 + m * 8 + q * 2 + 2 ≤ (eTab t).length; omega
      repeat' (first | refine tr_seq ?_ | refine tr_block ?_ | refine tr_skip ?_)
      first | refine reg (T := tab) tOk hnt rfl ?_ ?_ | refine regD (T := tab) tOk mixedR hnt rfl (by decide +kernel) ?_ ?_
      · (dsimp only [AllP]; (repeat' first | exact trivial | assumption | exact Nat.le_of_ble_eq_true rfl | apply And.intro | exact eCells_len1 _ _ ‹_› | exact eCells_isByte _ _ ‹_› | (intro hh_; have hg_ := hh_; (try simp only [condT_ff, condF_tt, notE_t, notE_f, Bool.and_eq_true, ne_eq, decide_eq_true_eq, decide_eq_false_iff_not] at hg_)) | intro _ | exact rfl | omega))
      have hok := putT_ok (j := q) h (show m < 2 by omega) ⟨true, u :: rr⟩ hr
      generalize putT t m q ⟨true, u :: rr⟩ = t' at *
      have h19' := tabLen hok
      have f19' : 0 + 19 ≤ (Cs.es (eTab t')).len := by show 0 + 19 ≤ (eTab t').length; omega
      have e19' : (Cs.es (List.take 19 (List.drop 0 (eTab t')))).len = 19 := by rw [tabAll hok]; exact h19'
      rw [hput]
      repeat' (first | refine tr_seq ?_ | refine tr_block ?_ | refine tr_skip ?_)
      first | refine reg (T := tab) tOk hnt rfl ?_ ?_ | refine regD (T := tab) tOk mixedR hnt rfl (by decide +kernel) ?_ ?_
      · (dsimp only [AllP]; (repeat' first | exact trivial | assumption | exact Nat.le_of_ble_eq_true rfl | apply And.intro | exact eCells_len1 _ _ ‹_› | exact eCells_isByte _ _ ‹_› | (intro hh_; have hg_ := hh_; (try simp only [condT_ff, condF_tt, notE_t, notE_f, Bool.and_eq_true, ne_eq, decide_eq_true_eq, decide_eq_false_iff_not] at hg_)) | intro _ | exact rfl | omega))
      rw [tabAll hok, tzPut]
      repeat' (first | refine tr_seq ?_ | refine tr_block ?_ | refine tr_skip ?_)
      refine tr_ret ⟨.inr rfl, _, _, rfl, ?_, ?_⟩
      · (dsimp only [AllP]; (repeat' first | exact trivial | assumption | exact Nat.le_of_ble_eq_true rfl | apply And.intro | exact eCells_len1 _ _ ‹_› | exact eCells_isByte _ _ ‹_› | (intro hh_; have hg_ := hh_; (try simp only [condT_ff, condF_tt, notE_t, notE_f, Bool.and_eq_true, ne_eq, decide_eq_true_eq, decide_eq_false_iff_not] at hg_)) | intro _ | exact rfl | omega))
      rw [tabAll hok]
      rfl
  exact absurd he (of_decide_eq_false hc)
end Go.Proofs.YtcjeeoimjkhijaaDoor
