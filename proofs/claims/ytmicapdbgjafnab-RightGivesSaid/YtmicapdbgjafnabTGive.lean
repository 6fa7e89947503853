/- Package right: a grant given; law RightGives answers true. No condition. -/
import Derived.Test.YtmicapdbgjafnabTMay
namespace Go.Proofs.Ytmicapdbgjafnab
open Go Go.RowKit Go.Proofs.Ytmicapdbgjafnab.Ab

theorem plOk (p q : Int × Int × Int × Int) : (eqD tab 9 57 (.agg (.es (ePl p))) (.agg (.es (ePl q)))).1 :=
  ⟨⟨Nat.le_of_ble_eq_true rfl, rfl⟩, ⟨Nat.le_of_ble_eq_true rfl, rfl⟩, rfl, ⟨Nat.le_of_ble_eq_true rfl, rfl⟩, ⟨Nat.le_of_ble_eq_true rfl, rfl⟩, rfl, ⟨Nat.le_of_ble_eq_true rfl, rfl⟩, ⟨Nat.le_of_ble_eq_true rfl, rfl⟩, rfl, ⟨Nat.le_of_ble_eq_true rfl, rfl⟩, ⟨Nat.le_of_ble_eq_true rfl, rfl⟩, rfl, trivial⟩
theorem plEq (p q : Int × Int × Int × Int) : (eqD tab 9 57 (.agg (.es (ePl p))) (.agg (.es (ePl q)))).2 = decide (p = q) := by
  obtain ⟨a, b, c, d⟩ := p
  obtain ⟨a', b', c', d'⟩ := q
  show ((a == a') && ((b == b') && ((c == c') && ((d == d') && true)))) = _
  rw [Bool.eq_iff_iff]
  simp
theorem grOkE (p : Gr) : (eqD tab 9 37 (.agg (.es (eGr p))) (.agg (.es (eGr p)))).1 :=
  ⟨⟨Nat.le_of_ble_eq_true rfl, rfl⟩, ⟨Nat.le_of_ble_eq_true rfl, rfl⟩, rfl, ⟨Nat.le_of_ble_eq_true rfl, rfl⟩, ⟨Nat.le_of_ble_eq_true rfl, rfl⟩, rfl, ⟨Nat.le_of_ble_eq_true rfl, rfl⟩, ⟨Nat.le_of_ble_eq_true rfl, rfl⟩, rfl, ⟨Nat.le_of_ble_eq_true rfl, rfl⟩, ⟨Nat.le_of_ble_eq_true rfl, rfl⟩, rfl, ⟨Nat.le_of_ble_eq_true rfl, rfl⟩, ⟨Nat.le_of_ble_eq_true rfl, rfl⟩, trivial, trivial⟩
theorem grEqE (p : Gr) : (eqD tab 9 37 (.agg (.es (eGr p))) (.agg (.es (eGr p)))).2 = true := by
  obtain ⟨a, b, c, d, e, ⟨⟩⟩ := p
  show ((a == a) && ((b == b) && ((c == c) && ((d == d) && ((e == e) && true))))) = _
  simp
def giveF (l : List Gr) (g : Gr) : List Gr × Int :=
  if gfaultF l ≠ 0 then ([], gfaultF l) else if boundsF g ≠ 0 then ([], boundsF g) else if mayF l g.1 g.2.2.1 g.2.2.2.1 = false then ([], 5) else (givenF l g, 0)
theorem gvA {l : List Gr} {g : Gr} (h : gfaultF l ≠ 0) : giveF l g = ([], gfaultF l) := if_pos h
theorem gvB {l : List Gr} {g : Gr} (h : gfaultF l = 0) (h1 : boundsF g ≠ 0) : giveF l g = ([], boundsF g) := (if_neg (fun k => k h)).trans (if_pos h1)
theorem gvC {l : List Gr} {g : Gr} (h : gfaultF l = 0) (h1 : boundsF g = 0) (h2 : mayF l g.1 g.2.2.1 g.2.2.2.1 = false) : giveF l g = ([], 5) := (if_neg (fun k => k h)).trans ((if_neg (fun k => k h1)).trans (if_pos h2))
theorem gvD {l : List Gr} {g : Gr} (h : gfaultF l = 0) (h1 : boundsF g = 0) (h2 : mayF l g.1 g.2.2.1 g.2.2.2.1 ≠ false) : giveF l g = (givenF l g, 0) := (if_neg (fun k => k h)).trans ((if_neg (fun k => k h1)).trans (if_neg h2))
def rGrs (r : List Gr × Int) : D := .tup [(false, .es [eGrs r.1]), (false, .es [eI r.2])]
theorem given_len (l : List Gr) (g : Gr) : (givenF l g).length ≤ 2 * l.length + 1 := by
  unfold givenF
  have h1 : (l.filter (fun h => decide (rankF h < rankF g))).length ≤ l.length := List.length_filter_le ..
  have h2 : (l.filter (fun h => decide (rankF g < rankF h))).length ≤ l.length := List.length_filter_le ..
  rw [List.length_append, List.length_cons]
  omega
theorem give_len (l : List Gr) (g : Gr) : (giveF l g).1.length ≤ 1000 := by
  by_cases h : gfaultF l = 0
  · have hb := (gfault_zero h).1
    by_cases h1 : boundsF g = 0
    · by_cases h2 : mayF l g.1 g.2.2.1 g.2.2.2.1 = false
      · rw [gvC h h1 h2]; exact Nat.zero_le _
      · rw [gvD h h1 h2]
        have := given_len l g
        dsimp only
        omega
    · rw [gvB h h1]; exact Nat.zero_le _
  · rw [gvA h]; exact Nat.zero_le _
theorem roomGr {n : Nat} (h : n ≤ 1000000) : n + 1 ≤ maxLen ∧ (n + 1) * 40 ≤ 140737488355328 := by
  simp only [maxLen]
  omega
theorem opBit (a b : Bool) : (bif a then true else b) = (a || b) := by cases a <;> rfl
theorem pl_rank' {h g : Gr} (e : rankF (withOp g true) = rankF h) : rankF g = rankF h := e
theorem setOp (g : Gr) (b : Bool) : List.take 4 (eGr g) ++ [E.v (.bool b)] ++ List.drop 5 (eGr g) = eGr (withOp g b) := by
  obtain ⟨_, _, _, _, _, ⟨⟩⟩ := g
  rfl

set_option maxRecDepth 10000 in
theorem Give_fn (l : List Gr) (g : Gr) : FnD Try.prog 11 [.one (.e (eGrs l)), .agg (.es (eGr g))] (rGrs (giveF l g)) := by
  refine fn_intro (T := tab) tOk Try.func11 rfl (by kernel_rfl) (by simp [Try.ntmps11]) ?_
  intro X hX
  have hnt : X.nt = 74 := hX
  clear hX
  refine tr_seq (reg (T := tab) tOk hnt rfl ?_ ?_)
  · (dsimp only [AllP]; (repeat' first | exact trivial | assumption | exact Nat.le_of_ble_eq_true rfl | apply And.intro | intro _ | exact rfl))
  repeat' (first | refine tr_seq ?_ | refine tr_block ?_)
  refine tr_region (lex (T := tab) tOk hnt rfl ?_ (call rfl rfl rfl rfl rfl rfl rfl hnt (Check_fn l) (lex (T := tab) tOk hnt rfl ?_ (Lex.nil _)))) ?_
  · (dsimp only [AllP]; (repeat' first | exact trivial | assumption | exact Nat.le_of_ble_eq_true rfl | apply And.intro | intro _ | exact rfl))
  · (dsimp only [AllP]; (repeat' first | exact trivial | assumption | exact Nat.le_of_ble_eq_true rfl | apply And.intro | intro _ | exact rfl))
  repeat' (first | refine tr_seq ?_ | refine reg (T := tab) tOk hnt rfl ?_ ?_ | refine tr_cond rfl (fun _ => ?_) (fun _ => ?_) | refine tr_block ?_ | refine tr_skip ?_ | refine tr_ret ?_ | refine tr_exit ?_)
  all_goals (try ((dsimp only [AllP]; (repeat' first | exact trivial | assumption | exact Nat.le_of_ble_eq_true rfl | apply And.intro | intro _ | exact rfl)); done))
  · rename_i h
    have h : ¬ gfaultF l = 0 := by simpa using h
    refine ⟨.inr rfl, _, _, rfl, by trivial, ?_⟩
    rw [gvA h]
    rfl
  rename_i h
  have hz : gfaultF l = 0 := by simpa using h
  clear h
  obtain ⟨hb, hbl, hpw, -⟩ := gfault_zero hz
  refine tr_region (lex (T := tab) tOk hnt rfl ?_ (call rfl rfl rfl rfl rfl rfl rfl hnt (bounds_fn g) (lex (T := tab) tOk hnt rfl ?_ (Lex.nil _)))) ?_
  · (dsimp only [AllP]; (repeat' first | exact trivial | assumption | exact Nat.le_of_ble_eq_true rfl | apply And.intro | intro _ | exact rfl))
  · (dsimp only [AllP]; (repeat' first | exact trivial | assumption | exact Nat.le_of_ble_eq_true rfl | apply And.intro | intro _ | exact rfl))
  repeat' (first | refine tr_seq ?_ | refine reg (T := tab) tOk hnt rfl ?_ ?_ | refine tr_cond rfl (fun _ => ?_) (fun _ => ?_) | refine tr_block ?_ | refine tr_skip ?_ | refine tr_ret ?_ | refine tr_exit ?_)
  all_goals (try ((dsimp only [AllP]; (repeat' first | exact trivial | assumption | exact Nat.le_of_ble_eq_true rfl | apply And.intro | intro _ | exact rfl)); done))
  · rename_i h
    have h : ¬ boundsF g = 0 := by simpa using h
    refine ⟨.inr rfl, _, _, rfl, by trivial, ?_⟩
    rw [gvB hz h]
    rfl
  rename_i h
  have hg : boundsF g = 0 := by simpa using h
  clear h
  refine tr_region (lex (T := tab) tOk hnt rfl ?_ (call rfl rfl rfl rfl rfl rfl rfl hnt (may_fn l g.1 g.2.2.1 g.2.2.2.1 (by omega)) (lex (T := tab) tOk hnt rfl ?_ (Lex.nil _)))) ?_
  · (dsimp only [AllP]; (repeat' first | exact trivial | assumption | exact Nat.le_of_ble_eq_true rfl | apply And.intro | intro _ | exact rfl))
  · (dsimp only [AllP]; (repeat' first | exact trivial | assumption | exact Nat.le_of_ble_eq_true rfl | apply And.intro | intro _ | exact rfl))
  refine tr_cond rfl (fun hw => ?_) (fun hw => ?_)
  · have hw : mayF l g.1 g.2.2.1 g.2.2.2.1 = false := by
      have hw : (!mayF l g.1 g.2.2.1 g.2.2.2.1) = true := hw
      simpa using hw
    repeat' (first | refine tr_seq ?_ | refine reg (T := tab) tOk hnt rfl ?_ ?_ | refine tr_ret ?_)
    · (dsimp only [AllP]; (repeat' first | exact trivial | assumption | exact Nat.le_of_ble_eq_true rfl | apply And.intro | intro _ | exact rfl))
    refine ⟨.inr rfl, _, _, rfl, by trivial, ?_⟩
    rw [gvC hz hg hw]
    rfl
  have hw : mayF l g.1 g.2.2.1 g.2.2.2.1 ≠ false := by
    have hw : (!mayF l g.1 g.2.2.1 g.2.2.2.1) = false := hw
    simpa using hw
  repeat' (first | refine tr_seq ?_ | refine reg (T := tab) tOk hnt rfl ?_ ?_ | refine tr_block ?_ | refine tr_skip ?_)
  all_goals (try ((dsimp only [AllP]; (repeat' first | exact trivial | assumption | exact Nat.le_of_ble_eq_true rfl | apply And.intro | intro _ | exact rfl)); done))
  refine tr_loop (σ := Nat × Gr × Bool × List Gr) (fun x => St.of [(0, .one (.e (eGrs l))), (3, .one (.ptr 3 0 0)), (8, .one (.own 65 0)), (9, .v (.bool x.2.2.1)), (31, .one (.e (eGrs l))), (32, .v (.int .i64 l.length)), (33, .v (.int .i64 x.1))] [(3, ⟨0, .box (.es (eGr x.2.1)), 0⟩), (65, ⟨0, .row 5 (x.2.2.2.map eGr), 0⟩)])
    (fun x => x.1 ≤ l.length ∧ giveL (l.drop x.1) x.2.1 x.2.2.1 x.2.2.2 = giveL l g false [] ∧ x.2.2.2.length ≤ 2 * x.1) (fun x => l.length - x.1) (0, g, false, []) (le_of (ad := [65]) ⟨rfl, ⟨rfl, rfl, rfl, rfl, rfl⟩, ⟨rfl, rfl⟩, rfl, rfl, congrArg (fun z : Nat => E.v (.int .i64 (z : Int))) (List.length_map ..), rfl, trivial⟩ (memOk_box rfl rfl rfl (memOk_new rfl (by decide) trivial))) ⟨Nat.zero_le _, rfl, Nat.le_refl _⟩ ?_
  rintro ⟨k, g', i, acc⟩ ⟨j1, j2, j3⟩
  dsimp only at j1 j2 j3 ⊢
  refine tr_seq (reg (T := tab) tOk hnt rfl (by exact rfl) ?_)
  refine tr_seq (tr_cond rfl (fun hk => ?_) (fun hk => ?_))
  · refine tr_skip ?_
    have hk := of_decide_eq_true hk
    have hk : k < l.length := by omega
    refine tr_seq (tr_block ?_)
    have hlen : ((List.map eGr l).getD k []).length = 5 := by rw [grGet l hk]; rfl
    refine tr_seq (reg (T := tab) tOk hnt rfl ?_ ?_)
    · rw [Int.toNat_natCast]
      refine ⟨⟨?_, Nat.le_of_ble_eq_true rfl, Nat.zero_le _⟩, trivial, ?_, Int.natCast_nonneg _, ?_, hlen⟩
      · show (List.take 5 (List.drop 0 ((List.map eGr l).getD k []))).length = 5
        rw [List.length_take, List.length_drop, hlen]
        rfl
      · show 0 + 5 ≤ ((List.map eGr l).getD k []).length
        omega
      · rw [List.length_map]
        omega
    rw [box_store]
    rotate_left
    · exact hlen
    · rfl
    rw [Int.toNat_natCast, grGet l hk]
    rw [grDrop hk, giveL] at j2
    generalize l.getD k gz = h at j2 ⊢
    repeat' (first | refine tr_seq ?_ | refine tr_block ?_)
    refine tr_draw (T := tab) tOk hnt mixedR (lexD (T := tab) rfl ?_ (callD rfl rfl rfl rfl rfl rfl rfl rfl (placed_fn h) (lexD (T := tab) rfl ?_ (callD rfl rfl rfl rfl rfl rfl rfl rfl (placed_fn g') (lexD (T := tab) rfl ?_ (.nil _)))))) (by decide +kernel) ?_
    · (dsimp only [AllP]; (repeat' first | exact trivial | assumption | exact Nat.le_of_ble_eq_true rfl | apply And.intro | intro _ | exact rfl))
    · (dsimp only [AllP]; (repeat' first | exact trivial | assumption | exact Nat.le_of_ble_eq_true rfl | apply And.intro | intro _ | exact rfl))
    · exact plOk (pl h) (pl g')
    refine tr_cond rfl (fun hc => ?_) (fun hc => ?_)
    · have hc : pl h = pl g' := of_decide_eq_true ((plEq (pl h) (pl g')).symm.trans hc)
      rw [if_pos hc] at j2
      repeat' (first | refine tr_seq ?_ | refine reg (T := tab) tOk hnt rfl ?_ ?_ | refine tr_exit ?_)
      · (dsimp only [AllP]; (repeat' first | exact trivial | assumption | exact Nat.le_of_ble_eq_true rfl | apply And.intro | intro _ | exact rfl))
      · (dsimp only [AllP]; (repeat' first | exact trivial | assumption | exact Nat.le_of_ble_eq_true rfl | apply And.intro | intro _ | exact rfl))
      have e : List.take 4 (eGr g') ++ [E.v (.bool (bif g'.2.2.2.2.1 then true else h.2.2.2.2.1))] ++ List.drop 5 (eGr g') = eGr (withOp g' (g'.2.2.2.2.1 || h.2.2.2.2.1)) := by rw [opBit]; exact setOp g' _
      refine ⟨(k + 1, withOp g' (g'.2.2.2.2.1 || h.2.2.2.2.1), i, acc), ⟨hk, j2, by dsimp only; omega⟩, by dsimp only; omega, le_of (ad := []) ⟨rfl, ⟨rfl, rfl, rfl, rfl, rfl⟩, ⟨rfl, rfl, rfl, rfl⟩, rfl, rfl, rfl, congrArg (fun z : Int => E.v (.int .i64 z)) (wrap64_id (by omega) (by omega)), trivial⟩ (memOk_box rfl rfl e (memOk_row rfl rfl rfl trivial))⟩
    have hc : ¬ pl h = pl g' := of_decide_eq_false ((plEq (pl h) (pl g')).symm.trans hc)
    rw [if_neg hc] at j2
    repeat' (first | refine tr_seq ?_ | refine tr_skip ?_)
    refine tr_draw (T := tab) tOk hnt mixedR (lexD (T := tab) rfl ?_ (callGD rfl rfl rfl rfl rfl rfl rfl rfl (fun hq => ?_) (fun hq => placed_fn g') (lexD (T := tab) rfl ?_ (callGD rfl rfl rfl rfl rfl rfl rfl rfl (fun hq => ?_) (fun hq => placed_fn h) (lexD (T := tab) rfl ?_ (callGD rfl rfl rfl rfl rfl rfl rfl rfl (fun hq => ?_) (fun hq => before_fn (pl g') (pl h)) (lexD (T := tab) rfl ?_ (.nil _)))))))) (by decide +kernel) ?_
    · (dsimp only [AllP]; (repeat' first | exact trivial | assumption | exact Nat.le_of_ble_eq_true rfl | apply And.intro | intro _ | exact rfl))
    · exact hq
    · (dsimp only [AllP]; (repeat' first | exact trivial | assumption | exact Nat.le_of_ble_eq_true rfl | apply And.intro | intro _ | exact rfl))
    · exact hq
    · (dsimp only [AllP]; (repeat' first | exact trivial | assumption | exact Nat.le_of_ble_eq_true rfl | apply And.intro | intro _ | exact rfl))
    · exact ⟨hq, hq⟩
    · (dsimp only [AllP]; (repeat' first | exact trivial | assumption | exact Nat.le_of_ble_eq_true rfl | apply And.intro | intro _ | exact rfl))
    have hcond : ∀ b, (bif !i then befF (pl g') (pl h) else false) = b → (b = true ↔ (i = false ∧ befF (pl g') (pl h) = true)) := fun b hb => by
      subst hb
      cases i <;> simp
    have eh : (h.1, h.2.1, h.2.2.1, h.2.2.2.1, h.2.2.2.2.1, ()) = h := rfl
    refine tr_cond rfl (fun hc => ?_) (fun hc => ?_)
    · rw [if_pos ((hcond _ hc).1 rfl)] at j2
      repeat' (first | refine tr_seq ?_ | refine reg (T := tab) tOk hnt rfl ?_ ?_ | refine tr_skip ?_)
      · exact ⟨trivial, trivial, ⟨trivial, roomGr (by simp only [List.length_append, List.length_map, List.length_singleton]; omega)⟩, ⟨⟨rfl, trivial⟩, by decide, by decide⟩, Nat.le_of_ble_eq_true rfl, trivial⟩
      · exact ⟨trivial, ⟨trivial, roomGr (by simp only [List.length_append, List.length_map, List.length_singleton]; omega)⟩, ⟨⟨rfl, trivial⟩, by decide, by decide⟩, Nat.le_of_ble_eq_true rfl, trivial⟩
      · (dsimp only [AllP]; (repeat' first | exact trivial | assumption | exact Nat.le_of_ble_eq_true rfl | apply And.intro | intro _ | exact rfl))
      refine ⟨(k + 1, g', true, acc ++ [g'] ++ [h]), ⟨hk, j2, by simp; omega⟩, by dsimp only; omega, le_of (ad := []) ⟨rfl, ⟨rfl, rfl, rfl, rfl, rfl⟩, ⟨rfl, rfl, rfl, rfl⟩, rfl, rfl, rfl, congrArg (fun z : Int => E.v (.int .i64 z)) (wrap64_id (by omega) (by omega)), trivial⟩ (memOk_box rfl rfl rfl (memOk_row rfl rfl (by rw [← accG, ← accG]) trivial))⟩
    · rw [if_neg (fun hx => by have := (hcond _ hc).2 hx; cases this)] at j2
      repeat' (first | refine tr_seq ?_ | refine reg (T := tab) tOk hnt rfl ?_ ?_ | refine tr_skip ?_)
      · exact ⟨trivial, ⟨trivial, roomGr (by simp only [List.length_append, List.length_map, List.length_singleton]; omega)⟩, ⟨⟨rfl, trivial⟩, by decide, by decide⟩, Nat.le_of_ble_eq_true rfl, trivial⟩
      · (dsimp only [AllP]; (repeat' first | exact trivial | assumption | exact Nat.le_of_ble_eq_true rfl | apply And.intro | intro _ | exact rfl))
      refine ⟨(k + 1, g', i, acc ++ [h]), ⟨hk, j2, by simp; omega⟩, by dsimp only; omega, le_of (ad := []) ⟨rfl, ⟨rfl, rfl, rfl, rfl, rfl⟩, ⟨rfl, rfl, rfl, rfl⟩, rfl, rfl, rfl, congrArg (fun z : Int => E.v (.int .i64 z)) (wrap64_id (by omega) (by omega)), trivial⟩ (memOk_box rfl rfl rfl (memOk_row rfl rfl (accG acc h) trivial))⟩
  have hk := of_decide_eq_false hk
  have hk : k = l.length := by omega
  subst hk
  rw [List.drop_length, giveL, give_given hg hbl hpw] at j2
  rw [List.nil_append] at j2
  refine tr_exit ?_
  repeat' (first | refine tr_seq ?_ | refine reg (T := tab) tOk hnt rfl ?_ ?_ | refine tr_block ?_ | refine tr_skip ?_)
  · (dsimp only [AllP]; (repeat' first | exact trivial | assumption | exact Nat.le_of_ble_eq_true rfl | apply And.intro | intro _ | exact rfl))
  refine tr_cond rfl (fun hc => ?_) (fun hc => ?_)
  · have hc : i = false := by
      have hc : (!i) = true := hc
      simpa using hc
    subst hc
    repeat' (first | refine tr_seq ?_ | refine reg (T := tab) tOk hnt rfl ?_ ?_ | refine tr_skip ?_ | refine tr_ret ?_)
    · exact ⟨trivial, ⟨trivial, roomGr (by simp only [List.length_append, List.length_map, List.length_singleton]; omega)⟩, ⟨⟨rfl, trivial⟩, by decide, by decide⟩, Nat.le_of_ble_eq_true rfl, trivial⟩
    · (dsimp only [AllP]; (repeat' first | exact trivial | assumption | exact Nat.le_of_ble_eq_true rfl | apply And.intro | intro _ | exact rfl))
    refine ⟨.inr rfl, _, _, rfl, by trivial, ?_⟩
    rw [gvD hz hg hw, ← j2, if_neg (by decide)]
    exact congrArg (fun z => D.tup [(false, .es [E.sl z]), (false, .es [eI 0])]) (accG acc g')
  · have hc : i = true := by
      have hc : (!i) = false := hc
      simpa using hc
    subst hc
    repeat' (first | refine tr_seq ?_ | refine reg (T := tab) tOk hnt rfl ?_ ?_ | refine tr_skip ?_ | refine tr_ret ?_)
    · (dsimp only [AllP]; (repeat' first | exact trivial | assumption | exact Nat.le_of_ble_eq_true rfl | apply And.intro | intro _ | exact rfl))
    refine ⟨.inr rfl, _, _, rfl, by trivial, ?_⟩
    rw [gvD hz hg hw, ← j2]
    rfl

set_option maxRecDepth 10000 in
theorem given_fn (l : List Gr) (g : Gr) : FnD Try.prog 12 [.one (.e (eGrs l)), .agg (.es (eGr g))] (rGrs (giveF l g)) := by
  refine fn_intro (T := tab) tOk Try.func12 rfl (by kernel_rfl) (by simp [Try.ntmps12]) ?_
  intro X hX
  have hnt : X.nt = 79 := hX
  clear hX
  refine tr_seq (reg (T := tab) tOk hnt rfl ?_ ?_)
  · (dsimp only [AllP]; (repeat' first | exact trivial | assumption | exact Nat.le_of_ble_eq_true rfl | apply And.intro | intro _ | exact rfl))
  repeat' (first | refine tr_seq ?_ | refine tr_block ?_)
  refine tr_region (lex (T := tab) tOk hnt rfl ?_ (call rfl rfl rfl rfl rfl rfl rfl hnt (gfault_fn l) (lex (T := tab) tOk hnt rfl ?_ (Lex.nil _)))) ?_
  · (dsimp only [AllP]; (repeat' first | exact trivial | assumption | exact Nat.le_of_ble_eq_true rfl | apply And.intro | intro _ | exact rfl))
  · (dsimp only [AllP]; (repeat' first | exact trivial | assumption | exact Nat.le_of_ble_eq_true rfl | apply And.intro | intro _ | exact rfl))
  repeat' (first | refine tr_seq ?_ | refine reg (T := tab) tOk hnt rfl ?_ ?_ | refine tr_cond rfl (fun _ => ?_) (fun _ => ?_) | refine tr_block ?_ | refine tr_skip ?_ | refine tr_ret ?_ | refine tr_exit ?_)
  all_goals (try ((dsimp only [AllP]; (repeat' first | exact trivial | assumption | exact Nat.le_of_ble_eq_true rfl | apply And.intro | intro _ | exact rfl)); done))
  · rename_i h
    have h : ¬ gfaultF l = 0 := by simpa using h
    refine ⟨.inr rfl, _, _, rfl, by trivial, ?_⟩
    rw [gvA h]
    rfl
  rename_i h
  have hz : gfaultF l = 0 := by simpa using h
  clear h
  obtain ⟨hb, hbl, hpw, hst⟩ := gfault_zero hz
  have hok : ∀ g ∈ l, g.ok := fun g hg => ok_of (hbl g hg)
  refine tr_region (lex (T := tab) tOk hnt rfl ?_ (call rfl rfl rfl rfl rfl rfl rfl hnt (grantBounds_fn g) (lex (T := tab) tOk hnt rfl ?_ (Lex.nil _)))) ?_
  · (dsimp only [AllP]; (repeat' first | exact trivial | assumption | exact Nat.le_of_ble_eq_true rfl | apply And.intro | intro _ | exact rfl))
  · (dsimp only [AllP]; (repeat' first | exact trivial | assumption | exact Nat.le_of_ble_eq_true rfl | apply And.intro | intro _ | exact rfl))
  repeat' (first | refine tr_seq ?_ | refine reg (T := tab) tOk hnt rfl ?_ ?_ | refine tr_cond rfl (fun _ => ?_) (fun _ => ?_) | refine tr_block ?_ | refine tr_skip ?_ | refine tr_ret ?_ | refine tr_exit ?_)
  all_goals (try ((dsimp only [AllP]; (repeat' first | exact trivial | assumption | exact Nat.le_of_ble_eq_true rfl | apply And.intro | intro _ | exact rfl)); done))
  · rename_i h
    have h : ¬ boundsF g = 0 := by simpa using h
    refine ⟨.inr rfl, _, _, rfl, by trivial, ?_⟩
    rw [gvB hz h]
    rfl
  rename_i h
  have hg : boundsF g = 0 := by simpa using h
  clear h
  refine tr_region (lex (T := tab) tOk hnt rfl ?_ (call rfl rfl rfl rfl rfl rfl rfl hnt (may_reach hok hst (bndB hg).1 (bndB hg).2.2.1 ▸ reached_fn l g.1 g.2.2.1 g.2.2.2.1 hok (bndB hg).1 (bndB hg).2.2.1 (by omega)) (lex (T := tab) tOk hnt rfl ?_ (Lex.nil _)))) ?_
  · (dsimp only [AllP]; (repeat' first | exact trivial | assumption | exact Nat.le_of_ble_eq_true rfl | apply And.intro | intro _ | exact rfl))
  · (dsimp only [AllP]; (repeat' first | exact trivial | assumption | exact Nat.le_of_ble_eq_true rfl | apply And.intro | intro _ | exact rfl))
  refine tr_cond rfl (fun hw => ?_) (fun hw => ?_)
  · have hw : mayF l g.1 g.2.2.1 g.2.2.2.1 = false := by
      have hw : (!mayF l g.1 g.2.2.1 g.2.2.2.1) = true := hw
      simpa using hw
    repeat' (first | refine tr_seq ?_ | refine reg (T := tab) tOk hnt rfl ?_ ?_ | refine tr_ret ?_)
    · (dsimp only [AllP]; (repeat' first | exact trivial | assumption | exact Nat.le_of_ble_eq_true rfl | apply And.intro | intro _ | exact rfl))
    refine ⟨.inr rfl, _, _, rfl, by trivial, ?_⟩
    rw [gvC hz hg hw]
    rfl
  have hw : mayF l g.1 g.2.2.1 g.2.2.2.1 ≠ false := by
    have hw : (!mayF l g.1 g.2.2.1 g.2.2.2.1) = false := hw
    simpa using hw
  repeat' (first | refine tr_seq ?_ | refine reg (T := tab) tOk hnt rfl ?_ ?_ | refine tr_block ?_ | refine tr_skip ?_)
  all_goals (try ((dsimp only [AllP]; (repeat' first | exact trivial | assumption | exact Nat.le_of_ble_eq_true rfl | apply And.intro | intro _ | exact rfl)); done))
  refine tr_loop (σ := Nat × Bool × List Gr) (fun x => St.of [(0, .one (.e (eGrs l))), (3, .one (.ptr 3 0 0)), (8, .one (.own 46 0)), (32, .one (.e (eGrs l))), (33, .v (.int .i64 l.length)), (34, .v (.int .i64 x.1))] [(3, ⟨0, .box (.es (eGr (withOp g x.2.1))), 0⟩), (46, ⟨0, .row 5 (x.2.2.map eGr), 0⟩)])
    (fun x => x.1 ≤ l.length ∧ x.2.2 ++ (l.drop x.1).filter (fun h => decide (rankF h < rankF g)) = l.filter (fun h => decide (rankF h < rankF g)) ∧ (x.2.1 || (l.drop x.1).any fun h => decide (rankF h = rankF g) && h.2.2.2.2.1) = sameOp g l ∧ x.2.2.length ≤ x.1) (fun x => l.length - x.1) (0, g.2.2.2.2.1, []) (le_of (ad := [46]) ⟨rfl, ⟨rfl, rfl, rfl, rfl, rfl⟩, ⟨rfl, rfl⟩, rfl, congrArg (fun z : Nat => E.v (.int .i64 (z : Int))) (List.length_map ..), rfl, trivial⟩ (memOk_box rfl rfl rfl (memOk_new rfl (by decide) trivial))) ⟨Nat.zero_le _, rfl, rfl, Nat.le_refl _⟩ ?_
  rintro ⟨k, b, acc⟩ ⟨j1, j2, j4, j3⟩
  dsimp only at j1 j2 j3 j4 ⊢
  refine tr_seq (reg (T := tab) tOk hnt rfl (by exact rfl) ?_)
  refine tr_seq (tr_cond rfl (fun hk => ?_) (fun hk => ?_))
  · refine tr_skip ?_
    have hk := of_decide_eq_true hk
    have hk : k < l.length := by omega
    refine tr_seq (tr_block ?_)
    have hlen : ((List.map eGr l).getD k []).length = 5 := by rw [grGet l hk]; rfl
    refine tr_seq (reg (T := tab) tOk hnt rfl ?_ ?_)
    · rw [Int.toNat_natCast]
      refine ⟨⟨?_, Nat.le_of_ble_eq_true rfl, Nat.zero_le _⟩, trivial, ?_, Int.natCast_nonneg _, ?_, hlen⟩
      · show (List.take 5 (List.drop 0 ((List.map eGr l).getD k []))).length = 5
        rw [List.length_take, List.length_drop, hlen]
        rfl
      · show 0 + 5 ≤ ((List.map eGr l).getD k []).length
        omega
      · rw [List.length_map]
        omega
    rw [box_store]
    rotate_left
    · exact hlen
    · rfl
    rw [Int.toNat_natCast, grGet l hk]
    rw [grDrop hk] at j2 j4
    generalize l.getD k gz = h at j2 j4 ⊢
    repeat' (first | refine tr_seq ?_ | refine tr_block ?_)
    refine tr_draw (T := tab) tOk hnt mixedR (lexD (T := tab) rfl ?_ (callD rfl rfl rfl rfl rfl rfl rfl rfl (rank_fn h) (lexD (T := tab) rfl ?_ (callD rfl rfl rfl rfl rfl rfl rfl rfl (rank_fn (withOp g b)) (lexD (T := tab) rfl ?_ (.nil _)))))) (by decide +kernel) ?_
    · (dsimp only [AllP]; (repeat' first | exact trivial | assumption | exact Nat.le_of_ble_eq_true rfl | apply And.intro | intro _ | exact rfl))
    · (dsimp only [AllP]; (repeat' first | exact trivial | assumption | exact Nat.le_of_ble_eq_true rfl | apply And.intro | intro _ | exact rfl))
    · (dsimp only [AllP]; (repeat' first | exact trivial | assumption | exact Nat.le_of_ble_eq_true rfl | apply And.intro | intro _ | exact rfl))
    have hany : ∀ c, (bif decide (rankF h = rankF (withOp g b)) then h.2.2.2.2.1 else false) = c → ((b || c) || (l.drop (k + 1)).any fun h => decide (rankF h = rankF g) && h.2.2.2.2.1) = sameOp g l := fun c hc => by
      rw [← j4, List.any_cons, ← hc, withOp_rank, Bool.or_assoc]
      cases decide (rankF h = rankF g) <;> rfl
    refine tr_cond rfl (fun hc => ?_) (fun hc => ?_)
    all_goals repeat' (first | refine tr_seq ?_ | refine tr_skip ?_)
    · have hc : decide (rankF h < rankF g) = true := hc
      rw [List.filter_cons_of_pos (p := fun h => decide (rankF h < rankF g)) hc] at j2
      refine reg (T := tab) tOk hnt rfl ?_ ?_
      · exact ⟨trivial, ⟨trivial, roomGr (by simp only [List.length_map]; omega)⟩, ⟨⟨rfl, trivial⟩, by decide, by decide⟩, Nat.le_of_ble_eq_true rfl, trivial⟩
      repeat' (first | refine tr_seq ?_ | refine tr_skip ?_)
      refine tr_draw (T := tab) tOk hnt mixedR (lexD (T := tab) rfl ?_ (callD rfl rfl rfl rfl rfl rfl rfl rfl (rank_fn h) (lexD (T := tab) rfl ?_ (callD rfl rfl rfl rfl rfl rfl rfl rfl (rank_fn (withOp g b)) (lexD (T := tab) rfl ?_ (.nil _)))))) (by decide +kernel) ?_
      · (dsimp only [AllP]; (repeat' first | exact trivial | assumption | exact Nat.le_of_ble_eq_true rfl | apply And.intro | intro _ | exact rfl))
      · (dsimp only [AllP]; (repeat' first | exact trivial | assumption | exact Nat.le_of_ble_eq_true rfl | apply And.intro | intro _ | exact rfl))
      · (dsimp only [AllP]; (repeat' first | exact trivial | assumption | exact Nat.le_of_ble_eq_true rfl | apply And.intro | intro _ | exact rfl))
      refine tr_cond rfl (fun hd => ?_) (fun hd => ?_)
      · have hop := hany _ hd
        rw [Bool.or_true] at hop
        repeat' (first | refine tr_seq ?_ | refine reg (T := tab) tOk hnt rfl ?_ ?_ | refine tr_skip ?_)
        · (dsimp only [AllP]; (repeat' first | exact trivial | assumption | exact Nat.le_of_ble_eq_true rfl | apply And.intro | intro _ | exact rfl))
        · (dsimp only [AllP]; (repeat' first | exact trivial | assumption | exact Nat.le_of_ble_eq_true rfl | apply And.intro | intro _ | exact rfl))
        refine ⟨(k + 1, true, acc ++ [h]), ⟨hk, by rw [← j2]; simp, hop, by simp; omega⟩, by dsimp only; omega, le_of (ad := []) ⟨rfl, ⟨rfl, rfl, rfl, rfl, rfl⟩, ⟨rfl, rfl, rfl, rfl⟩, rfl, rfl, congrArg (fun z : Int => E.v (.int .i64 z)) (wrap64_id (by omega) (by omega)), trivial⟩ (memOk_box rfl rfl (setOp (withOp g b) true) (memOk_row rfl rfl (accG acc h) trivial))⟩
      · have hop := hany _ hd
        rw [Bool.or_false] at hop
        repeat' (first | refine tr_seq ?_ | refine reg (T := tab) tOk hnt rfl ?_ ?_ | refine tr_skip ?_)
        · (dsimp only [AllP]; (repeat' first | exact trivial | assumption | exact Nat.le_of_ble_eq_true rfl | apply And.intro | intro _ | exact rfl))
        refine ⟨(k + 1, b, acc ++ [h]), ⟨hk, by rw [← j2]; simp, hop, by simp; omega⟩, by dsimp only; omega, le_of (ad := []) ⟨rfl, ⟨rfl, rfl, rfl, rfl, rfl⟩, ⟨rfl, rfl, rfl, rfl⟩, rfl, rfl, congrArg (fun z : Int => E.v (.int .i64 z)) (wrap64_id (by omega) (by omega)), trivial⟩ (memOk_box rfl rfl rfl (memOk_row rfl rfl (accG acc h) trivial))⟩
    · have hc : decide (rankF h < rankF g) = false := hc
      rw [List.filter_cons_of_neg (p := fun h => decide (rankF h < rankF g)) (by rw [hc]; decide)] at j2
      refine tr_draw (T := tab) tOk hnt mixedR (lexD (T := tab) rfl ?_ (callD rfl rfl rfl rfl rfl rfl rfl rfl (rank_fn h) (lexD (T := tab) rfl ?_ (callD rfl rfl rfl rfl rfl rfl rfl rfl (rank_fn (withOp g b)) (lexD (T := tab) rfl ?_ (.nil _)))))) (by decide +kernel) ?_
      · (dsimp only [AllP]; (repeat' first | exact trivial | assumption | exact Nat.le_of_ble_eq_true rfl | apply And.intro | intro _ | exact rfl))
      · (dsimp only [AllP]; (repeat' first | exact trivial | assumption | exact Nat.le_of_ble_eq_true rfl | apply And.intro | intro _ | exact rfl))
      · (dsimp only [AllP]; (repeat' first | exact trivial | assumption | exact Nat.le_of_ble_eq_true rfl | apply And.intro | intro _ | exact rfl))
      refine tr_cond rfl (fun hd => ?_) (fun hd => ?_)
      · have hop := hany _ hd
        rw [Bool.or_true] at hop
        repeat' (first | refine tr_seq ?_ | refine reg (T := tab) tOk hnt rfl ?_ ?_ | refine tr_skip ?_)
        · (dsimp only [AllP]; (repeat' first | exact trivial | assumption | exact Nat.le_of_ble_eq_true rfl | apply And.intro | intro _ | exact rfl))
        · (dsimp only [AllP]; (repeat' first | exact trivial | assumption | exact Nat.le_of_ble_eq_true rfl | apply And.intro | intro _ | exact rfl))
        refine ⟨(k + 1, true, acc), ⟨hk, j2, hop, by dsimp only; omega⟩, by dsimp only; omega, le_of (ad := []) ⟨rfl, ⟨rfl, rfl, rfl, rfl, rfl⟩, ⟨rfl, rfl, rfl, rfl⟩, rfl, rfl, congrArg (fun z : Int => E.v (.int .i64 z)) (wrap64_id (by omega) (by omega)), trivial⟩ (memOk_box rfl rfl (setOp (withOp g b) true) (memOk_row rfl rfl rfl trivial))⟩
      · have hop := hany _ hd
        rw [Bool.or_false] at hop
        repeat' (first | refine tr_seq ?_ | refine reg (T := tab) tOk hnt rfl ?_ ?_ | refine tr_skip ?_)
        · (dsimp only [AllP]; (repeat' first | exact trivial | assumption | exact Nat.le_of_ble_eq_true rfl | apply And.intro | intro _ | exact rfl))
        refine ⟨(k + 1, b, acc), ⟨hk, j2, hop, by dsimp only; omega⟩, by dsimp only; omega, le_of (ad := []) ⟨rfl, ⟨rfl, rfl, rfl, rfl, rfl⟩, ⟨rfl, rfl, rfl, rfl⟩, rfl, rfl, congrArg (fun z : Int => E.v (.int .i64 z)) (wrap64_id (by omega) (by omega)), trivial⟩ (memOk_box rfl rfl rfl (memOk_row rfl rfl rfl trivial))⟩
  have hk := of_decide_eq_false hk
  have hk : k = l.length := by omega
  subst hk
  rw [List.drop_length] at j2 j4
  have j2 : acc = l.filter (fun h => decide (rankF h < rankF g)) := by simpa using j2
  have j4 : b = sameOp g l := by simpa using j4
  subst j4
  refine tr_exit ?_
  repeat' (first | refine tr_seq ?_ | refine reg (T := tab) tOk hnt rfl ?_ ?_ | refine tr_block ?_ | refine tr_skip ?_)
  · exact ⟨trivial, ⟨trivial, roomGr (by simp only [List.length_map]; omega)⟩, ⟨⟨rfl, trivial⟩, by decide, by decide⟩, Nat.le_of_ble_eq_true rfl, trivial⟩
  · (dsimp only [AllP]; (repeat' first | exact trivial | assumption | exact Nat.le_of_ble_eq_true rfl | apply And.intro | intro _ | exact rfl))
  refine tr_loop (σ := Nat × List Gr) (fun x => St.of [(0, .one (.e (eGrs l))), (3, .one (.ptr 3 0 0)), (8, .one (.own 46 0)), (62, .one (.e (eGrs l))), (63, .v (.int .i64 l.length)), (64, .v (.int .i64 x.1))] [(3, ⟨0, .box (.es (eGr (withOp g (sameOp g l)))), 0⟩), (46, ⟨0, .row 5 (x.2.map eGr), 0⟩)])
    (fun x => x.1 ≤ l.length ∧ x.2 ++ (l.drop x.1).filter (fun h => decide (rankF g < rankF h)) = givenF l g ∧ x.2.length ≤ l.length + 1 + x.1) (fun x => l.length - x.1) (0, acc ++ [withOp g (sameOp g l)]) (le_of (ad := []) ⟨rfl, ⟨rfl, rfl, rfl, rfl, rfl⟩, ⟨rfl, rfl, rfl, rfl⟩, rfl, congrArg (fun z : Nat => E.v (.int .i64 (z : Int))) (List.length_map ..), rfl, trivial⟩ (memOk_box rfl rfl rfl (memOk_row rfl rfl (accG acc _) trivial))) ⟨Nat.zero_le _, by rw [j2]; unfold givenF; simp, by simp; omega⟩ ?_
  clear j1 j2 j3
  rintro ⟨k, acc⟩ ⟨j1, j2, j3⟩
  dsimp only at j1 j2 j3 ⊢
  refine tr_seq (reg (T := tab) tOk hnt rfl (by exact rfl) ?_)
  refine tr_seq (tr_cond rfl (fun hk => ?_) (fun hk => ?_))
  · refine tr_skip ?_
    have hk := of_decide_eq_true hk
    have hk : k < l.length := by omega
    refine tr_seq (tr_block ?_)
    have hlen : ((List.map eGr l).getD k []).length = 5 := by rw [grGet l hk]; rfl
    refine tr_seq (reg (T := tab) tOk hnt rfl ?_ ?_)
    · rw [Int.toNat_natCast]
      refine ⟨⟨?_, Nat.le_of_ble_eq_true rfl, Nat.zero_le _⟩, trivial, ?_, Int.natCast_nonneg _, ?_, hlen⟩
      · show (List.take 5 (List.drop 0 ((List.map eGr l).getD k []))).length = 5
        rw [List.length_take, List.length_drop, hlen]
        rfl
      · show 0 + 5 ≤ ((List.map eGr l).getD k []).length
        omega
      · rw [List.length_map]
        omega
    rw [box_store]
    rotate_left
    · exact hlen
    · rfl
    rw [Int.toNat_natCast, grGet l hk]
    rw [grDrop hk] at j2
    generalize l.getD k gz = h at j2 ⊢
    repeat' (first | refine tr_seq ?_ | refine tr_block ?_)
    refine tr_draw (T := tab) tOk hnt mixedR (lexD (T := tab) rfl ?_ (callD rfl rfl rfl rfl rfl rfl rfl rfl (rank_fn h) (lexD (T := tab) rfl ?_ (callD rfl rfl rfl rfl rfl rfl rfl rfl (rank_fn (withOp g (sameOp g l))) (lexD (T := tab) rfl ?_ (.nil _)))))) (by decide +kernel) ?_
    · (dsimp only [AllP]; (repeat' first | exact trivial | assumption | exact Nat.le_of_ble_eq_true rfl | apply And.intro | intro _ | exact rfl))
    · (dsimp only [AllP]; (repeat' first | exact trivial | assumption | exact Nat.le_of_ble_eq_true rfl | apply And.intro | intro _ | exact rfl))
    · (dsimp only [AllP]; (repeat' first | exact trivial | assumption | exact Nat.le_of_ble_eq_true rfl | apply And.intro | intro _ | exact rfl))
    refine tr_cond rfl (fun hc => ?_) (fun hc => ?_)
    · have hc : decide (rankF g < rankF h) = true := hc
      rw [List.filter_cons_of_pos (p := fun h => decide (rankF g < rankF h)) hc] at j2
      repeat' (first | refine tr_seq ?_ | refine reg (T := tab) tOk hnt rfl ?_ ?_ | refine tr_skip ?_)
      · exact ⟨trivial, ⟨trivial, roomGr (by simp only [List.length_map]; omega)⟩, ⟨⟨rfl, trivial⟩, by decide, by decide⟩, Nat.le_of_ble_eq_true rfl, trivial⟩
      · (dsimp only [AllP]; (repeat' first | exact trivial | assumption | exact Nat.le_of_ble_eq_true rfl | apply And.intro | intro _ | exact rfl))
      refine ⟨(k + 1, acc ++ [h]), ⟨hk, by rw [← j2]; simp, by simp; omega⟩, by dsimp only; omega, le_of (ad := []) ⟨rfl, ⟨rfl, rfl, rfl, rfl, rfl⟩, ⟨rfl, rfl, rfl, rfl⟩, rfl, rfl, congrArg (fun z : Int => E.v (.int .i64 z)) (wrap64_id (by omega) (by omega)), trivial⟩ (memOk_box rfl rfl rfl (memOk_row rfl rfl (accG acc h) trivial))⟩
    · have hc : decide (rankF g < rankF h) = false := hc
      rw [List.filter_cons_of_neg (p := fun h => decide (rankF g < rankF h)) (by rw [hc]; decide)] at j2
      repeat' (first | refine tr_seq ?_ | refine reg (T := tab) tOk hnt rfl ?_ ?_ | refine tr_skip ?_)
      · (dsimp only [AllP]; (repeat' first | exact trivial | assumption | exact Nat.le_of_ble_eq_true rfl | apply And.intro | intro _ | exact rfl))
      refine ⟨(k + 1, acc), ⟨hk, j2, by dsimp only; omega⟩, by dsimp only; omega, le_of (ad := []) ⟨rfl, ⟨rfl, rfl, rfl, rfl, rfl⟩, ⟨rfl, rfl, rfl, rfl⟩, rfl, rfl, congrArg (fun z : Int => E.v (.int .i64 z)) (wrap64_id (by omega) (by omega)), trivial⟩ (memOk_box rfl rfl rfl (memOk_row rfl rfl rfl trivial))⟩
  have hk := of_decide_eq_false hk
  have hk : k = l.length := by omega
  subst hk
  rw [List.drop_length] at j2
  have j2 : acc = givenF l g := by simpa using j2
  refine tr_exit ?_
  repeat' (first | refine tr_seq ?_ | refine reg (T := tab) tOk hnt rfl ?_ ?_ | refine tr_block ?_ | refine tr_skip ?_ | refine tr_ret ?_)
  · (dsimp only [AllP]; (repeat' first | exact trivial | assumption | exact Nat.le_of_ble_eq_true rfl | apply And.intro | intro _ | exact rfl))
  refine ⟨.inr rfl, _, _, rfl, by trivial, ?_⟩
  rw [gvD hz hg hw, ← j2]
  rfl
end Go.Proofs.Ytmicapdbgjafnab
