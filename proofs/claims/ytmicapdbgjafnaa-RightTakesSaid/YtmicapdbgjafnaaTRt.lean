/- Package right: a grant taken away; law RightTakes answers true. No condition. -/
import Derived.Test.YtmicapdbgjafnaaTGrL
namespace Go.Proofs.Ytmicapdbgjafnaa
open Go Go.RowKit Go.Proofs.Ytmicapdbgjafnaa.Ab

theorem plOk (p q : Int × Int × Int × Int) : (eqD tab 9 71 (.agg (.es (ePl p))) (.agg (.es (ePl q)))).1 :=
  ⟨⟨Nat.le_of_ble_eq_true rfl, rfl⟩, ⟨Nat.le_of_ble_eq_true rfl, rfl⟩, rfl, ⟨Nat.le_of_ble_eq_true rfl, rfl⟩, ⟨Nat.le_of_ble_eq_true rfl, rfl⟩, rfl, ⟨Nat.le_of_ble_eq_true rfl, rfl⟩, ⟨Nat.le_of_ble_eq_true rfl, rfl⟩, rfl, ⟨Nat.le_of_ble_eq_true rfl, rfl⟩, ⟨Nat.le_of_ble_eq_true rfl, rfl⟩, rfl, trivial⟩
theorem plEq (p q : Int × Int × Int × Int) : (eqD tab 9 71 (.agg (.es (ePl p))) (.agg (.es (ePl q)))).2 = decide (p = q) := by
  obtain ⟨a, b, c, d⟩ := p
  obtain ⟨a', b', c', d'⟩ := q
  show ((a == a') && ((b == b') && ((c == c') && ((d == d') && true)))) = _
  rw [Bool.eq_iff_iff]
  simp
theorem grOkE (p : Gr) : (eqD tab 9 50 (.agg (.es (eGr p))) (.agg (.es (eGr p)))).1 :=
  ⟨⟨Nat.le_of_ble_eq_true rfl, rfl⟩, ⟨Nat.le_of_ble_eq_true rfl, rfl⟩, rfl, ⟨Nat.le_of_ble_eq_true rfl, rfl⟩, ⟨Nat.le_of_ble_eq_true rfl, rfl⟩, rfl, ⟨Nat.le_of_ble_eq_true rfl, rfl⟩, ⟨Nat.le_of_ble_eq_true rfl, rfl⟩, rfl, ⟨Nat.le_of_ble_eq_true rfl, rfl⟩, ⟨Nat.le_of_ble_eq_true rfl, rfl⟩, rfl, ⟨Nat.le_of_ble_eq_true rfl, rfl⟩, ⟨Nat.le_of_ble_eq_true rfl, rfl⟩, trivial, trivial⟩
theorem grEqE (p : Gr) : (eqD tab 9 50 (.agg (.es (eGr p))) (.agg (.es (eGr p)))).2 = true := by
  obtain ⟨a, b, c, d, e, ⟨⟩⟩ := p
  show ((a == a) && ((b == b) && ((c == c) && ((d == d) && ((e == e) && true))))) = _
  simp
def keepP (g h : Gr) : Bool := decide (rankF h ≠ rankF g)
def takeF (l : List Gr) (g : Gr) : List Gr × Int :=
  if gfaultF l ≠ 0 then ([], gfaultF l) else if boundsF g ≠ 0 then ([], boundsF g) else if (l.filter (keepP g)).length = l.length then ([], 5) else (stF (l.filter (keepP g)), 0)
theorem tkA {l : List Gr} {g : Gr} (h : gfaultF l ≠ 0) : takeF l g = ([], gfaultF l) := if_pos h
theorem tkB {l : List Gr} {g : Gr} (h : gfaultF l = 0) (h1 : boundsF g ≠ 0) : takeF l g = ([], boundsF g) := (if_neg (fun k => k h)).trans (if_pos h1)
theorem tkC {l : List Gr} {g : Gr} (h : gfaultF l = 0) (h1 : boundsF g = 0) (h2 : (l.filter (keepP g)).length = l.length) : takeF l g = ([], 5) := (if_neg (fun k => k h)).trans ((if_neg (fun k => k h1)).trans (if_pos h2))
theorem tkD {l : List Gr} {g : Gr} (h : gfaultF l = 0) (h1 : boundsF g = 0) (h2 : (l.filter (keepP g)).length ≠ l.length) : takeF l g = (stF (l.filter (keepP g)), 0) := (if_neg (fun k => k h)).trans ((if_neg (fun k => k h1)).trans (if_neg h2))
def rGrs (r : List Gr × Int) : D := .tup [(false, .es [eGrs r.1]), (false, .es [eI r.2])]

set_option maxRecDepth 10000 in
theorem Take_fn (l : List Gr) (g : Gr) : FnD Try.prog 20 [.one (.e (eGrs l)), .agg (.es (eGr g))] (rGrs (takeF l g)) := by
  refine fn_intro (T := tab) tOk Try.func20 rfl (by kernel_rfl) (by simp [Try.ntmps20]) ?_
  intro X hX
  have hnt : X.nt = 44 := hX
  clear hX
  refine tr_seq (reg (T := tab) tOk hnt rfl ?_ ?_)
  · (dsimp only [AllP]; (repeat' first | exact trivial | assumption | exact Nat.le_of_ble_eq_true rfl | apply And.intro | intro _ | exact rfl))
  repeat' (first | refine tr_seq ?_ | refine tr_block ?_)
  refine tr_region (lex (T := tab) tOk hnt rfl ?_ (call rfl rfl rfl rfl rfl rfl rfl hnt (Check_fn l) (lex (T := tab) tOk hnt rfl ?_ (Lex.nil _)))) ?_
  · (dsimp only [AllP]; (repeat' first | exact trivial | assumption | exact Nat.le_of_ble_eq_true rfl | apply And.intro | intro _ | exact rfl))
  · (dsimp only [AllP]; (repeat' first | exact trivial | assumption | exact Nat.le_of_ble_eq_true rfl | apply And.intro | intro _ | exact rfl))
  repeat' (first | refine tr_seq ?_ | refine reg (T := tab) tOk hnt rfl ?_ ?_ | refine tr_cond rfl (fun _ => ?_) (fun _ => ?_) | refine tr_block ?_ | refine tr_skip ?_ | refine tr_ret ?_ | refine tr_exit ?_)
  all_goals (try ((dsimp only [AllP]; (repeat' first | exact trivial | assumption | exact Nat.le_of_ble_eq_true rfl | apply And.intro | intro _ | exact rfl)); done))
  · rename_i h
    have h : ¬ gfaultF l = 0 := by simpa using h
    refine ⟨.inr rfl, _, _, rfl, by trivial, ?_⟩
    rw [tkA h]
    rfl
  rename_i h
  have hz : gfaultF l = 0 := by simpa using h
  clear h
  obtain ⟨hb, hbl, -, -⟩ := gfault_zero hz
  refine tr_region (lex (T := tab) tOk hnt rfl ?_ (call rfl rfl rfl rfl rfl rfl rfl hnt (bounds_fn g) (lex (T := tab) tOk hnt rfl ?_ (Lex.nil _)))) ?_
  · (dsimp only [AllP]; (repeat' first | exact trivial | assumption | exact Nat.le_of_ble_eq_true rfl | apply And.intro | intro _ | exact rfl))
  · (dsimp only [AllP]; (repeat' first | exact trivial | assumption | exact Nat.le_of_ble_eq_true rfl | apply And.intro | intro _ | exact rfl))
  repeat' (first | refine tr_seq ?_ | refine reg (T := tab) tOk hnt rfl ?_ ?_ | refine tr_cond rfl (fun _ => ?_) (fun _ => ?_) | refine tr_block ?_ | refine tr_skip ?_ | refine tr_ret ?_ | refine tr_exit ?_)
  all_goals (try ((dsimp only [AllP]; (repeat' first | exact trivial | assumption | exact Nat.le_of_ble_eq_true rfl | apply And.intro | intro _ | exact rfl)); done))
  · rename_i h
    have h : ¬ boundsF g = 0 := by simpa using h
    refine ⟨.inr rfl, _, _, rfl, by trivial, ?_⟩
    rw [tkB hz h]
    rfl
  rename_i h
  have hg : boundsF g = 0 := by simpa using h
  clear h
  refine tr_loop (σ := Nat × List Gr) (fun x => St.of [(0, .one (.e (eGrs l))), (3, .one (.ptr 3 0 0)), (8, .one (.own 35 0)), (21, .one (.e (eGrs l))), (22, .v (.int .i64 l.length)), (23, .v (.int .i64 x.1))] [(3, ⟨0, .box (.es (eGr g)), 0⟩), (35, ⟨0, .row 5 (x.2.map eGr), 0⟩)])
    (fun x => x.1 ≤ l.length ∧ x.2 ++ (l.drop x.1).filter (keepP g) = l.filter (keepP g) ∧ x.2.length ≤ x.1) (fun x => l.length - x.1) (0, []) (le_of (ad := [35]) ⟨rfl, ⟨rfl, rfl, rfl, rfl, rfl⟩, ⟨rfl, rfl⟩, rfl, congrArg (fun z : Nat => E.v (.int .i64 (z : Int))) (List.length_map ..), rfl, trivial⟩ (memOk_box rfl rfl rfl (memOk_new rfl (by decide) trivial))) ⟨Nat.zero_le _, rfl, Nat.le_refl _⟩ ?_
  rintro ⟨k, acc⟩ ⟨j1, j2, j3⟩
  dsimp only at j1 j2 j3 ⊢
  refine tr_seq (reg (T := tab) tOk hnt rfl (by exact rfl) ?_)
  refine tr_seq (tr_cond rfl (fun hk => ?_) (fun hk => ?_))
  · refine tr_skip ?_
    have hk := of_decide_eq_true hk
    have hk : k < l.length := by omega
    refine tr_seq (tr_block ?_)
    have hlen : ((List.map eGr l).getD k []).length = 5 := by rw [grGet l hk]; rfl
    refine tr_seq (reg (T := tab) tOk hnt rfl ?_ ?_)
    · rw [Int.toNat_natCast]
      refine ⟨⟨?_, Nat.le_of_ble_eq_true rfl, Nat.zero_le _⟩, trivial, ?_, Int.natCast_nonneg _, ?_, hlen⟩
      · show (List.take 5 (List.drop 0 ((List.map eGr l).getD k []))).length = 5
        rw [List.length_take, List.length_drop, hlen]
        rfl
      · show 0 + 5 ≤ ((List.map eGr l).getD k []).length
        omega
      · rw [List.length_map]
        omega
    rw [box_store]
    rotate_left
    · exact hlen
    · rfl
    rw [Int.toNat_natCast, grGet l hk]
    rw [grDrop hk] at j2
    have hbh : boundsF (l.getD k gz) = 0 := hbl _ (by simp [List.getD, hk])
    generalize l.getD k gz = h at j2 hbh ⊢
    repeat' (first | refine tr_seq ?_ | refine tr_block ?_)
    refine tr_draw (T := tab) tOk hnt mixedR (lexD (T := tab) rfl ?_ (callD rfl rfl rfl rfl rfl rfl rfl rfl (placed_fn h) (lexD (T := tab) rfl ?_ (callD rfl rfl rfl rfl rfl rfl rfl rfl (placed_fn g) (lexD (T := tab) rfl ?_ (.nil _)))))) (by decide +kernel) ?_
    · (dsimp only [AllP]; (repeat' first | exact trivial | assumption | exact Nat.le_of_ble_eq_true rfl | apply And.intro | intro _ | exact rfl))
    · (dsimp only [AllP]; (repeat' first | exact trivial | assumption | exact Nat.le_of_ble_eq_true rfl | apply And.intro | intro _ | exact rfl))
    · exact plOk (pl h) (pl g)
    have hkp : keepP g h = !(eqD tab 9 71 (.agg (.es (ePl (pl h)))) (.agg (.es (ePl (pl g))))).2 := by rw [plEq, keepP, ← decide_not, decide_eq_decide, ne_eq, ← pl_rank hbh hg]
    refine tr_cond rfl (fun hc => ?_) (fun hc => ?_)
    · have hc : keepP g h = true := hkp.trans hc
      rw [List.filter_cons_of_pos hc] at j2
      refine reg (T := tab) tOk hnt rfl ?_ ?_
      · have e1 : (List.map eGr acc).length ≤ 1000000 := by rw [List.length_map]; omega
        refine ⟨trivial, ⟨trivial, ?_, ?_⟩, ⟨⟨rfl, trivial⟩, by decide, by decide⟩, Nat.le_of_ble_eq_true rfl, trivial⟩
        · show (List.map eGr acc).length + 1 ≤ maxLen
          simp only [maxLen]
          omega
        · show ((List.map eGr acc).length + 1) * 40 ≤ 140737488355328
          omega
      refine reg (T := tab) tOk hnt rfl ⟨trivial, rfl⟩ ?_
      refine ⟨(k + 1, acc ++ [h]), ⟨hk, by rw [← j2]; simp, by simp; omega⟩, by dsimp only; omega, le_of (ad := []) ⟨rfl, ⟨rfl, rfl, rfl, rfl, rfl⟩, ⟨rfl, rfl, rfl, rfl⟩, rfl, rfl, congrArg (fun z : Int => E.v (.int .i64 z)) (wrap64_id (by omega) (by omega)), trivial⟩ (memOk_box rfl rfl rfl (memOk_row rfl rfl (accG acc h) trivial))⟩
    · have hc : keepP g h = false := hkp.trans hc
      rw [List.filter_cons_of_neg (by rw [hc]; decide)] at j2
      refine tr_skip ?_
      refine reg (T := tab) tOk hnt rfl ⟨trivial, rfl⟩ ?_
      refine ⟨(k + 1, acc), ⟨hk, j2, by dsimp only; omega⟩, by dsimp only; omega, le_of (ad := []) ⟨rfl, ⟨rfl, rfl, rfl, rfl, rfl⟩, ⟨rfl, rfl, rfl, rfl⟩, rfl, rfl, congrArg (fun z : Int => E.v (.int .i64 z)) (wrap64_id (by omega) (by omega)), trivial⟩ (memOk_box rfl rfl rfl (memOk_row rfl rfl rfl trivial))⟩
  have hk := of_decide_eq_false hk
  have hk : k = l.length := by omega
  subst hk
  rw [List.drop_length] at j2
  have j2 : acc = l.filter (keepP g) := by simpa using j2
  subst j2
  have hok : ∀ x ∈ l.filter (keepP g), x.ok := fun x hx => ok_of (hbl x (List.mem_filter.1 hx).1)
  have hfl : (l.filter (keepP g)).length ≤ l.length := List.length_filter_le ..
  refine tr_exit ?_
  repeat' (first | refine tr_seq ?_ | refine reg (T := tab) tOk hnt rfl ?_ ?_ | refine tr_block ?_ | refine tr_skip ?_)
  · (dsimp only [AllP]; (repeat' first | exact trivial | assumption | exact Nat.le_of_ble_eq_true rfl | apply And.intro | intro _ | exact rfl))
  refine tr_cond rfl (fun hc => ?_) (fun hc => ?_)
  · repeat' (first | refine tr_seq ?_ | refine reg (T := tab) tOk hnt rfl ?_ ?_ | refine tr_ret ?_)
    · (dsimp only [AllP]; (repeat' first | exact trivial | assumption | exact Nat.le_of_ble_eq_true rfl | apply And.intro | intro _ | exact rfl))
    have hc := of_decide_eq_true hc
    rw [List.length_map, List.length_map] at hc
    refine ⟨.inr rfl, _, _, rfl, by trivial, ?_⟩
    rw [tkC hz hg (by omega)]
    rfl
  have hc := of_decide_eq_false hc
  rw [List.length_map, List.length_map] at hc
  repeat' (first | refine tr_seq ?_ | refine tr_skip ?_)
  refine tr_region (lex (T := tab) tOk hnt rfl ?_ (callU rfl rfl rfl rfl rfl rfl rfl hnt (held_fn _ hok (by omega)) (lex (T := tab) tOk hnt rfl ?_ (Lex.nil _)))) ?_
  · (dsimp only [AllP]; (repeat' first | exact trivial | assumption | exact Nat.le_of_ble_eq_true rfl | apply And.intro | intro _ | exact rfl))
  · (dsimp only [AllP]; (repeat' first | exact trivial | assumption | exact Nat.le_of_ble_eq_true rfl | apply And.intro | intro _ | exact rfl))
  refine tr_ret ⟨.inr rfl, _, _, rfl, by trivial, ?_⟩
  rw [tkD hz hg (by omega)]
  rfl

set_option maxRecDepth 10000 in
theorem taken_fn (l : List Gr) (g : Gr) : FnD Try.prog 21 [.one (.e (eGrs l)), .agg (.es (eGr g))] (rGrs (takeF l g)) := by
  refine fn_intro (T := tab) tOk Try.func21 rfl (by kernel_rfl) (by simp [Try.ntmps21]) ?_
  intro X hX
  have hnt : X.nt = 44 := hX
  clear hX
  refine tr_seq (reg (T := tab) tOk hnt rfl ?_ ?_)
  · (dsimp only [AllP]; (repeat' first | exact trivial | assumption | exact Nat.le_of_ble_eq_true rfl | apply And.intro | intro _ | exact rfl))
  repeat' (first | refine tr_seq ?_ | refine tr_block ?_)
  refine tr_region (lex (T := tab) tOk hnt rfl ?_ (call rfl rfl rfl rfl rfl rfl rfl hnt (gfault_fn l) (lex (T := tab) tOk hnt rfl ?_ (Lex.nil _)))) ?_
  · (dsimp only [AllP]; (repeat' first | exact trivial | assumption | exact Nat.le_of_ble_eq_true rfl | apply And.intro | intro _ | exact rfl))
  · (dsimp only [AllP]; (repeat' first | exact trivial | assumption | exact Nat.le_of_ble_eq_true rfl | apply And.intro | intro _ | exact rfl))
  repeat' (first | refine tr_seq ?_ | refine reg (T := tab) tOk hnt rfl ?_ ?_ | refine tr_cond rfl (fun _ => ?_) (fun _ => ?_) | refine tr_block ?_ | refine tr_skip ?_ | refine tr_ret ?_ | refine tr_exit ?_)
  all_goals (try ((dsimp only [AllP]; (repeat' first | exact trivial | assumption | exact Nat.le_of_ble_eq_true rfl | apply And.intro | intro _ | exact rfl)); done))
  · rename_i h
    have h : ¬ gfaultF l = 0 := by simpa using h
    refine ⟨.inr rfl, _, _, rfl, by trivial, ?_⟩
    rw [tkA h]
    rfl
  rename_i h
  have hz : gfaultF l = 0 := by simpa using h
  clear h
  obtain ⟨hb, hbl, -, -⟩ := gfault_zero hz
  refine tr_region (lex (T := tab) tOk hnt rfl ?_ (call rfl rfl rfl rfl rfl rfl rfl hnt (grantBounds_fn g) (lex (T := tab) tOk hnt rfl ?_ (Lex.nil _)))) ?_
  · (dsimp only [AllP]; (repeat' first | exact trivial | assumption | exact Nat.le_of_ble_eq_true rfl | apply And.intro | intro _ | exact rfl))
  · (dsimp only [AllP]; (repeat' first | exact trivial | assumption | exact Nat.le_of_ble_eq_true rfl | apply And.intro | intro _ | exact rfl))
  repeat' (first | refine tr_seq ?_ | refine reg (T := tab) tOk hnt rfl ?_ ?_ | refine tr_cond rfl (fun _ => ?_) (fun _ => ?_) | refine tr_block ?_ | refine tr_skip ?_ | refine tr_ret ?_ | refine tr_exit ?_)
  all_goals (try ((dsimp only [AllP]; (repeat' first | exact trivial | assumption | exact Nat.le_of_ble_eq_true rfl | apply And.intro | intro _ | exact rfl)); done))
  · rename_i h
    have h : ¬ boundsF g = 0 := by simpa using h
    refine ⟨.inr rfl, _, _, rfl, by trivial, ?_⟩
    rw [tkB hz h]
    rfl
  rename_i h
  have hg : boundsF g = 0 := by simpa using h
  clear h
  refine tr_loop (σ := Nat × List Gr) (fun x => St.of [(0, .one (.e (eGrs l))), (3, .one (.ptr 3 0 0)), (8, .one (.own 35 0)), (21, .one (.e (eGrs l))), (22, .v (.int .i64 l.length)), (23, .v (.int .i64 x.1))] [(3, ⟨0, .box (.es (eGr g)), 0⟩), (35, ⟨0, .row 5 (x.2.map eGr), 0⟩)])
    (fun x => x.1 ≤ l.length ∧ x.2 ++ (l.drop x.1).filter (keepP g) = l.filter (keepP g) ∧ x.2.length ≤ x.1) (fun x => l.length - x.1) (0, []) (le_of (ad := [35]) ⟨rfl, ⟨rfl, rfl, rfl, rfl, rfl⟩, ⟨rfl, rfl⟩, rfl, congrArg (fun z : Nat => E.v (.int .i64 (z : Int))) (List.length_map ..), rfl, trivial⟩ (memOk_box rfl rfl rfl (memOk_new rfl (by decide) trivial))) ⟨Nat.zero_le _, rfl, Nat.le_refl _⟩ ?_
  rintro ⟨k, acc⟩ ⟨j1, j2, j3⟩
  dsimp only at j1 j2 j3 ⊢
  refine tr_seq (reg (T := tab) tOk hnt rfl (by exact rfl) ?_)
  refine tr_seq (tr_cond rfl (fun hk => ?_) (fun hk => ?_))
  · refine tr_skip ?_
    have hk := of_decide_eq_true hk
    have hk : k < l.length := by omega
    refine tr_seq (tr_block ?_)
    have hlen : ((List.map eGr l).getD k []).length = 5 := by rw [grGet l hk]; rfl
    refine tr_seq (reg (T := tab) tOk hnt rfl ?_ ?_)
    · rw [Int.toNat_natCast]
      refine ⟨⟨?_, Nat.le_of_ble_eq_true rfl, Nat.zero_le _⟩, trivial, ?_, Int.natCast_nonneg _, ?_, hlen⟩
      · show (List.take 5 (List.drop 0 ((List.map eGr l).getD k []))).length = 5
        rw [List.length_take, List.length_drop, hlen]
        rfl
      · show 0 + 5 ≤ ((List.map eGr l).getD k []).length
        omega
      · rw [List.length_map]
        omega
    rw [box_store]
    rotate_left
    · exact hlen
    · rfl
    rw [Int.toNat_natCast, grGet l hk]
    rw [grDrop hk] at j2
    have hbh : boundsF (l.getD k gz) = 0 := hbl _ (by simp [List.getD, hk])
    generalize l.getD k gz = h at j2 hbh ⊢
    repeat' (first | refine tr_seq ?_ | refine tr_block ?_)
    refine tr_draw (T := tab) tOk hnt mixedR (lexD (T := tab) rfl ?_ (callD rfl rfl rfl rfl rfl rfl rfl rfl (rank_fn h) (lexD (T := tab) rfl ?_ (callD rfl rfl rfl rfl rfl rfl rfl rfl (rank_fn g) (lexD (T := tab) rfl ?_ (.nil _)))))) (by decide +kernel) ?_
    · (dsimp only [AllP]; (repeat' first | exact trivial | assumption | exact Nat.le_of_ble_eq_true rfl | apply And.intro | intro _ | exact rfl))
    · (dsimp only [AllP]; (repeat' first | exact trivial | assumption | exact Nat.le_of_ble_eq_true rfl | apply And.intro | intro _ | exact rfl))
    · (dsimp only [AllP]; (repeat' first | exact trivial | assumption | exact Nat.le_of_ble_eq_true rfl | apply And.intro | intro _ | exact rfl))
    have hkp : keepP g h = !decide (rankF h = rankF g) := by rw [keepP, ← decide_not]
    refine tr_cond rfl (fun hc => ?_) (fun hc => ?_)
    · have hc : keepP g h = true := hkp.trans hc
      rw [List.filter_cons_of_pos hc] at j2
      refine reg (T := tab) tOk hnt rfl ?_ ?_
      · have e1 : (List.map eGr acc).length ≤ 1000000 := by rw [List.length_map]; omega
        refine ⟨trivial, ⟨trivial, ?_, ?_⟩, ⟨⟨rfl, trivial⟩, by decide, by decide⟩, Nat.le_of_ble_eq_true rfl, trivial⟩
        · show (List.map eGr acc).length + 1 ≤ maxLen
          simp only [maxLen]
          omega
        · show ((List.map eGr acc).length + 1) * 40 ≤ 140737488355328
          omega
      refine reg (T := tab) tOk hnt rfl ⟨trivial, rfl⟩ ?_
      refine ⟨(k + 1, acc ++ [h]), ⟨hk, by rw [← j2]; simp, by simp; omega⟩, by dsimp only; omega, le_of (ad := []) ⟨rfl, ⟨rfl, rfl, rfl, rfl, rfl⟩, ⟨rfl, rfl, rfl, rfl⟩, rfl, rfl, congrArg (fun z : Int => E.v (.int .i64 z)) (wrap64_id (by omega) (by omega)), trivial⟩ (memOk_box rfl rfl rfl (memOk_row rfl rfl (accG acc h) trivial))⟩
    · have hc : keepP g h = false := hkp.trans hc
      rw [List.filter_cons_of_neg (by rw [hc]; decide)] at j2
      refine tr_skip ?_
      refine reg (T := tab) tOk hnt rfl ⟨trivial, rfl⟩ ?_
      refine ⟨(k + 1, acc), ⟨hk, j2, by dsimp only; omega⟩, by dsimp only; omega, le_of (ad := []) ⟨rfl, ⟨rfl, rfl, rfl, rfl, rfl⟩, ⟨rfl, rfl, rfl, rfl⟩, rfl, rfl, congrArg (fun z : Int => E.v (.int .i64 z)) (wrap64_id (by omega) (by omega)), trivial⟩ (memOk_box rfl rfl rfl (memOk_row rfl rfl rfl trivial))⟩
  have hk := of_decide_eq_false hk
  have hk : k = l.length := by omega
  subst hk
  rw [List.drop_length] at j2
  have j2 : acc = l.filter (keepP g) := by simpa using j2
  subst j2
  have hok : ∀ x ∈ l.filter (keepP g), x.ok := fun x hx => ok_of (hbl x (List.mem_filter.1 hx).1)
  have hfl : (l.filter (keepP g)).length ≤ l.length := List.length_filter_le ..
  refine tr_exit ?_
  repeat' (first | refine tr_seq ?_ | refine reg (T := tab) tOk hnt rfl ?_ ?_ | refine tr_block ?_ | refine tr_skip ?_)
  · (dsimp only [AllP]; (repeat' first | exact trivial | assumption | exact Nat.le_of_ble_eq_true rfl | apply And.intro | intro _ | exact rfl))
  refine tr_cond rfl (fun hc => ?_) (fun hc => ?_)
  · repeat' (first | refine tr_seq ?_ | refine reg (T := tab) tOk hnt rfl ?_ ?_ | refine tr_ret ?_)
    · (dsimp only [AllP]; (repeat' first | exact trivial | assumption | exact Nat.le_of_ble_eq_true rfl | apply And.intro | intro _ | exact rfl))
    have hc := of_decide_eq_true hc
    rw [List.length_map, List.length_map] at hc
    refine ⟨.inr rfl, _, _, rfl, by trivial, ?_⟩
    rw [tkC hz hg (by omega)]
    rfl
  have hc := of_decide_eq_false hc
  rw [List.length_map, List.length_map] at hc
  repeat' (first | refine tr_seq ?_ | refine tr_skip ?_)
  refine tr_region (lex (T := tab) tOk hnt rfl ?_ (callU rfl rfl rfl rfl rfl rfl rfl hnt (stands_fn _ hok (by omega)) (lex (T := tab) tOk hnt rfl ?_ (Lex.nil _)))) ?_
  · (dsimp only [AllP]; (repeat' first | exact trivial | assumption | exact Nat.le_of_ble_eq_true rfl | apply And.intro | intro _ | exact rfl))
  · (dsimp only [AllP]; (repeat' first | exact trivial | assumption | exact Nat.le_of_ble_eq_true rfl | apply And.intro | intro _ | exact rfl))
  refine tr_ret ⟨.inr rfl, _, _, rfl, by trivial, ?_⟩
  rw [tkD hz hg (by omega)]
  rfl

theorem take_len (l : List Gr) (g : Gr) : (takeF l g).1.length ≤ 96 := by
  by_cases h : gfaultF l = 0
  · have hb := (gfault_zero h).1
    have h2 : (l.filter (keepP g)).length ≤ l.length := List.length_filter_le ..
    have h3 : (stF (l.filter (keepP g))).length ≤ (l.filter (keepP g)).length := List.length_filter_le ..
    by_cases h1 : boundsF g = 0
    · by_cases h4 : (l.filter (keepP g)).length = l.length
      · rw [tkC h h1 h4]; exact Nat.zero_le _
      · rw [tkD h h1 h4]; dsimp only; omega
    · rw [tkB h h1]; exact Nat.zero_le _
  · rw [tkA h]; exact Nat.zero_le _
set_option maxRecDepth 10000 in
theorem sameGr_fn (l : List Gr) (hb : l.length ≤ 1000000) : FnD Try.prog 22 [.one (.e (eGrs l)), .one (.e (eGrs l))] (.v (.bool true)) := by
  refine fn_intro (T := tab) tOk Try.func22 rfl (by kernel_rfl) (by simp [Try.ntmps22]) ?_
  intro X hX
  have hnt : X.nt = 26 := hX
  clear hX
  repeat' (first | refine tr_seq ?_ | refine reg (T := tab) tOk hnt rfl ?_ ?_ | refine tr_cond rfl (fun _ => ?_) (fun _ => ?_) | refine tr_block ?_ | refine tr_skip ?_ | refine tr_ret ?_ | refine tr_exit ?_)
  all_goals (try ((dsimp only [AllP]; (repeat' first | exact trivial | assumption | exact Nat.le_of_ble_eq_true rfl | apply And.intro | intro _ | exact rfl)); done))
  · rename_i h
    simp at h
  refine tr_loop (σ := Nat) (fun k => St.of [(0, .one (.e (eGrs l))), (1, .one (.e (eGrs l))), (12, .v (.int .i64 l.length)), (13, .v (.int .i64 k))] []) (fun k => k ≤ l.length) (fun k => l.length - k) 0 (le_of (ad := []) ⟨rfl, rfl, congrArg (fun z : Nat => E.v (.int .i64 (z : Int))) (List.length_map ..), rfl, trivial⟩ trivial) (Nat.zero_le _) ?_
  intro k j1
  refine tr_seq (reg (T := tab) tOk hnt rfl (by exact rfl) ?_)
  refine tr_seq (tr_cond rfl (fun hk => ?_) (fun hk => ?_))
  · refine tr_skip ?_
    have hk := of_decide_eq_true hk
    have hk : k < l.length := by omega
    have hL : (k : Int) < ((List.map eGr l).length : Int) := by rw [List.length_map]; omega
    have hge : (List.map eGr l).getD (k : Int).toNat [] = eGr (l.getD k gz) := by rw [Int.toNat_natCast]; exact grGet l hk
    have hlen : ((List.map eGr l).getD (k : Int).toNat []).length = 5 := by rw [hge]; rfl
    have hto : (k : Int).toNat = k := rfl
    repeat' (first | refine tr_seq ?_ | refine tr_block ?_)
    refine reg (T := tab) tOk hnt rfl ?_ ?_
    · (dsimp only [AllP]; (repeat' first | exact trivial | assumption | exact Nat.le_of_ble_eq_true rfl | apply And.intro | intro _ | exact rfl))
    repeat' (first | refine tr_seq ?_ | refine tr_block ?_)
    refine regD (T := tab) tOk mixedR hnt rfl (by decide +kernel) ?_ ?_
    · rw [hge]
      exact ⟨grOkE _, Nat.le_refl 5, ⟨Int.natCast_nonneg _, hL, rfl⟩, trivial, trivial, Nat.le_refl 5, ⟨Int.natCast_nonneg _, hL, rfl⟩, trivial, trivial⟩
    rw [hge]
    refine tr_cond rfl (fun hc => ?_) (fun hc => ?_)
    · have hc : (!(eqD tab 9 50 (.agg (.es (eGr (l.getD k gz)))) (.agg (.es (eGr (l.getD k gz))))).2) = true := hc
      rw [grEqE] at hc
      cases hc
    refine tr_skip ?_
    repeat' (first | refine tr_seq ?_ | refine reg (T := tab) tOk hnt rfl ?_ ?_ | refine tr_skip ?_)
    · (dsimp only [AllP]; (repeat' first | exact trivial | assumption | exact Nat.le_of_ble_eq_true rfl | apply And.intro | intro _ | exact rfl))
    refine ⟨k + 1, hk, by omega, le_of (ad := []) ⟨rfl, rfl, rfl, congrArg (fun z : Int => E.v (.int .i64 z)) (wrap64_id (by omega) (by omega)), trivial⟩ trivial⟩
  refine tr_exit ?_
  repeat' (first | refine tr_seq ?_ | refine reg (T := tab) tOk hnt rfl ?_ ?_ | refine tr_block ?_ | refine tr_skip ?_ | refine tr_ret ?_)
  · (dsimp only [AllP]; (repeat' first | exact trivial | assumption | exact Nat.le_of_ble_eq_true rfl | apply And.intro | intro _ | exact rfl))
  exact ⟨.inr rfl, _, _, rfl, by trivial, rfl⟩

set_option maxRecDepth 10000 in
theorem rightTakes_fn (l : List Gr) (g : Gr) : FnD Try.prog 7 [.one (.e (eGrs l)), .agg (.es (eGr g))] (.v (.bool true)) := by
  refine fn_intro (T := tab) tOk Try.func7 rfl (by kernel_rfl) (by simp [Try.ntmps7]) ?_
  intro X hX
  have hnt : X.nt = 29 := hX
  clear hX
  refine tr_seq (reg (T := tab) tOk hnt rfl ?_ ?_)
  · (dsimp only [AllP]; (repeat' first | exact trivial | assumption | exact Nat.le_of_ble_eq_true rfl | apply And.intro | intro _ | exact rfl))
  refine tr_seq (tr_region (lex (T := tab) tOk hnt rfl ?_ (call rfl rfl rfl rfl rfl rfl rfl hnt (Take_fn l g) (lex (T := tab) tOk hnt rfl ?_ (Lex.nil _)))) ?_)
  · (dsimp only [AllP]; (repeat' first | exact trivial | assumption | exact Nat.le_of_ble_eq_true rfl | apply And.intro | intro _ | exact rfl))
  · (dsimp only [AllP]; (repeat' first | exact trivial | assumption | exact Nat.le_of_ble_eq_true rfl | apply And.intro | intro _ | exact rfl))
  refine tr_seq (tr_region (lex (T := tab) tOk hnt rfl ?_ (call rfl rfl rfl rfl rfl rfl rfl hnt (taken_fn l g) (lex (T := tab) tOk hnt rfl ?_ (Lex.nil _)))) ?_)
  · (dsimp only [AllP]; (repeat' first | exact trivial | assumption | exact Nat.le_of_ble_eq_true rfl | apply And.intro | intro _ | exact rfl))
  · (dsimp only [AllP]; (repeat' first | exact trivial | assumption | exact Nat.le_of_ble_eq_true rfl | apply And.intro | intro _ | exact rfl))
  refine tr_seq (tr_region (lex (T := tab) tOk hnt rfl ?_ (callG rfl rfl rfl rfl rfl rfl hnt rfl (fun hq => ?_) (fun _ => sameGr_fn _ (Nat.le_trans (take_len l g) (by decide))) (lex (T := tab) tOk hnt rfl ?_ (Lex.nil _)))) ?_)
  · (dsimp only [AllP]; (repeat' first | exact trivial | assumption | exact Nat.le_of_ble_eq_true rfl | apply And.intro | intro _ | exact rfl))
  · exact ⟨hq, hq⟩
  · (dsimp only [AllP]; (repeat' first | exact trivial | assumption | exact Nat.le_of_ble_eq_true rfl | apply And.intro | intro _ | exact rfl))
  refine tr_ret ⟨.inr rfl, _, _, rfl, by trivial, ?_⟩
  simp
  rfl
end Go.Proofs.Ytmicapdbgjafnaa
