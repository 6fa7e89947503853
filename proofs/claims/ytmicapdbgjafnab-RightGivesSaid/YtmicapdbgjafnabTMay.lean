/- Package right: who may hand a right on; law RightMay answers true. No condition. -/
import Derived.Test.YtmicapdbgjafnabTGrL
import Derived.Test.YtmicapdbgjafnabTAsk
namespace Go.Proofs.Ytmicapdbgjafnab
open Go Go.RowKit Go.Proofs.Ytmicapdbgjafnab.Ab

theorem anyTake' {α : Type} (p : α → Bool) (l : List α) (d : α) {k : Nat} (h : k < l.length) : (l.take (k + 1)).any p = ((l.take k).any p || p (l.getD k d)) := by
  rw [List.take_add_one, List.any_append]
  simp [List.getD, h]
theorem mayQ (u o r gf gt go gr : Int) (gp : Bool) : (bif (bif (bif decide (gt = u) then decide (go = o) else false) then decide (gr = r) else false) then gp else false) = mayP u o r (gf, gt, go, gr, gp, ()) := by
  unfold mayP
  by_cases h1 : gt = u <;> by_cases h2 : go = o <;> by_cases h3 : gr = r <;> cases gp <;> simp [h1, h2, h3]

set_option maxRecDepth 10000 in
theorem may_fn (l : List Gr) (u o r : Int) (hb : l.length ≤ 1000000) : FnD Try.prog 15 [.one (.e (eGrs l)), .v (.int .i64 u), .v (.int .i64 o), .v (.int .i64 r)] (.v (.bool (mayF l u o r))) := by
  refine fn_intro (T := tab) tOk Try.func15 rfl (by kernel_rfl) (by simp [Try.ntmps15]) ?_
  intro X hX
  have hnt : X.nt = 42 := hX
  clear hX
  refine tr_seq (reg (T := tab) tOk hnt rfl ?_ ?_)
  · (dsimp only [AllP]; (repeat' first | exact trivial | assumption | exact Nat.le_of_ble_eq_true rfl | apply And.intro | intro _ | exact rfl))
  repeat' (first | refine tr_seq ?_ | refine tr_block ?_)
  refine tr_region (lex (T := tab) tOk hnt rfl ?_ (call rfl rfl rfl rfl rfl rfl rfl hnt (owner_fn o) (lex (T := tab) tOk hnt rfl ?_ (Lex.nil _)))) ?_
  · (dsimp only [AllP]; (repeat' first | exact trivial | assumption | exact Nat.le_of_ble_eq_true rfl | apply And.intro | intro _ | exact rfl))
  · (dsimp only [AllP]; (repeat' first | exact trivial | assumption | exact Nat.le_of_ble_eq_true rfl | apply And.intro | intro _ | exact rfl))
  refine tr_cond rfl (fun hw => ?_) (fun hw => ?_)
  · repeat' (first | refine tr_seq ?_ | refine reg (T := tab) tOk hnt rfl ?_ ?_ | refine tr_ret ?_)
    · (dsimp only [AllP]; (repeat' first | exact trivial | assumption | exact Nat.le_of_ble_eq_true rfl | apply And.intro | intro _ | exact rfl))
    have hw : decide (ownF o = u) = true := hw
    refine ⟨.inr rfl, _, _, rfl, by trivial, ?_⟩
    rw [mayF, hw]
    rfl
  have hw : decide (ownF o = u) = false := hw
  repeat' (first | refine tr_seq ?_ | refine reg (T := tab) tOk hnt rfl ?_ ?_ | refine tr_block ?_ | refine tr_skip ?_)
  · (dsimp only [AllP]; (repeat' first | exact trivial | assumption | exact Nat.le_of_ble_eq_true rfl | apply And.intro | intro _ | exact rfl))
  refine tr_loop (σ := Nat) (fun x => St.of [(0, .one (.e (eGrs l))), (1, .v (.int .i64 u)), (2, .v (.int .i64 o)), (3, .v (.int .i64 r)), (15, .one (.e (eGrs l))), (16, .v (.int .i64 l.length)), (17, .v (.int .i64 x))] [])
    (fun x => x ≤ l.length ∧ (l.take x).any (mayP u o r) = false) (fun x => l.length - x) 0 (le_of (ad := []) ⟨rfl, rfl, rfl, rfl, rfl, congrArg (fun z : Nat => E.v (.int .i64 (z : Int))) (List.length_map ..), rfl, trivial⟩ trivial) ⟨Nat.zero_le _, rfl⟩ ?_
  rintro k ⟨j1, j3⟩
  refine tr_seq (reg (T := tab) tOk hnt rfl (by exact rfl) ?_)
  refine tr_seq (tr_cond rfl (fun hk => ?_) (fun hk => ?_))
  · refine tr_skip ?_
    have hk := of_decide_eq_true hk
    have hk : k < l.length := by omega
    refine tr_seq (tr_block ?_)
    have hlen : ((List.map eGr l).getD k []).length = 5 := by rw [grGet l hk]; rfl
    refine tr_seq (reg (T := tab) tOk hnt rfl ?_ ?_)
    · rw [Int.toNat_natCast]
      refine ⟨⟨?_, Nat.le_of_ble_eq_true rfl, Nat.zero_le _⟩, trivial, ?_, Int.natCast_nonneg _, ?_, hlen⟩
      · show (List.take 5 (List.drop 0 ((List.map eGr l).getD k []))).length = 5
        rw [List.length_take, List.length_drop, hlen]
        rfl
      · show 0 + 5 ≤ ((List.map eGr l).getD k []).length
        omega
      · rw [List.length_map]
        omega
    rw [box_store]
    rotate_left
    · exact hlen
    · rfl
    rw [Int.toNat_natCast, grGet l hk]
    have hany := anyTake' (mayP u o r) l gz hk
    have hmem : l.getD k gz ∈ l := by simp [List.getD, hk]
    generalize l.getD k gz = g at hany hmem ⊢
    obtain ⟨gf, gt, go, gr, gp, ⟨⟩⟩ := g
    repeat' (first | refine tr_seq ?_ | refine reg (T := tab) tOk hnt rfl ?_ ?_ | refine tr_block ?_)
    · (dsimp only [AllP]; (repeat' first | exact trivial | assumption | exact Nat.le_of_ble_eq_true rfl | apply And.intro | intro _ | exact rfl))
    refine tr_cond rfl (fun hc => ?_) (fun hc => ?_)
    · have hc : mayP u o r (gf, gt, go, gr, gp, ()) = true := (mayQ u o r gf gt go gr gp).symm.trans hc
      repeat' (first | refine tr_seq ?_ | refine reg (T := tab) tOk hnt rfl ?_ ?_ | refine tr_skip ?_ | refine tr_ret ?_)
      all_goals (try ((dsimp only [AllP]; (repeat' first | exact trivial | assumption | exact Nat.le_of_ble_eq_true rfl | apply And.intro | intro _ | exact rfl)); done))
      refine ⟨.inr rfl, _, _, rfl, by trivial, ?_⟩
      rw [mayF, List.any_eq_true.2 ⟨_, hmem, hc⟩, Bool.or_true]
      rfl
    · have hc : mayP u o r (gf, gt, go, gr, gp, ()) = false := (mayQ u o r gf gt go gr gp).symm.trans hc
      repeat' (first | refine tr_seq ?_ | refine reg (T := tab) tOk hnt rfl ?_ ?_ | refine tr_skip ?_)
      all_goals (try ((dsimp only [AllP]; (repeat' first | exact trivial | assumption | exact Nat.le_of_ble_eq_true rfl | apply And.intro | intro _ | exact rfl)); done))
      refine ⟨k + 1, ⟨hk, ?_⟩, by omega, le_of (ad := []) ⟨rfl, rfl, rfl, rfl, rfl, rfl, ?_, trivial⟩ trivial⟩
      · rw [hany, hc, j3]
        rfl
      · exact congrArg (fun z : Int => E.v (.int .i64 z)) (wrap64_id (by omega) (by omega))
  have hk := of_decide_eq_false hk
  have hk : k = l.length := by omega
  subst hk
  rw [List.take_length] at j3
  refine tr_exit ?_
  repeat' (first | refine tr_seq ?_ | refine reg (T := tab) tOk hnt rfl ?_ ?_ | refine tr_block ?_ | refine tr_skip ?_ | refine tr_ret ?_)
  · (dsimp only [AllP]; (repeat' first | exact trivial | assumption | exact Nat.le_of_ble_eq_true rfl | apply And.intro | intro _ | exact rfl))
  refine ⟨.inr rfl, _, _, rfl, by trivial, ?_⟩
  rw [mayF, hw, j3]
  rfl

def rMay (l : List Gr) (u o r : Int) : D := .tup [(false, .es [.v (.bool (if askF l u o r = 0 then mayF l u o r else false))]), (false, .es [eI (askF l u o r)])]
theorem ask_zero {l : List Gr} {u o r : Int} (h : askF l u o r = 0) : gfaultF l = 0 ∧ (0 ≤ u ∧ u < 3) ∧ (0 ≤ o ∧ o < 12) := by
  have hz : gfaultF l = 0 := Classical.byContradiction fun hg => by rw [askA hg] at h; exact hg h
  have hn : ¬ (u < 0 ∨ 3 ≤ u ∨ o < 0 ∨ 12 ≤ o) := fun k => by rw [askB hz k] at h; cases h
  exact ⟨hz, by omega, by omega⟩
set_option maxRecDepth 10000 in
theorem May_fn (l : List Gr) (u o r : Int) : FnD Try.prog 6 [.one (.e (eGrs l)), .v (.int .i64 u), .v (.int .i64 o), .v (.int .i64 r)] (rMay l u o r) := by
  refine fn_intro (T := tab) tOk Try.func6 rfl (by kernel_rfl) (by simp [Try.ntmps6]) ?_
  intro X hX
  have hnt : X.nt = 24 := hX
  clear hX
  refine tr_seq (reg (T := tab) tOk hnt rfl ?_ ?_)
  · (dsimp only [AllP]; (repeat' first | exact trivial | assumption | exact Nat.le_of_ble_eq_true rfl | apply And.intro | intro _ | exact rfl))
  repeat' (first | refine tr_seq ?_ | refine tr_block ?_)
  refine tr_region (lex (T := tab) tOk hnt rfl ?_ (call rfl rfl rfl rfl rfl rfl rfl hnt (asked_fn l u o r) (lex (T := tab) tOk hnt rfl ?_ (Lex.nil _)))) ?_
  · (dsimp only [AllP]; (repeat' first | exact trivial | assumption | exact Nat.le_of_ble_eq_true rfl | apply And.intro | intro _ | exact rfl))
  · (dsimp only [AllP]; (repeat' first | exact trivial | assumption | exact Nat.le_of_ble_eq_true rfl | apply And.intro | intro _ | exact rfl))
  repeat' (first | refine tr_seq ?_ | refine reg (T := tab) tOk hnt rfl ?_ ?_ | refine tr_cond rfl (fun _ => ?_) (fun _ => ?_) | refine tr_block ?_ | refine tr_skip ?_ | refine tr_ret ?_ | refine tr_exit ?_)
  all_goals (try ((dsimp only [AllP]; (repeat' first | exact trivial | assumption | exact Nat.le_of_ble_eq_true rfl | apply And.intro | intro _ | exact rfl)); done))
  · rename_i h
    have h : ¬ askF l u o r = 0 := by simpa using h
    refine ⟨.inr rfl, _, _, rfl, by trivial, ?_⟩
    rw [rMay, if_neg h]
    rfl
  rename_i h
  have h : askF l u o r = 0 := by simpa using h
  obtain ⟨hz, hu, ho⟩ := ask_zero h
  obtain ⟨hb, hbl, -, hst⟩ := gfault_zero hz
  have hok : ∀ g ∈ l, g.ok := fun g hg => ok_of (hbl g hg)
  refine tr_region (lex (T := tab) tOk hnt rfl ?_ (call rfl rfl rfl rfl rfl rfl rfl hnt (may_fn l u o r (by omega)) (lex (T := tab) tOk hnt rfl ?_ (Lex.nil _)))) ?_
  · (dsimp only [AllP]; (repeat' first | exact trivial | assumption | exact Nat.le_of_ble_eq_true rfl | apply And.intro | intro _ | exact rfl))
  · (dsimp only [AllP]; (repeat' first | exact trivial | assumption | exact Nat.le_of_ble_eq_true rfl | apply And.intro | intro _ | exact rfl))
  refine tr_ret ⟨.inr rfl, _, _, rfl, by trivial, ?_⟩
  rw [rMay, if_pos h, h]
  rfl
set_option maxRecDepth 10000 in
theorem mayOf_fn (l : List Gr) (u o r : Int) : FnD Try.prog 7 [.one (.e (eGrs l)), .v (.int .i64 u), .v (.int .i64 o), .v (.int .i64 r)] (rMay l u o r) := by
  refine fn_intro (T := tab) tOk Try.func7 rfl (by kernel_rfl) (by simp [Try.ntmps7]) ?_
  intro X hX
  have hnt : X.nt = 24 := hX
  clear hX
  refine tr_seq (reg (T := tab) tOk hnt rfl ?_ ?_)
  · (dsimp only [AllP]; (repeat' first | exact trivial | assumption | exact Nat.le_of_ble_eq_true rfl | apply And.intro | intro _ | exact rfl))
  repeat' (first | refine tr_seq ?_ | refine tr_block ?_)
  refine tr_region (lex (T := tab) tOk hnt rfl ?_ (call rfl rfl rfl rfl rfl rfl rfl hnt (rfault_fn l u o r) (lex (T := tab) tOk hnt rfl ?_ (Lex.nil _)))) ?_
  · (dsimp only [AllP]; (repeat' first | exact trivial | assumption | exact Nat.le_of_ble_eq_true rfl | apply And.intro | intro _ | exact rfl))
  · (dsimp only [AllP]; (repeat' first | exact trivial | assumption | exact Nat.le_of_ble_eq_true rfl | apply And.intro | intro _ | exact rfl))
  repeat' (first | refine tr_seq ?_ | refine reg (T := tab) tOk hnt rfl ?_ ?_ | refine tr_cond rfl (fun _ => ?_) (fun _ => ?_) | refine tr_block ?_ | refine tr_skip ?_ | refine tr_ret ?_ | refine tr_exit ?_)
  all_goals (try ((dsimp only [AllP]; (repeat' first | exact trivial | assumption | exact Nat.le_of_ble_eq_true rfl | apply And.intro | intro _ | exact rfl)); done))
  · rename_i h
    have h : ¬ askF l u o r = 0 := by simpa using h
    refine ⟨.inr rfl, _, _, rfl, by trivial, ?_⟩
    rw [rMay, if_neg h]
    rfl
  rename_i h
  have h : askF l u o r = 0 := by simpa using h
  obtain ⟨hz, hu, ho⟩ := ask_zero h
  obtain ⟨hb, hbl, -, hst⟩ := gfault_zero hz
  have hok : ∀ g ∈ l, g.ok := fun g hg => ok_of (hbl g hg)
  refine tr_region (lex (T := tab) tOk hnt rfl ?_ (call rfl rfl rfl rfl rfl rfl rfl hnt ((may_reach hok hst hu ho) ▸ reached_fn l u o r hok hu ho (by omega)) (lex (T := tab) tOk hnt rfl ?_ (Lex.nil _)))) ?_
  · (dsimp only [AllP]; (repeat' first | exact trivial | assumption | exact Nat.le_of_ble_eq_true rfl | apply And.intro | intro _ | exact rfl))
  · (dsimp only [AllP]; (repeat' first | exact trivial | assumption | exact Nat.le_of_ble_eq_true rfl | apply And.intro | intro _ | exact rfl))
  refine tr_ret ⟨.inr rfl, _, _, rfl, by trivial, ?_⟩
  rw [rMay, if_pos h, h]
  rfl
set_option maxRecDepth 10000 in
theorem rightMay_fn (l : List Gr) (u o r : Int) : FnD Try.prog 3 [.one (.e (eGrs l)), .v (.int .i64 u), .v (.int .i64 o), .v (.int .i64 r)] (.v (.bool true)) := by
  refine fn_intro (T := tab) tOk Try.func3 rfl (by kernel_rfl) (by simp [Try.ntmps3]) ?_
  intro X hX
  have hnt : X.nt = 37 := hX
  clear hX
  refine tr_seq (reg (T := tab) tOk hnt rfl ?_ ?_)
  · (dsimp only [AllP]; (repeat' first | exact trivial | assumption | exact Nat.le_of_ble_eq_true rfl | apply And.intro | intro _ | exact rfl))
  refine tr_seq (tr_region (lex (T := tab) tOk hnt rfl ?_ (call rfl rfl rfl rfl rfl rfl rfl hnt (May_fn l u o r) (lex (T := tab) tOk hnt rfl ?_ (Lex.nil _)))) ?_)
  · (dsimp only [AllP]; (repeat' first | exact trivial | assumption | exact Nat.le_of_ble_eq_true rfl | apply And.intro | intro _ | exact rfl))
  · (dsimp only [AllP]; (repeat' first | exact trivial | assumption | exact Nat.le_of_ble_eq_true rfl | apply And.intro | intro _ | exact rfl))
  refine tr_seq (tr_region (lex (T := tab) tOk hnt rfl ?_ (call rfl rfl rfl rfl rfl rfl rfl hnt (mayOf_fn l u o r) (lex (T := tab) tOk hnt rfl ?_ (Lex.nil _)))) ?_)
  · (dsimp only [AllP]; (repeat' first | exact trivial | assumption | exact Nat.le_of_ble_eq_true rfl | apply And.intro | intro _ | exact rfl))
  · (dsimp only [AllP]; (repeat' first | exact trivial | assumption | exact Nat.le_of_ble_eq_true rfl | apply And.intro | intro _ | exact rfl))
  refine tr_seq (reg (T := tab) tOk hnt rfl ?_ ?_)
  · (dsimp only [AllP]; (repeat' first | exact trivial | assumption | exact Nat.le_of_ble_eq_true rfl | apply And.intro | intro _ | exact rfl))
  refine tr_ret ⟨.inr rfl, _, _, rfl, by trivial, ?_⟩
  simp
  rfl
end Go.Proofs.Ytmicapdbgjafnab
