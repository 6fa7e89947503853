/- The reference of package right: what is wrong with grants. No condition. -/
import Derived.Test.YtphaholcndhonaaDoorTGr4
namespace Go.Proofs.YtphaholcndhonaaDoor
open Go Go.RowKit Go.Proofs.YtphaholcndhonaaDoor.Ab

def gfL : List Gr → Int → Int
  | [], _ => 0
  | g :: r, last => if boundsF g ≠ 0 then boundsF g else if rankF g ≤ last then 3 else gfL r (rankF g)
def gfaultF (l : List Gr) : Int := if 96 < l.length then 1 else if gfL l (-1) ≠ 0 then gfL l (-1) else if (stF l).length < l.length then 11 else 0
theorem ok_of {g : Gr} (h : boundsF g = 0) : g.ok := by
  unfold boundsF at h
  split at h
  · cases h
  · rename_i h1
    unfold Gr.ok
    simp only [Gr.fr, Gr.to, Gr.ob] at h1
    omega

theorem gfault_fn (l : List Gr) : FnD Tryd.prog 63 [.one (.e (eGrs l))] (.v (.int .i64 (gfaultF l))) := by
  refine fn_intro (T := tab) tOk Tryd.func63 rfl (by kernel_rfl) (by simp [Tryd.ntmps63]) ?_
  intro X hX
  have hnt : X.nt = 34 := hX
  clear hX
  repeat' (first | refine tr_seq ?_ | refine reg (T := tab) tOk hnt rfl ?_ ?_ | refine tr_block ?_ | refine tr_cond rfl (fun _ => ?_) (fun _ => ?_) | refine tr_skip ?_ | refine tr_ret ?_)
  all_goals (try ((dsimp only [AllP]; (repeat' first | exact trivial | assumption | exact Nat.le_of_ble_eq_true rfl | apply And.intro | intro _ | exact rfl)); done))
  · rename_i h
    have h := of_decide_eq_true h
    rw [List.length_map] at h
    refine ⟨.inr rfl, _, _, rfl, by trivial, ?_⟩
    rw [gfaultF, if_pos (by omega)]
    rfl
  rename_i h
  have h := of_decide_eq_false h
  rw [List.length_map] at h
  have hb : l.length ≤ 96 := by omega
  refine tr_loop (σ := Nat × Int) (fun x => St.of [(0, .one (.e (eGrs l))), (3, .v (.int .i64 x.2)), (10, .one (.e (eGrs l))), (11, .v (.int .i64 l.length)), (12, .v (.int .i64 x.1))] [])
    (fun x => x.1 ≤ l.length ∧ gfL (l.drop x.1) x.2 = gfL l (-1) ∧ ∀ g ∈ l.take x.1, g.ok) (fun x => l.length - x.1) (0, -1) (le_of (ad := []) ⟨rfl, rfl, rfl, congrArg (fun z : Nat => E.v (.int .i64 (z : Int))) (List.length_map ..), rfl, trivial⟩ trivial) ⟨Nat.zero_le _, rfl, fun g hg => by cases hg⟩ ?_
  rintro ⟨k, last⟩ ⟨j1, j2, j3⟩
  dsimp only at j1 j2 j3 ⊢
  refine tr_seq (reg (T := tab) tOk hnt rfl (by exact rfl) ?_)
  refine tr_seq (tr_cond rfl (fun hk => ?_) (fun hk => ?_))
  · refine tr_skip ?_
    have hk := of_decide_eq_true hk
    have hk : k < l.length := by omega
    refine tr_seq (tr_block ?_)
    have hlen : ((List.map eGr l).getD k []).length = 5 := by rw [grGet l hk]; rfl
    refine tr_seq (reg (T := tab) tOk hnt rfl ?_ ?_)
    · rw [Int.toNat_natCast]
      refine ⟨⟨?_, Nat.le_of_ble_eq_true rfl, Nat.zero_le _⟩, trivial, ?_, Int.natCast_nonneg _, ?_, hlen⟩
      · show (List.take 5 (List.drop 0 ((List.map eGr l).getD k []))).length = 5
        rw [List.length_take, List.length_drop, hlen]
        rfl
      · show 0 + 5 ≤ ((List.map eGr l).getD k []).length
        omega
      · rw [List.length_map]
        omega
    rw [box_store]
    rotate_left
    · exact hlen
    · rfl
    rw [Int.toNat_natCast, grGet l hk]
    have htk : l.take (k + 1) = l.take k ++ [l.getD k gz] := by rw [List.take_add_one]; simp [List.getD, hk]
    rw [grDrop hk] at j2
    generalize l.getD k gz = g at j2 htk ⊢
    repeat' (first | refine tr_seq ?_ | refine tr_block ?_)
    refine tr_region (lex (T := tab) tOk hnt rfl ?_ (call rfl rfl rfl rfl rfl rfl rfl hnt (grantBounds_fn g) (lex (T := tab) tOk hnt rfl ?_ (Lex.nil _)))) ?_
    · (dsimp only [AllP]; (repeat' first | exact trivial | assumption | exact Nat.le_of_ble_eq_true rfl | apply And.intro | intro _ | exact rfl))
    · (dsimp only [AllP]; (repeat' first | exact trivial | assumption | exact Nat.le_of_ble_eq_true rfl | apply And.intro | intro _ | exact rfl))
    repeat' (first | refine tr_seq ?_ | refine reg (T := tab) tOk hnt rfl ?_ ?_ | refine tr_block ?_ | refine tr_cond rfl (fun _ => ?_) (fun _ => ?_) | refine tr_skip ?_ | refine tr_ret ?_)
    · (dsimp only [AllP]; (repeat' first | exact trivial | assumption | exact Nat.le_of_ble_eq_true rfl | apply And.intro | intro _ | exact rfl))
    · (dsimp only [AllP]; (repeat' first | exact trivial | assumption | exact Nat.le_of_ble_eq_true rfl | apply And.intro | intro _ | exact rfl))
    · rename_i he
      have he : ¬ boundsF g = 0 := by simpa using he
      rw [gfL, if_pos he] at j2
      refine ⟨.inr rfl, _, _, rfl, by trivial, ?_⟩
      rw [gfaultF, if_neg (by omega), ← j2, if_pos he]
      rfl
    rename_i he
    have he : boundsF g = 0 := by simpa using he
    rw [gfL, if_neg (by omega)] at j2
    refine tr_region (lex (T := tab) tOk hnt rfl ?_ (call rfl rfl rfl rfl rfl rfl rfl hnt (rank_fn g) (lex (T := tab) tOk hnt rfl ?_ (Lex.nil _)))) ?_
    · (dsimp only [AllP]; (repeat' first | exact trivial | assumption | exact Nat.le_of_ble_eq_true rfl | apply And.intro | intro _ | exact rfl))
    · (dsimp only [AllP]; (repeat' first | exact trivial | assumption | exact Nat.le_of_ble_eq_true rfl | apply And.intro | intro _ | exact rfl))
    repeat' (first | refine tr_seq ?_ | refine reg (T := tab) tOk hnt rfl ?_ ?_ | refine tr_block ?_ | refine tr_cond rfl (fun _ => ?_) (fun _ => ?_) | refine tr_skip ?_ | refine tr_ret ?_)
    · (dsimp only [AllP]; (repeat' first | exact trivial | assumption | exact Nat.le_of_ble_eq_true rfl | apply And.intro | intro _ | exact rfl))
    · rename_i hr
      have hr := of_decide_eq_true hr
      rw [if_pos hr] at j2
      refine ⟨.inr rfl, _, _, rfl, by trivial, ?_⟩
      rw [gfaultF, if_neg (by omega), ← j2, if_pos (by decide)]
      rfl
    rename_i hr
    have hr := of_decide_eq_false hr
    rw [if_neg hr] at j2
    repeat' (first | refine tr_seq ?_ | refine tr_block ?_ | refine tr_skip ?_)
    refine tr_region (lex (T := tab) tOk hnt rfl ?_ (call rfl rfl rfl rfl rfl rfl rfl hnt (rank_fn g) (lex (T := tab) tOk hnt rfl ?_ (Lex.nil _)))) ?_
    · (dsimp only [AllP]; (repeat' first | exact trivial | assumption | exact Nat.le_of_ble_eq_true rfl | apply And.intro | intro _ | exact rfl))
    · (dsimp only [AllP]; (repeat' first | exact trivial | assumption | exact Nat.le_of_ble_eq_true rfl | apply And.intro | intro _ | exact rfl))
    repeat' (first | refine tr_seq ?_ | refine reg (T := tab) tOk hnt rfl ?_ ?_ | refine tr_block ?_ | refine tr_skip ?_)
    · (dsimp only [AllP]; (repeat' first | exact trivial | assumption | exact Nat.le_of_ble_eq_true rfl | apply And.intro | intro _ | exact rfl))
    refine ⟨(k + 1, rankF g), ⟨hk, j2, ?_⟩, by dsimp only; omega, le_of (ad := []) ⟨rfl, rfl, rfl, rfl, ?_, trivial⟩ trivial⟩
    · intro x hx
      dsimp only at hx
      rw [htk] at hx
      rcases List.mem_append.1 hx with hx | hx
      · exact j3 x hx
      · rw [List.mem_singleton.1 hx]
        exact ok_of he
    · exact congrArg (fun z : Int => E.v (.int .i64 z)) (wrap64_id (by omega) (by omega))
  have hk := of_decide_eq_false hk
  have hk : k = l.length := by omega
  subst hk
  rw [List.drop_length] at j2
  rw [List.take_length] at j3
  refine tr_exit ?_
  repeat' (first | refine tr_seq ?_ | refine tr_block ?_ | refine tr_skip ?_)
  refine tr_region (lex (T := tab) tOk hnt rfl ?_ (call rfl rfl rfl rfl rfl rfl rfl hnt (stands_fn l j3 (by omega)) (lex (T := tab) tOk hnt rfl ?_ (Lex.nil _)))) ?_
  · (dsimp only [AllP]; (repeat' first | exact trivial | assumption | exact Nat.le_of_ble_eq_true rfl | apply And.intro | intro _ | exact rfl))
  · (dsimp only [AllP]; (repeat' first | exact trivial | assumption | exact Nat.le_of_ble_eq_true rfl | apply And.intro | intro _ | exact rfl))
  repeat' (first | refine tr_seq ?_ | refine reg (T := tab) tOk hnt rfl ?_ ?_ | refine tr_block ?_ | refine tr_cond rfl (fun _ => ?_) (fun _ => ?_) | refine tr_skip ?_ | refine tr_ret ?_)
  all_goals (try ((dsimp only [AllP]; (repeat' first | exact trivial | assumption | exact Nat.le_of_ble_eq_true rfl | apply And.intro | intro _ | exact rfl)); done))
  all_goals (have j2 : (0 : Int) = gfL l (-1) := j2)
  · rename_i hc
    have hc := of_decide_eq_true hc
    rw [List.length_map, List.length_map] at hc
    refine ⟨.inr rfl, _, _, rfl, by trivial, ?_⟩
    rw [gfaultF, if_neg (by omega), if_neg (by omega), if_pos (by omega)]
    rfl
  · rename_i hc
    have hc := of_decide_eq_false hc
    rw [List.length_map, List.length_map] at hc
    refine ⟨.inr rfl, _, _, rfl, by trivial, ?_⟩
    rw [gfaultF, if_neg (by omega), if_neg (by omega), if_neg (by omega)]
    rfl
end Go.Proofs.YtphaholcndhonaaDoor
