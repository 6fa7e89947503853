/- The reference of package right: the grants that stand. No condition. -/
import Derived.Test.YtphaholcndhonaaDoorTGr3
namespace Go.Proofs.YtphaholcndhonaaDoor
open Go Go.RowKit Go.Proofs.YtphaholcndhonaaDoor.Ab

def stP (l : List Gr) (g : Gr) : Bool := reachF l g.1 g.2.2.1 g.2.2.2.1
def stF (l : List Gr) : List Gr := l.filter (stP l)

theorem accG (acc : List Gr) (g : Gr) : List.map eGr acc ++ [List.take 5 (List.drop 0 (eGr g))] = List.map eGr (acc ++ [g]) := by
  rw [List.map_append]
  rfl
theorem stands_fn (l : List Gr) (hl : ∀ g ∈ l, g.ok) (hb : l.length ≤ 1000000) : FnD Tryd.prog 121 [.one (.e (eGrs l))] (.one (.e (eGrs (stF l)))) := by
  refine fn_intro (T := tab) tOk Tryd.func121 rfl (by kernel_rfl) (by simp [Tryd.ntmps121]) ?_
  intro X hX
  have hnt : X.nt = 26 := hX
  clear hX
  repeat' (first | refine tr_seq ?_ | refine reg (T := tab) tOk hnt rfl ?_ ?_ | refine tr_block ?_)
  all_goals (try ((dsimp only [AllP]; (repeat' first | exact trivial | assumption | exact Nat.le_of_ble_eq_true rfl | apply And.intro | intro _ | exact rfl)); done))
  refine tr_loop (σ := Nat × List Gr) (fun x => St.of [(0, .one (.e (eGrs l))), (3, .one (.own 23 0)), (6, .one (.e (eGrs l))), (7, .v (.int .i64 l.length)), (8, .v (.int .i64 x.1))] [(23, ⟨0, .row 5 (x.2.map eGr), 0⟩)])
    (fun x => x.1 ≤ l.length ∧ x.2 ++ (l.drop x.1).filter (stP l) = stF l ∧ x.2.length ≤ x.1) (fun x => l.length - x.1) (0, []) (le_of (ad := [23]) ⟨rfl, ⟨rfl, rfl⟩, rfl, congrArg (fun z : Nat => E.v (.int .i64 (z : Int))) (List.length_map ..), rfl, trivial⟩ (memOk_new rfl (by decide) trivial)) ⟨Nat.zero_le _, rfl, Nat.le_refl _⟩ ?_
  rintro ⟨k, acc⟩ ⟨j1, j2, j3⟩
  dsimp only at j1 j2 j3 ⊢
  refine tr_seq (reg (T := tab) tOk hnt rfl (by exact rfl) ?_)
  refine tr_seq (tr_cond rfl (fun hk => ?_) (fun hk => ?_))
  · refine tr_skip ?_
    have hk := of_decide_eq_true hk
    have hk : k < l.length := by omega
    refine tr_seq (tr_block ?_)
    have hlen : ((List.map eGr l).getD k []).length = 5 := by rw [grGet l hk]; rfl
    refine tr_seq (reg (T := tab) tOk hnt rfl ?_ ?_)
    · rw [Int.toNat_natCast]
      refine ⟨⟨?_, Nat.le_of_ble_eq_true rfl, Nat.zero_le _⟩, trivial, ?_, Int.natCast_nonneg _, ?_, hlen⟩
      · show (List.take 5 (List.drop 0 ((List.map eGr l).getD k []))).length = 5
        rw [List.length_take, List.length_drop, hlen]
        rfl
      · show 0 + 5 ≤ ((List.map eGr l).getD k []).length
        omega
      · rw [List.length_map]
        omega
    rw [box_store]
    rotate_left
    · exact hlen
    · rfl
    rw [Int.toNat_natCast, grGet l hk]
    have hg := grOk hl hk
    rw [grDrop hk] at j2
    generalize l.getD k gz = g at hg j2 ⊢
    obtain ⟨gf, gt, go, gr, gp, ⟨⟩⟩ := g
    refine tr_seq (tr_region (lex (T := tab) tOk hnt rfl ?_ (call rfl rfl rfl rfl rfl rfl rfl hnt (reached_fn l gf go gr hl hg.1 hg.2.2 (Nat.le_trans hb (by decide))) (lex (T := tab) tOk hnt rfl ?_ (Lex.nil _)))) ?_)
    · (dsimp only [AllP]; (repeat' first | exact trivial | assumption | exact Nat.le_of_ble_eq_true rfl | apply And.intro | intro _ | exact rfl))
    · exact trivial
    repeat' (first | refine tr_seq ?_ | refine reg (T := tab) tOk hnt rfl ?_ ?_ | refine tr_cond rfl (fun _ => ?_) (fun _ => ?_) | refine tr_block ?_ | refine tr_skip ?_ | refine tr_exit ?_)
    all_goals (try ((dsimp only [AllP]; (repeat' first | exact trivial | assumption | exact Nat.le_of_ble_eq_true rfl | apply And.intro | intro _ | exact rfl)); done))
    · have e1 : (List.map eGr acc).length ≤ 1000000 := by rw [List.length_map]; omega
      refine ⟨trivial, ⟨trivial, ?_, ?_⟩, ⟨⟨rfl, trivial⟩, by decide, by decide⟩, Nat.le_of_ble_eq_true rfl, trivial⟩
      · show (List.map eGr acc).length + 1 ≤ maxLen
        simp only [maxLen]
        omega
      · show ((List.map eGr acc).length + 1) * 40 ≤ 140737488355328
        omega
    · rename_i hr
      refine ⟨(k + 1, acc ++ [(gf, gt, go, gr, gp, ())]), ⟨hk, ?_, by simp; omega⟩, by dsimp only; omega, le_of (ad := []) ⟨rfl, ⟨rfl, rfl, rfl, rfl⟩, rfl, rfl, ?_, trivial⟩ (memOk_row rfl rfl (accG acc _) trivial)⟩
      · rw [List.filter_cons_of_pos (by exact hr)] at j2
        rw [← j2]
        simp
      · exact congrArg (fun z : Int => E.v (.int .i64 z)) (wrap64_id (by omega) (by omega))
    · rename_i hr
      refine ⟨(k + 1, acc), ⟨hk, ?_, by dsimp only; omega⟩, by dsimp only; omega, le_of (ad := []) ⟨rfl, ⟨rfl, rfl, rfl, rfl⟩, rfl, rfl, ?_, trivial⟩ (memOk_row rfl rfl rfl trivial)⟩
      · rw [List.filter_cons_of_neg (by simp only [stP]; rw [hr]; decide)] at j2
        exact j2
      · exact congrArg (fun z : Int => E.v (.int .i64 z)) (wrap64_id (by omega) (by omega))
  refine tr_exit ?_
  repeat' (first | refine tr_seq ?_ | refine reg (T := tab) tOk hnt rfl ?_ ?_ | refine tr_skip ?_ | refine tr_ret ?_)
  all_goals (try ((dsimp only [AllP]; (repeat' first | exact trivial | assumption | exact Nat.le_of_ble_eq_true rfl | apply And.intro | intro _ | exact rfl)); done))
  have hk := of_decide_eq_false hk
  have hk : k = l.length := by omega
  subst hk
  rw [List.drop_length] at j2
  have j2 : acc = stF l := by simpa using j2
  refine ⟨.inr rfl, _, _, rfl, by trivial, ?_⟩
  rw [← j2]
  rfl
end Go.Proofs.YtphaholcndhonaaDoor
