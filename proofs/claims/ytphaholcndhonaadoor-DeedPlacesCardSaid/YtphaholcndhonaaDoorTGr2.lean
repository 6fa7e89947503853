/- The reference of package right: bounds, rank. No condition. -/
import Derived.Test.YtphaholcndhonaaDoorTGr
namespace Go.Proofs.YtphaholcndhonaaDoor
open Go Go.RowKit Go.Proofs.YtphaholcndhonaaDoor.Ab

def rankF (g : Gr) : Int := W64 (W64 (W64 (W64 (W64 (W64 (g.ob * 3) + g.rt) * 3) + g.fr) * 3) + g.to)
theorem rank_fn (g : Gr) : FnD Tryd.prog 120 [.agg (.es (eGr g))] (.v (.int .i64 (rankF g))) := by
  obtain ⟨fr, to, ob, rt, op, ⟨⟩⟩ := g
  refine fn_intro (T := tab) tOk Tryd.func120 rfl (by kernel_rfl) (by simp [Tryd.ntmps120]) ?_
  intro X hX
  have hnt : X.nt = 17 := hX
  clear hX
  repeat' (first | refine tr_seq ?_ | refine reg (T := tab) tOk hnt rfl ?_ ?_ | refine regD (T := tab) tOk mixedR hnt rfl (by decide +kernel) ?_ ?_ | refine tr_cond rfl (fun _ => ?_) (fun _ => ?_) | refine tr_block ?_ | refine tr_skip ?_ | refine tr_ret ?_ | refine tr_exit ?_)
  · exact ⟨trivial, trivial⟩
  · (dsimp only [AllP]; (repeat' first | exact trivial | assumption | exact Nat.le_of_ble_eq_true rfl | apply And.intro | intro _ | exact rfl))
  · exact ⟨.inr rfl, _, _, rfl, by trivial, rfl⟩

theorem grantBounds_fn (g : Gr) : FnD Tryd.prog 119 [.agg (.es (eGr g))] (.v (.int .i64 (boundsF g))) := by
  obtain ⟨fr, to, ob, rt, op, ⟨⟩⟩ := g
  refine fn_intro (T := tab) tOk Tryd.func119 rfl (by kernel_rfl) (by simp [Tryd.ntmps119]) ?_
  intro X hX
  have hnt : X.nt = 47 := hX
  clear hX
  refine tr_seq (reg (T := tab) tOk hnt rfl (by (dsimp only [AllP]; (repeat' first | exact trivial | assumption | exact Nat.le_of_ble_eq_true rfl | apply And.intro | intro _ | exact rfl))) ?_)
  refine tr_seq (reg (T := tab) tOk hnt rfl (by (dsimp only [AllP]; (repeat' first | exact trivial | assumption | exact Nat.le_of_ble_eq_true rfl | apply And.intro | intro _ | exact rfl))) ?_)
  refine tr_seq (tr_block ?_)
  refine tr_seq (tr_region (lex (T := tab) tOk hnt rfl ?_ (call rfl rfl rfl rfl rfl rfl rfl hnt (inside_fn _ _) (lex (T := tab) tOk hnt rfl ?_ (callG rfl rfl rfl rfl rfl rfl hnt rfl (fun hq => ?_) (fun _ => inside_fn _ _) (lex (T := tab) tOk hnt rfl ?_ (callG rfl rfl rfl rfl rfl rfl hnt rfl (fun hq => ?_) (fun _ => inside_fn _ _) (lex (T := tab) tOk hnt rfl ?_ (Lex.nil _)))))))) ?_)
  all_goals (try ((dsimp only [AllP]; (repeat' first | exact trivial | assumption | exact Nat.le_of_ble_eq_true rfl | apply And.intro | intro _ | exact rfl)); done))
  repeat' (first | refine tr_seq ?_ | refine reg (T := tab) tOk hnt rfl ?_ ?_ | refine regD (T := tab) tOk mixedR hnt rfl (by decide +kernel) ?_ ?_ | refine tr_cond rfl (fun _ => ?_) (fun _ => ?_) | refine tr_block ?_ | refine tr_skip ?_ | refine tr_ret ?_ | refine tr_exit ?_)
  all_goals (try ((dsimp only [AllP]; (repeat' first | exact trivial | assumption | exact Nat.le_of_ble_eq_true rfl | apply And.intro | intro _ | exact rfl)); done))
  · rename_i h
    refine ⟨.inr rfl, _, _, rfl, by trivial, ?_⟩
    simp [eGr, eI, E.int, insF] at h
    rw [bF6 (by omega)]
    rfl
  · rename_i h1 h
    refine ⟨.inr rfl, _, _, rfl, by trivial, ?_⟩
    simp [eGr, eI, E.int, insF] at h h1
    rw [bF2 (by omega) (by omega)]
    rfl
  rename_i h2 h1
  simp [eGr, eI, E.int, insF] at h1 h2
  refine tr_draw (T := tab) tOk hnt mixedR (lexD (T := tab) rfl ?_ (callGD rfl rfl rfl rfl rfl rfl rfl rfl (fun hq => ?_) (fun _ => Owner_fn _) (lexD (T := tab) rfl ?_ (.nil _)))) (by decide +kernel) ?_
  · (dsimp only [AllP]; (repeat' first | exact trivial | assumption | exact Nat.le_of_ble_eq_true rfl | apply And.intro | intro _ | exact rfl))
  · exact hq
  · (dsimp only [AllP]; (repeat' first | exact trivial | assumption | exact Nat.le_of_ble_eq_true rfl | apply And.intro | intro _ | exact rfl))
  refine tr_cond rfl (fun h => ?_) (fun h => ?_)
  all_goals repeat' (first | refine tr_seq ?_ | refine reg (T := tab) tOk hnt rfl ?_ ?_ | refine tr_skip ?_ | refine tr_ret ?_ | refine tr_exit ?_)
  · exact trivial
  · refine ⟨.inr rfl, _, _, rfl, by trivial, ?_⟩
    simp [eGr, eI, E.int] at h
    rw [bF3 (by omega) (by omega) (by omega)]
    rfl
  · exact trivial
  · refine ⟨.inr rfl, _, _, rfl, by trivial, ?_⟩
    simp [eGr, eI, E.int] at h
    rw [bF0 (by omega) (by omega) (by omega)]
    rfl
end Go.Proofs.YtphaholcndhonaaDoor
