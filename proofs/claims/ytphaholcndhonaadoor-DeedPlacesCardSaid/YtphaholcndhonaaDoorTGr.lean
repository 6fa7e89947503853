/- Package right: owner, bounds, placed, before. No condition. -/
import Derived.Test.YtphaholcndhonaaDoorAbTab
import Derived.Test.YtphaholcndhonaaDoorAbF
namespace Go.Proofs.YtphaholcndhonaaDoor
open Go Go.RowKit Go.Proofs.YtphaholcndhonaaDoor.Ab

theorem mixedR : Tryd.prog.follows .mixedOrders = true := by kernel_rfl
abbrev Gr := Int × Int × Int × Int × Bool × Unit
abbrev Gr.fr (g : Gr) : Int := g.1
abbrev Gr.to (g : Gr) : Int := g.2.1
abbrev Gr.ob (g : Gr) : Int := g.2.2.1
abbrev Gr.rt (g : Gr) : Int := g.2.2.2.1
abbrev Gr.op (g : Gr) : Bool := g.2.2.2.2.1
def eGr (g : Gr) : List E := [eI g.1, eI g.2.1, eI g.2.2.1, eI g.2.2.2.1, .v (.bool g.2.2.2.2.1)]
def eGrs (l : List Gr) : E := .sl (l.map eGr)

theorem owner_fn (n : Int) : FnD Tryd.prog 151 [.v (.int .i64 n)] (.v (.int .i64 (IntKind.i64.wrap (n.tdiv 4)))) := by
  refine fn_intro (T := tab) tOk Tryd.func151 rfl (by kernel_rfl) (by simp [Tryd.ntmps151]) ?_
  intro X hX
  have hnt : X.nt = 5 := hX
  clear hX
  repeat' (first | refine tr_seq ?_ | refine reg (T := tab) tOk hnt rfl ?_ ?_ | refine tr_ret ?_)
  · exact trivial
  · exact ⟨trivial, ⟨rfl, by decide⟩, trivial⟩
  · exact ⟨.inr rfl, _, _, rfl, by trivial, rfl⟩
def ownF (ob : Int) : Int := IntKind.i64.wrap (ob.tdiv 4)
def boundsF (g : Gr) : Int :=
  if g.fr < 0 ∨ 3 ≤ g.fr ∨ g.to < 0 ∨ 3 ≤ g.to ∨ g.ob < 0 ∨ 12 ≤ g.ob then 6 else if g.rt ≠ 1 ∧ g.rt ≠ 2 then 2 else if g.fr = g.to ∨ g.to = ownF g.ob then 3 else 0

section
variable {fr to ob rt : Int} {op : Bool}
theorem bF6 (h : fr < 0 ∨ 3 ≤ fr ∨ to < 0 ∨ 3 ≤ to ∨ ob < 0 ∨ 12 ≤ ob) : boundsF (fr, to, ob, rt, op, ()) = 6 := if_pos h
theorem bF2 (h : ¬ (fr < 0 ∨ 3 ≤ fr ∨ to < 0 ∨ 3 ≤ to ∨ ob < 0 ∨ 12 ≤ ob)) (h2 : rt ≠ 1 ∧ rt ≠ 2) : boundsF (fr, to, ob, rt, op, ()) = 2 := (if_neg h).trans (if_pos h2)
theorem bF3 (h : ¬ (fr < 0 ∨ 3 ≤ fr ∨ to < 0 ∨ 3 ≤ to ∨ ob < 0 ∨ 12 ≤ ob)) (h2 : ¬ (rt ≠ 1 ∧ rt ≠ 2)) (h3 : fr = to ∨ to = ownF ob) : boundsF (fr, to, ob, rt, op, ()) = 3 := (if_neg h).trans ((if_neg h2).trans (if_pos h3))
theorem bF0 (h : ¬ (fr < 0 ∨ 3 ≤ fr ∨ to < 0 ∨ 3 ≤ to ∨ ob < 0 ∨ 12 ≤ ob)) (h2 : ¬ (rt ≠ 1 ∧ rt ≠ 2)) (h3 : ¬ (fr = to ∨ to = ownF ob)) : boundsF (fr, to, ob, rt, op, ()) = 0 := (if_neg h).trans ((if_neg h2).trans (if_neg h3))
end

theorem bounds_fn (g : Gr) : FnD Tryd.prog 115 [.agg (.es (eGr g))] (.v (.int .i64 (boundsF g))) := by
  obtain ⟨fr, to, ob, rt, op, ⟨⟩⟩ := g
  refine fn_intro (T := tab) tOk Tryd.func115 rfl (by kernel_rfl) (by simp [Tryd.ntmps115]) ?_
  intro X hX
  have hnt : X.nt = 52 := hX
  clear hX
  repeat' (first | refine tr_seq ?_ | refine reg (T := tab) tOk hnt rfl ?_ ?_ | refine regD (T := tab) tOk mixedR hnt rfl (by decide +kernel) ?_ ?_ | refine tr_cond rfl (fun _ => ?_) (fun _ => ?_) | refine tr_block ?_ | refine tr_skip ?_ | refine tr_ret ?_ | refine tr_exit ?_)
  all_goals (try (simp only [AllP, true_and, and_true, implies_true]; done))
  all_goals (try (dsimp only [AllP]; (repeat' first | exact trivial | assumption | exact Nat.le_of_ble_eq_true rfl | apply And.intro | intro _ | exact rfl); done))
  · rename_i h
    refine ⟨.inr rfl, _, _, rfl, by trivial, ?_⟩
    simp [eGr, eI, E.int] at h
    rw [bF6 (by omega)]
    rfl
  · rename_i h1 h
    refine ⟨.inr rfl, _, _, rfl, by trivial, ?_⟩
    simp [eGr, eI, E.int] at h h1
    rw [bF2 (by omega) (by omega)]
    rfl
  rename_i h2 h1
  simp [eGr, eI, E.int] at h1 h2
  refine tr_draw (T := tab) tOk hnt mixedR (lexD (T := tab) rfl ?_ (callGD rfl rfl rfl rfl rfl rfl rfl rfl (fun hq => ?_) (fun _ => owner_fn _) (lexD (T := tab) rfl ?_ (.nil _)))) (by decide +kernel) ?_
  · (dsimp only [AllP]; (repeat' first | exact trivial | assumption | exact Nat.le_of_ble_eq_true rfl | apply And.intro | intro _ | exact rfl))
  · exact hq
  · (dsimp only [AllP]; (repeat' first | exact trivial | assumption | exact Nat.le_of_ble_eq_true rfl | apply And.intro | intro _ | exact rfl))
  refine tr_cond rfl (fun h => ?_) (fun h => ?_)
  all_goals repeat' (first | refine tr_seq ?_ | refine reg (T := tab) tOk hnt rfl ?_ ?_ | refine tr_skip ?_ | refine tr_ret ?_)
  · exact trivial
  · refine ⟨.inr rfl, _, _, rfl, by trivial, ?_⟩
    simp [eGr, eI, E.int] at h
    rw [bF3 (by omega) (by omega) (by unfold ownF; omega)]
    rfl
  · exact trivial
  · refine ⟨.inr rfl, _, _, rfl, by trivial, ?_⟩
    simp [eGr, eI, E.int] at h
    rw [bF0 (by omega) (by omega) (by unfold ownF; omega)]
    rfl

def insF (n m : Int) : Bool := bif decide (0 ≤ n) then decide (n < m) else false
theorem inside_fn (n m : Int) : FnD Tryd.prog 152 [.v (.int .i64 n), .v (.int .i64 m)] (.v (.bool (insF n m))) := by
  refine fn_intro (T := tab) tOk Tryd.func152 rfl (by kernel_rfl) (by simp [Tryd.ntmps152]) ?_
  intro X hX
  have hnt : X.nt = 12 := hX
  clear hX
  repeat' (first | refine tr_seq ?_ | refine reg (T := tab) tOk hnt rfl ?_ ?_ | refine regD (T := tab) tOk mixedR hnt rfl (by decide +kernel) ?_ ?_ | refine tr_cond rfl (fun _ => ?_) (fun _ => ?_) | refine tr_block ?_ | refine tr_skip ?_ | refine tr_ret ?_ | refine tr_exit ?_)
  · exact trivial
  · (dsimp only [AllP]; (repeat' first | exact trivial | assumption | exact Nat.le_of_ble_eq_true rfl | apply And.intro | intro _ | exact rfl))
  · exact ⟨.inr rfl, _, _, rfl, by trivial, rfl⟩
theorem Owner_fn (n : Int) : FnD Tryd.prog 153 [.v (.int .i64 n)] (.v (.int .i64 (ownF n))) := by
  refine fn_intro (T := tab) tOk Tryd.func153 rfl (by kernel_rfl) (by simp [Tryd.ntmps153]) ?_
  intro X hX
  have hnt : X.nt = 5 := hX
  clear hX
  repeat' (first | refine tr_seq ?_ | refine reg (T := tab) tOk hnt rfl ?_ ?_ | refine regD (T := tab) tOk mixedR hnt rfl (by decide +kernel) ?_ ?_ | refine tr_cond rfl (fun _ => ?_) (fun _ => ?_) | refine tr_block ?_ | refine tr_skip ?_ | refine tr_ret ?_ | refine tr_exit ?_)
  · exact trivial
  · exact ⟨trivial, ⟨rfl, by decide⟩, trivial⟩
  · exact ⟨.inr rfl, _, _, rfl, by trivial, rfl⟩
theorem placed_fn (g : Gr) : FnD Tryd.prog 116 [.agg (.es (eGr g))] (.agg (.es [eI g.ob, eI g.rt, eI g.fr, eI g.to])) := by
  obtain ⟨fr, to, ob, rt, op, ⟨⟩⟩ := g
  refine fn_intro (T := tab) tOk Tryd.func116 rfl (by kernel_rfl) (by simp [Tryd.ntmps116]) ?_
  intro X hX
  have hnt : X.nt = 12 := hX
  clear hX
  repeat' (first | refine tr_seq ?_ | refine reg (T := tab) tOk hnt rfl ?_ ?_ | refine regD (T := tab) tOk mixedR hnt rfl (by decide +kernel) ?_ ?_ | refine tr_cond rfl (fun _ => ?_) (fun _ => ?_) | refine tr_block ?_ | refine tr_skip ?_ | refine tr_ret ?_ | refine tr_exit ?_)
  all_goals (try ((dsimp only [AllP]; (repeat' first | exact trivial | assumption | exact Nat.le_of_ble_eq_true rfl | apply And.intro | intro _ | exact rfl)); done))
  · exact ⟨.inr rfl, _, _, rfl, ⟨Nat.le_of_ble_eq_true rfl, trivial⟩, rfl⟩
def befF (p q : Int × Int × Int × Int) : Bool :=
  if p.1 ≠ q.1 then decide (p.1 < q.1) else if p.2.1 ≠ q.2.1 then decide (p.2.1 < q.2.1) else if p.2.2.1 ≠ q.2.2.1 then decide (p.2.2.1 < q.2.2.1) else decide (p.2.2.2 < q.2.2.2)
section
variable {a b c d a' b' c' d' : Int}
theorem bfA (h : a ≠ a') : befF (a, b, c, d) (a', b', c', d') = decide (a < a') := if_pos h
theorem bfB (h : a = a') (h1 : b ≠ b') : befF (a, b, c, d) (a', b', c', d') = decide (b < b') := (if_neg (fun k => k h)).trans (if_pos h1)
theorem bfC (h : a = a') (h1 : b = b') (h2 : c ≠ c') : befF (a, b, c, d) (a', b', c', d') = decide (c < c') := (if_neg (fun k => k h)).trans ((if_neg (fun k => k h1)).trans (if_pos h2))
theorem bfD (h : a = a') (h1 : b = b') (h2 : c = c') : befF (a, b, c, d) (a', b', c', d') = decide (d < d') := (if_neg (fun k => k h)).trans ((if_neg (fun k => k h1)).trans (if_neg (fun k => k h2)))
end
def ePl (p : Int × Int × Int × Int) : List E := [eI p.1, eI p.2.1, eI p.2.2.1, eI p.2.2.2]
theorem before_fn (p q : Int × Int × Int × Int) : FnD Tryd.prog 117 [.agg (.es (ePl p)), .agg (.es (ePl q))] (.v (.bool (befF p q))) := by
  obtain ⟨a, b, c, d⟩ := p
  obtain ⟨a', b', c', d'⟩ := q
  refine fn_intro (T := tab) tOk Tryd.func117 rfl (by kernel_rfl) (by simp [Tryd.ntmps117]) ?_
  intro X hX
  have hnt : X.nt = 43 := hX
  clear hX
  repeat' (first | refine tr_seq ?_ | refine reg (T := tab) tOk hnt rfl ?_ ?_ | refine regD (T := tab) tOk mixedR hnt rfl (by decide +kernel) ?_ ?_ | refine tr_cond rfl (fun _ => ?_) (fun _ => ?_) | refine tr_block ?_ | refine tr_skip ?_ | refine tr_ret ?_ | refine tr_exit ?_)
  all_goals (try ((dsimp only [AllP]; (repeat' first | exact trivial | assumption | exact Nat.le_of_ble_eq_true rfl | apply And.intro | intro _ | exact rfl)); done))
  · rename_i h
    simp [ePl, eI, E.int] at h
    refine ⟨.inr rfl, _, _, rfl, by trivial, ?_⟩
    rw [bfA h]
    rfl
  · rename_i h1 h
    simp [ePl, eI, E.int] at h h1
    refine ⟨.inr rfl, _, _, rfl, by trivial, ?_⟩
    rw [bfB h1 h]
    rfl
  · rename_i h2 h1 h
    simp [ePl, eI, E.int] at h h1 h2
    refine ⟨.inr rfl, _, _, rfl, by trivial, ?_⟩
    rw [bfC h2 h1 h]
    rfl
  · rename_i h2 h1 h
    simp [ePl, eI, E.int] at h h1 h2
    refine ⟨.inr rfl, _, _, rfl, by trivial, ?_⟩
    rw [bfD h2 h1 h]
    rfl
end Go.Proofs.YtphaholcndhonaaDoor
