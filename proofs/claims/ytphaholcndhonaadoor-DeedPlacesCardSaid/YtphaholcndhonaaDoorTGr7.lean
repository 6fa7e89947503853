/- Package right: Check. No condition. -/
import Derived.Test.YtphaholcndhonaaDoorTGr6
namespace Go.Proofs.YtphaholcndhonaaDoor
open Go Go.RowKit Go.Proofs.YtphaholcndhonaaDoor.Ab

def pl (g : Gr) : Int × Int × Int × Int := (g.2.2.1, g.2.2.2.1, g.1, g.2.1)
theorem bndB {g : Gr} (h : boundsF g = 0) : (0 ≤ g.1 ∧ g.1 < 3) ∧ (0 ≤ g.2.1 ∧ g.2.1 < 3) ∧ (0 ≤ g.2.2.1 ∧ g.2.2.1 < 12) ∧ (g.2.2.2.1 = 1 ∨ g.2.2.2.1 = 2) := by
  unfold boundsF at h
  split at h
  · cases h
  rename_i h1
  split at h
  · cases h
  rename_i h2
  simp only [Gr.fr, Gr.to, Gr.ob, Gr.rt] at h1 h2
  omega
theorem rank_eq {g : Gr} (h : boundsF g = 0) : rankF g = ((g.2.2.1 * 3 + g.2.2.2.1) * 3 + g.1) * 3 + g.2.1 := by
  obtain ⟨h1, h2, h3, h4⟩ := bndB h
  obtain ⟨fr, to, ob, rt, op, ⟨⟩⟩ := g
  dsimp only at h1 h2 h3 h4 ⊢
  clear h
  have e1 : W64 (ob * 3) = ob * 3 := wrap64_id (by omega) (by omega)
  have e2 : W64 (ob * 3 + rt) = ob * 3 + rt := wrap64_id (by omega) (by omega)
  have e3 : W64 ((ob * 3 + rt) * 3) = (ob * 3 + rt) * 3 := wrap64_id (by omega) (by omega)
  have e4 : W64 ((ob * 3 + rt) * 3 + fr) = (ob * 3 + rt) * 3 + fr := wrap64_id (by omega) (by omega)
  have e5 : W64 (((ob * 3 + rt) * 3 + fr) * 3) = ((ob * 3 + rt) * 3 + fr) * 3 := wrap64_id (by omega) (by omega)
  have e6 : W64 (((ob * 3 + rt) * 3 + fr) * 3 + to) = ((ob * 3 + rt) * 3 + fr) * 3 + to := wrap64_id (by omega) (by omega)
  show W64 (W64 (W64 (W64 (W64 (W64 (ob * 3) + rt) * 3) + fr) * 3) + to) = _
  rw [e1, e2, e3, e4, e5, e6]
theorem bef_rank {p g : Gr} (hp : boundsF p = 0) (hg : boundsF g = 0) : befF (pl p) (pl g) = true ↔ rankF p < rankF g := by
  obtain ⟨p1, p2, p3, p4⟩ := bndB hp
  obtain ⟨g1, g2, g3, g4⟩ := bndB hg
  rw [rank_eq hp, rank_eq hg]
  unfold befF pl
  dsimp only
  clear hp hg
  split
  · rw [decide_eq_true_eq]; omega
  · split
    · rw [decide_eq_true_eq]; omega
    · split
      · rw [decide_eq_true_eq]; omega
      · rw [decide_eq_true_eq]; omega
def lastF (l : List Gr) (k : Nat) : Int := if k = 0 then -1 else rankF (l.getD (k - 1) gz)
theorem prevEq {l : List Gr} {k : Nat} (h : 0 < (k : Int)) (hk : k < l.length) (hb : l.length ≤ 96) : (List.map eGr l).getD (W64 ((k : Int) - 1)).toNat [] = eGr (l.getD (k - 1) gz) := by
  have e : (W64 ((k : Int) - 1)).toNat = k - 1 := by
    rw [show W64 ((k : Int) - 1) = (k : Int) - 1 from wrap64_id (by omega) (by omega)]
    omega
  rw [e]
  exact grGet l (by omega)
set_option maxRecDepth 10000 in
theorem Check_fn (l : List Gr) : FnD Tryd.prog 62 [.one (.e (eGrs l))] (.v (.int .i64 (gfaultF l))) := by
  refine fn_intro (T := tab) tOk Tryd.func62 rfl (by kernel_rfl) (by simp [Tryd.ntmps62]) ?_
  intro X hX
  have hnt : X.nt = 42 := hX
  clear hX
  repeat' (first | refine tr_seq ?_ | refine reg (T := tab) tOk hnt rfl ?_ ?_ | refine tr_block ?_ | refine tr_cond rfl (fun _ => ?_) (fun _ => ?_) | refine tr_skip ?_ | refine tr_ret ?_)
  all_goals (try ((dsimp only [AllP]; (repeat' first | exact trivial | assumption | exact Nat.le_of_ble_eq_true rfl | apply And.intro | intro _ | exact rfl)); done))
  · rename_i h
    have h := of_decide_eq_true h
    rw [List.length_map] at h
    refine ⟨.inr rfl, _, _, rfl, by trivial, ?_⟩
    rw [gfaultF, if_pos (by omega)]
    rfl
  rename_i h
  have h := of_decide_eq_false h
  rw [List.length_map] at h
  have hb : l.length ≤ 96 := by omega
  refine tr_loop (σ := Nat) (fun x => St.of [(0, .one (.e (eGrs l))), (9, .one (.e (eGrs l))), (10, .v (.int .i64 l.length)), (11, .v (.int .i64 x))] [])
    (fun x => x ≤ l.length ∧ gfL (l.drop x) (lastF l x) = gfL l (-1) ∧ ∀ g ∈ l.take x, boundsF g = 0) (fun x => l.length - x) 0 (le_of (ad := []) ⟨rfl, rfl, congrArg (fun z : Nat => E.v (.int .i64 (z : Int))) (List.length_map ..), rfl, trivial⟩ trivial) ⟨Nat.zero_le _, rfl, fun g hg => by cases hg⟩ ?_
  rintro k ⟨j1, j2, j3⟩
  refine tr_seq (reg (T := tab) tOk hnt rfl (by exact rfl) ?_)
  refine tr_seq (tr_cond rfl (fun hk => ?_) (fun hk => ?_))
  · refine tr_skip ?_
    have hk := of_decide_eq_true hk
    have hk : k < l.length := by omega
    refine tr_seq (tr_block ?_)
    have hlen : ((List.map eGr l).getD k []).length = 5 := by rw [grGet l hk]; rfl
    refine tr_seq (reg (T := tab) tOk hnt rfl ?_ ?_)
    · rw [Int.toNat_natCast]
      refine ⟨⟨?_, Nat.le_of_ble_eq_true rfl, Nat.zero_le _⟩, trivial, trivial, ?_, ⟨Int.natCast_nonneg _, ?_, hlen⟩, trivial⟩
      · show (List.take 5 (List.drop 0 ((List.map eGr l).getD k []))).length = 5
        rw [List.length_take, List.length_drop, hlen]
        rfl
      · show 0 + 5 ≤ ((List.map eGr l).getD k []).length
        omega
      · rw [List.length_map]
        omega
    rw [box_store]
    rotate_left
    · exact hlen
    · rfl
    rw [Int.toNat_natCast, grGet l hk]
    have htk : l.take (k + 1) = l.take k ++ [l.getD k gz] := by rw [List.take_add_one]; simp [List.getD, hk]
    rw [grDrop hk] at j2
    obtain ⟨g, hg⟩ : ∃ g, g = l.getD k gz := ⟨_, rfl⟩
    have hlast : lastF l (k + 1) = rankF g := by unfold lastF; rw [if_neg (Nat.succ_ne_zero k), hg]; rfl
    rw [← hg] at j2 htk ⊢
    repeat' (first | refine tr_seq ?_ | refine tr_block ?_)
    refine tr_region (lex (T := tab) tOk hnt rfl ?_ (call rfl rfl rfl rfl rfl rfl rfl hnt (bounds_fn g) (lex (T := tab) tOk hnt rfl ?_ (Lex.nil _)))) ?_
    · (dsimp only [AllP]; (repeat' first | exact trivial | assumption | exact Nat.le_of_ble_eq_true rfl | apply And.intro | intro _ | exact rfl))
    · (dsimp only [AllP]; (repeat' first | exact trivial | assumption | exact Nat.le_of_ble_eq_true rfl | apply And.intro | intro _ | exact rfl))
    repeat' (first | refine tr_seq ?_ | refine reg (T := tab) tOk hnt rfl ?_ ?_ | refine tr_block ?_ | refine tr_cond rfl (fun _ => ?_) (fun _ => ?_) | refine tr_skip ?_ | refine tr_ret ?_)
    · (dsimp only [AllP]; (repeat' first | exact trivial | assumption | exact Nat.le_of_ble_eq_true rfl | apply And.intro | intro _ | exact rfl))
    · (dsimp only [AllP]; (repeat' first | exact trivial | assumption | exact Nat.le_of_ble_eq_true rfl | apply And.intro | intro _ | exact rfl))
    · rename_i he
      have he : ¬ boundsF g = 0 := by simpa using he
      rw [gfL, if_pos he] at j2
      refine ⟨.inr rfl, _, _, rfl, by trivial, ?_⟩
      rw [gfaultF, if_neg (by omega), ← j2, if_pos he]
      rfl
    rename_i he
    have he : boundsF g = 0 := by simpa using he
    rw [gfL, if_neg (by omega)] at j2
    have hpr : decide (0 < (k : Int)) = true → (List.map eGr l).getD (IntKind.i64.wrap ((k : Int) - 1)).toNat [] = eGr (l.getD (k - 1) gz) := fun hq => prevEq (of_decide_eq_true hq) hk hb
    have hwr : decide (0 < (k : Int)) = true → 0 ≤ IntKind.i64.wrap ((k : Int) - 1) ∧ IntKind.i64.wrap ((k : Int) - 1) < ((List.map eGr l).length : Int) := fun hq => by
      have hq := of_decide_eq_true hq
      rw [wrap64_id (by omega) (by omega), List.length_map]
      omega
    refine tr_draw (T := tab) tOk hnt mixedR (lexD (T := tab) rfl ?_ (callGD (r := .agg (.es (ePl (pl (l.getD (k - 1) gz))))) rfl rfl rfl rfl rfl rfl rfl rfl (fun hq => ?_) (fun hq => ?_) (lexD (T := tab) rfl ?_ (callGD rfl rfl rfl rfl rfl rfl rfl rfl (fun hq => ?_) (fun hq => placed_fn g) (lexD (T := tab) rfl ?_ (callGD rfl rfl rfl rfl rfl rfl rfl rfl (fun hq => ?_) (fun hq => before_fn (pl (l.getD (k - 1) gz)) (pl g)) (lexD (T := tab) rfl ?_ (.nil _)))))))) (by decide +kernel) ?_
    · exact ⟨fun hq => ⟨hq, by rw [hpr hq]; exact Nat.le_refl 5⟩, fun hq => ⟨hq, hq, (hwr hq).1, (hwr hq).2, by rw [hpr hq]; rfl⟩, fun hq => ⟨hq, rfl⟩, fun _ => trivial, fun _ => trivial, trivial, rfl, trivial⟩
    · exact hq
    · rw [hpr hq]
      exact placed_fn _
    · exact fun _ => Nat.le_of_ble_eq_true rfl
    · exact hq
    · (dsimp only [AllP]; (repeat' first | exact trivial | assumption | exact Nat.le_of_ble_eq_true rfl | apply And.intro | intro _ | exact rfl))
    · exact ⟨hq, hq⟩
    · (dsimp only [AllP]; (repeat' first | exact trivial | assumption | exact Nat.le_of_ble_eq_true rfl | apply And.intro | intro _ | exact rfl))
    have hcmp : (bif decide (0 < (k : Int)) then !befF (pl (l.getD (k - 1) gz)) (pl g) else false) = true ↔ rankF g ≤ lastF l k := by
      by_cases h0 : k = 0
      · subst h0
        have := rank_eq he
        have hq := bndB he
        unfold lastF
        rw [if_pos rfl]
        simp
        omega
      · rw [decide_eq_true (show 0 < (k : Int) by omega)]
        have hp : boundsF (l.getD (k - 1) gz) = 0 := j3 _ (by
          rw [List.mem_iff_getElem?]
          refine ⟨k - 1, ?_⟩
          rw [List.getElem?_take, if_pos (by omega)]
          exact getD_some (by omega))
        have hbr := bef_rank hp he
        unfold lastF
        rw [if_neg h0]
        cases hbv : befF (pl (l.getD (k - 1) gz)) (pl g) with
        | true => simp only [cond_true, Bool.not_true, Bool.false_eq_true, false_iff]; have := hbr.1 hbv; omega
        | false => simp only [cond_true, Bool.not_false, true_iff]; have : ¬ rankF (l.getD (k - 1) gz) < rankF g := fun h => by rw [hbr.2 h] at hbv; cases hbv
                   omega
    clear hpr hwr
    refine tr_cond rfl (fun hc => ?_) (fun hc => ?_)
    · repeat' (first | refine tr_seq ?_ | refine reg (T := tab) tOk hnt rfl ?_ ?_ | refine tr_ret ?_)
      · (dsimp only [AllP]; (repeat' first | exact trivial | assumption | exact Nat.le_of_ble_eq_true rfl | apply And.intro | intro _ | exact rfl))
      · rw [if_pos (hcmp.1 hc)] at j2
        refine ⟨.inr rfl, _, _, rfl, by trivial, ?_⟩
        rw [gfaultF, if_neg (by omega), ← j2, if_pos (by decide)]
        rfl
    refine tr_skip ?_
    have hc : ¬ rankF g ≤ lastF l k := fun h => by rw [hcmp.2 h] at hc; cases hc
    rw [if_neg hc] at j2
    repeat' (first | refine tr_seq ?_ | refine reg (T := tab) tOk hnt rfl ?_ ?_ | refine tr_skip ?_)
    · (dsimp only [AllP]; (repeat' first | exact trivial | assumption | exact Nat.le_of_ble_eq_true rfl | apply And.intro | intro _ | exact rfl))
    refine ⟨k + 1, ⟨hk, by rw [hlast]; exact j2, ?_⟩, by omega, le_of (ad := []) ⟨rfl, rfl, rfl, ?_, trivial⟩ trivial⟩
    · intro x hx
      rw [htk] at hx
      rcases List.mem_append.1 hx with hx | hx
      · exact j3 x hx
      · rw [List.mem_singleton.1 hx]
        exact he
    · exact congrArg (fun z : Int => E.v (.int .i64 z)) (wrap64_id (by omega) (by omega))
  have hk := of_decide_eq_false hk
  have hk : k = l.length := by omega
  subst hk
  rw [List.drop_length] at j2
  rw [List.take_length] at j3
  refine tr_exit ?_
  repeat' (first | refine tr_seq ?_ | refine tr_block ?_ | refine tr_skip ?_)
  refine tr_region (lex (T := tab) tOk hnt rfl ?_ (call rfl rfl rfl rfl rfl rfl rfl hnt (held_fn l (fun g hg => ok_of (j3 g hg)) (by omega)) (lex (T := tab) tOk hnt rfl ?_ (Lex.nil _)))) ?_
  · (dsimp only [AllP]; (repeat' first | exact trivial | assumption | exact Nat.le_of_ble_eq_true rfl | apply And.intro | intro _ | exact rfl))
  · (dsimp only [AllP]; (repeat' first | exact trivial | assumption | exact Nat.le_of_ble_eq_true rfl | apply And.intro | intro _ | exact rfl))
  repeat' (first | refine tr_seq ?_ | refine reg (T := tab) tOk hnt rfl ?_ ?_ | refine tr_block ?_ | refine tr_cond rfl (fun _ => ?_) (fun _ => ?_) | refine tr_skip ?_ | refine tr_ret ?_)
  all_goals (try ((dsimp only [AllP]; (repeat' first | exact trivial | assumption | exact Nat.le_of_ble_eq_true rfl | apply And.intro | intro _ | exact rfl)); done))
  all_goals (have j2 : (0 : Int) = gfL l (-1) := j2)
  all_goals (have hle : (stF l).length ≤ l.length := List.length_filter_le ..)
  · rename_i hc
    simp only [List.length_map] at hc
    refine ⟨.inr rfl, _, _, rfl, by trivial, ?_⟩
    rw [gfaultF, if_neg (by omega), if_neg (by omega), if_pos (by simp at hc; omega)]
    rfl
  · rename_i hc
    simp only [List.length_map] at hc
    refine ⟨.inr rfl, _, _, rfl, by trivial, ?_⟩
    rw [gfaultF, if_neg (by omega), if_neg (by omega), if_neg (by simp at hc; omega)]
    rfl
end Go.Proofs.YtphaholcndhonaaDoor
