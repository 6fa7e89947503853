/- Package sum: the laws SumEnds, SumAdds answer true (the table of words given). No condition. -/
import Derived.Test.YtmicapdbgjafnaaDoorTShB
namespace Go.Proofs.YtmicapdbgjafnaaDoor
open Go Go.RowKit Go.Proofs.YtmicapdbgjafnaaDoor.Ab

theorem endR_len (H : H8) (l : List UInt8) (n m : Int) : (endR H l n m).1.length = 32 := by
  unfold endR
  cases sOk l n m with
  | true => exact outW_len _
  | false => rfl
set_option maxRecDepth 10000 in
theorem ends_fn (H : H8) (l : List UInt8) (n m : Int) (hl : l.length = 64) : FnG Tryd.prog 5 gK [.agg (.es (stE H l n m))] (.v (.bool true)) := by
  refine fn_introG (T := tab) tOk Tryd.func5 rfl (by kernel_rfl) (by simp [Tryd.ntmps5]) ?_
  intro X hX
  have hnt : X.nt = 25 := hX
  clear hX
  have hL := st_len H l hl n m
  have hfit := st_fit H l hl n m (k := 0 + 74) (by decide)
  have h1 : FnG Tryd.prog 14 gK [.agg (.es (List.take 74 (List.drop 0 (stE H l n m))))] (rEnd (endR H l n m)) := by
    rw [all_of _ _ hL]
    exact End_fn H l n m hl
  have h2 : FnD Tryd.prog 15 [.agg (.es (List.take 74 (List.drop 0 (stE H l n m))))] (rEnd (endR H l n m)) := by
    rw [all_of _ _ hL]
    exact Ended_fn H l n m hl
  have ho := endR_len H l n m
  generalize endR H l n m = r at h1 h2 ho
  obtain ⟨o, e⟩ := r
  have ho : o.length = 32 := ho
  have hr : (bE o).length = 32 := by simp [bE, ho]
  repeat' (first | refine tr_seq ?_ | refine reg (T := tab) tOk hnt rfl ?_ ?_ | refine regD (T := tab) tOk mixedR hnt rfl (by decide +kernel) ?_ ?_ | refine tr_block ?_ | refine tr_skip ?_)
  · exact ⟨trivial, trivial⟩
  refine tr_region (lex (T := tab) tOk hnt rfl ?_ (callV rfl rfl rfl rfl rfl rfl rfl hnt rfl h1 (lex (T := tab) tOk hnt rfl ?_ (Lex.nil _)))) ?_
  · exact hfit
  · refine ⟨trivial, ⟨?_, Nat.le_of_ble_eq_true (by kernel_rfl), Nat.zero_le _⟩, trivial, rfl, trivial, trivial⟩
    exact hr
  repeat' (first | refine tr_seq ?_ | refine tr_block ?_ | refine tr_skip ?_)
  refine tr_region (lex (T := tab) tOk hnt rfl ?_ (call rfl rfl rfl rfl rfl rfl rfl hnt h2 (lex (T := tab) tOk hnt rfl ?_ (Lex.nil _)))) ?_
  · exact hfit
  · refine ⟨trivial, ⟨?_, Nat.le_of_ble_eq_true (by kernel_rfl), Nat.zero_le _⟩, trivial, rfl, trivial, trivial⟩
    exact hr
  have hp : List.take 0 (bE z32) ++ bE o ++ List.drop (0 + 32) (bE z32) = bE o := put_all2 _ _ 32 rfl
  refine tr_le (s' := St.of [(3, .one (.ptr 3 0 0)), (4, .v (.int .i64 e)), (5, .one (.ptr 5 0 0)), (6, .v (.int .i64 e))] [(3, ⟨0, .box (.es (bE o)), 0⟩), (5, ⟨0, .box (.es (bE o)), 0⟩)]) (le_of (ad := []) ⟨⟨rfl, rfl, rfl, rfl, rfl⟩, rfl, ⟨rfl, rfl, rfl, rfl, rfl⟩, rfl, trivial⟩ (memOk_boxE rfl rfl (Eq.trans (by kernel_rfl) hp) (memOk_boxE rfl rfl (Eq.trans (by kernel_rfl) hp) trivial))) ?_
  obtain ⟨q1, q2⟩ := eq23 o ho
  have hlen : 0 + 32 ≤ (Cs.es (bE o)).len := Nat.le_of_eq hr.symm
  repeat' (first | refine tr_seq ?_ | refine reg (T := tab) tOk hnt rfl ?_ ?_ | refine regD (T := tab) tOk mixedR hnt rfl (by decide +kernel) ?_ ?_ | refine tr_block ?_ | refine tr_skip ?_)
  · exact ⟨trivial, fun h => h, fun h => ⟨h, h, q1⟩, fun _ => hlen, fun _ => hlen, trivial, rfl, trivial, trivial⟩
  refine tr_ret ⟨.inr rfl, _, _, rfl, by trivial, ?_⟩
  refine Eq.trans (b := D.v (.bool (bif decide (e = e) then (eqD tab 9 23 (.agg (.es (List.take 32 (List.drop 0 (bE o))))) (.agg (.es (List.take 32 (List.drop 0 (bE o)))))).2 else false))) rfl ?_
  rw [q2, decide_eq_true rfl]
  rfl
theorem eqD_struct {t sz b : Nat} {fs : List (Nat × Nat)} {z : List Value} (d : Nat) (ht : tab t = some ⟨sz, b, .struct fs, z⟩) (c c' : Cs) : eqD tab (d + 1) t (.agg c) (.agg c') = eqFs (eqD tab d) tab c c' fs := by
  conv =>
    lhs
    unfold eqD
  rw [ht]
theorem eq30 (H : H8) (l : List UInt8) (n m : Int) (hl : l.length = 64) : (eqD tab 9 30 (.agg (.es (stE H l n m))) (.agg (.es (stE H l n m)))).1 ∧ (eqD tab 9 30 (.agg (.es (stE H l n m))) (.agg (.es (stE H l n m)))).2 = true := by
  have hW : (eqD tab 8 27 (.agg (.es (hE H))) (.agg (.es (hE H)))).1 ∧ (eqD tab 8 27 (.agg (.es (hE H))) (.agg (.es (hE H)))).2 = true := eqArrW 6 rfl H.l rfl
  have hB : (eqD tab 8 28 (.agg (.es (bE l))) (.agg (.es (bE l)))).1 ∧ (eqD tab 8 28 (.agg (.es (bE l))) (.agg (.es (bE l)))).2 = true := eqArrB 6 rfl l hl
  have h1 := st_H H l hl n m
  have h2 := st_Held H l hl n m
  have k1 := st_okN H l hl n m
  have k2 := st_okL H l hl n m
  have v1 := st_N H l hl n m
  have v2 := st_L H l hl n m
  have f1 := st_fit H l hl n m (k := 0 + 8) (by decide)
  have f2 := st_fit H l hl n m (k := 8 + 64) (by decide)
  rw [eqD_struct 8 rfl]
  have e1 : ∀ S : List E, List.take 8 (List.drop (0 + 0) S) = hE H → List.take 64 (List.drop (0 + 8) S) = bE l → S.getD (0 + 72) E.dflt = eI n → S.getD (0 + 73) E.dflt = eI m →
      ((eqD tab 8 27 (.agg ((Cs.es S).sub 0 8)) (.agg ((Cs.es S).sub 0 8))).1 ∧ (eqD tab 8 27 (.agg ((Cs.es S).sub 0 8)) (.agg ((Cs.es S).sub 0 8))).2 = true) ∧ ((eqD tab 8 28 (.agg ((Cs.es S).sub 8 64)) (.agg ((Cs.es S).sub 8 64))).1 ∧ (eqD tab 8 28 (.agg ((Cs.es S).sub 8 64)) (.agg ((Cs.es S).sub 8 64))).2 = true) ∧
      ((eqD tab 8 3 (.one (((Cs.es S).at 72).as (.int .i64))) (.one (((Cs.es S).at 72).as (.int .i64)))).1 ∧ (eqD tab 8 3 (.one (((Cs.es S).at 72).as (.int .i64))) (.one (((Cs.es S).at 72).as (.int .i64)))).2 = true) ∧ ((eqD tab 8 3 (.one (((Cs.es S).at 73).as (.int .i64))) (.one (((Cs.es S).at 73).as (.int .i64)))).1 ∧ (eqD tab 8 3 (.one (((Cs.es S).at 73).as (.int .i64))) (.one (((Cs.es S).at 73).as (.int .i64)))).2 = true) := by
    intro S a1 a2 a3 a4
    have b1 : (Cs.es S).sub 0 8 = .es (hE H) := congrArg Cs.es a1
    have b2 : (Cs.es S).sub 8 64 = .es (bE l) := congrArg Cs.es a2
    have b3 : (Cs.es S).at 72 = .e (eI n) := congrArg D0.e a3
    have b4 : (Cs.es S).at 73 = .e (eI m) := congrArg D0.e a4
    rw [b1, b2, b3, b4]
    exact ⟨hW, hB, ⟨rfl, beq_self_eq_true _⟩, ⟨rfl, beq_self_eq_true _⟩⟩
  obtain ⟨⟨p1, q1⟩, ⟨p2, q2⟩, ⟨p3, q3⟩, ⟨p4, q4⟩⟩ := e1 _ h1 h2 v1 v2
  refine ⟨⟨f1, f1, p1, f2, f2, p2, k1, k1, p3, k2, k2, p4, trivial⟩, ?_⟩
  have and4 : ∀ a b c d : Bool, a = true → b = true → c = true → d = true → (a && (b && (c && (d && true)))) = true := by decide
  exact and4 _ _ _ _ q1 q2 q3 q4
theorem addF_held (H : H8) (l : List UInt8) (n m : Int) (b : List UInt8) (hl : l.length = 64) : (addF H l n m b).1.held.length < 64 := by
  unfold addF
  cases hq : sOk l n m with
  | false => exact (show (0 : Nat) < 64 by decide)
  | true =>
    rw [cond_true]
    split
    · exact (show (0 : Nat) < 64 by decide)
    · exact fold_held _ _ (sm_of hl hq H).2.1
set_option maxRecDepth 10000 in
theorem adds_fn (H : H8) (l : List UInt8) (n m : Int) (hl : l.length = 64) (b : List UInt8) (hb : b.length ≤ 9223372036854775807) : FnG Tryd.prog 4 gK [.agg (.es (stE H l n m)), .one (.e (eBytes b))] (.v (.bool true)) := by
  refine fn_introG (T := tab) tOk Tryd.func4 rfl (by kernel_rfl) (by simp [Tryd.ntmps4]) ?_
  intro X hX
  have hnt : X.nt = 34 := hX
  clear hX
  have hL := st_len H l hl n m
  have hfit := st_fit H l hl n m (k := 0 + 74) (by decide)
  have h1 : FnG Tryd.prog 10 gK [.agg (.es (List.take 74 (List.drop 0 (stE H l n m)))), .one (.e (eBytes b))] (rAdd (addF H l n m b)) := by
    rw [all_of _ _ hL]
    exact Add_fn H l n m hl b
  have h2 : FnD Tryd.prog 11 [.agg (.es (List.take 74 (List.drop 0 (stE H l n m)))), .one (.e (eBytes b))] (rAdd (addF H l n m b)) := by
    rw [all_of _ _ hL]
    exact Added_fn H l n m hl b hb
  have ho := addF_held H l n m b hl
  generalize addF H l n m b = r at h1 h2 ho
  obtain ⟨t, e⟩ := r
  have ho : t.held.length < 64 := ho
  have hr := smE_len t ho
  have hfr := smE_fit t ho
  repeat' (first | refine tr_seq ?_ | refine reg (T := tab) tOk hnt rfl ?_ ?_ | refine regD (T := tab) tOk mixedR hnt rfl (by decide +kernel) ?_ ?_ | refine tr_block ?_ | refine tr_skip ?_)
  · exact ⟨trivial, trivial⟩
  refine tr_region (lex (T := tab) tOk hnt rfl ?_ (callV rfl rfl rfl rfl rfl rfl rfl hnt rfl h1 (lex (T := tab) tOk hnt rfl ?_ (Lex.nil _)))) ?_
  · exact ⟨trivial, hfit⟩
  · refine ⟨trivial, ⟨?_, Nat.le_of_ble_eq_true (by kernel_rfl), Nat.zero_le _⟩, trivial, rfl, trivial, trivial⟩
    exact hr
  repeat' (first | refine tr_seq ?_ | refine tr_block ?_ | refine tr_skip ?_)
  refine tr_region (lex (T := tab) tOk hnt rfl ?_ (call rfl rfl rfl rfl rfl rfl rfl hnt h2 (lex (T := tab) tOk hnt rfl ?_ (Lex.nil _)))) ?_
  · exact ⟨trivial, hfit⟩
  · refine ⟨trivial, ⟨?_, Nat.le_of_ble_eq_true (by kernel_rfl), Nat.zero_le _⟩, trivial, rfl, trivial, trivial⟩
    exact hr
  have hp : List.take 0 (smE sZ) ++ smE t ++ List.drop (0 + 74) (smE sZ) = smE t := put_all2 _ _ 74 sZ_len
  refine tr_le (s' := St.of [(5, .one (.ptr 5 0 0)), (6, .v (.int .i64 e)), (7, .one (.ptr 7 0 0)), (8, .v (.int .i64 e))] [(5, ⟨0, .box (.es (smE t)), 0⟩), (7, ⟨0, .box (.es (smE t)), 0⟩)]) (le_of (ad := []) ⟨⟨rfl, rfl, rfl, rfl, rfl⟩, rfl, ⟨rfl, rfl, rfl, rfl, rfl⟩, rfl, trivial⟩ (memOk_boxE rfl rfl (Eq.trans (by kernel_rfl) hp) (memOk_boxE rfl rfl (Eq.trans (by kernel_rfl) hp) trivial))) ?_
  obtain ⟨q1, q2⟩ : (eqD tab 9 30 (.agg (.es (List.take 74 (List.drop 0 (smE t))))) (.agg (.es (List.take 74 (List.drop 0 (smE t)))))).1 ∧ (eqD tab 9 30 (.agg (.es (List.take 74 (List.drop 0 (smE t))))) (.agg (.es (List.take 74 (List.drop 0 (smE t)))))).2 = true := by
    rw [all_of _ _ hr]
    exact eq30 _ _ _ _ (padB_len (Nat.le_of_lt ho))
  obtain ⟨q3, q4⟩ : (eqD tab 9 30 (.agg (.es (smE s0))) (.agg (.es (smE s0)))).1 ∧ (eqD tab 9 30 (.agg (.es (smE s0))) (.agg (.es (smE s0)))).2 = true := eq30 _ _ _ _ rfl
  repeat' (first | refine tr_seq ?_ | refine tr_block ?_ | refine tr_skip ?_)
  refine tr_region (lex (T := tab) tOk hnt rfl ?_ (callG rfl rfl rfl rfl rfl rfl hnt rfl (fun hq => ?_) (fun hq => Begin_fn) (lex (T := tab) tOk hnt rfl ?_ (callG rfl rfl rfl rfl rfl rfl hnt rfl (fun hq => ?_) (fun hq => Begun_fn) (lex (T := tab) tOk hnt rfl ?_ (Lex.nil _)))))) ?_
  · exact ⟨trivial, fun h => h, fun h => ⟨h, h, q1⟩, fun _ => hfr, fun _ => hfr, trivial, rfl, trivial, trivial⟩
  · exact trivial
  · exact trivial
  · exact trivial
  · exact ⟨trivial, fun h => h, fun h => ⟨h, h, q3⟩⟩
  refine tr_ret ⟨.inr rfl, _, _, rfl, by trivial, ?_⟩
  refine Eq.trans (b := D.v (.bool (bif (bif decide (e = e) then (eqD tab 9 30 (.agg (.es (List.take 74 (List.drop 0 (smE t))))) (.agg (.es (List.take 74 (List.drop 0 (smE t)))))).2 else false) then (eqD tab 9 30 (.agg (.es (smE s0))) (.agg (.es (smE s0)))).2 else false))) rfl ?_
  rw [q2, q4, decide_eq_true rfl]
  rfl
end Go.Proofs.YtmicapdbgjafnaaDoor
