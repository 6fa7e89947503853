/- SHA-256 as the program has it: a stream is checked, added to, ended by the package's own functions. No condition. -/
import Derived.Test.YtmicapdbgjafnaaDoorTSh8
namespace Go.Proofs.YtmicapdbgjafnaaDoor
open Go Go.RowKit Go.Proofs.YtmicapdbgjafnaaDoor.Ab

set_option maxRecDepth 10000 in
theorem check_fn (H : H8) (l : List UInt8) (n m : Int) (hl : l.length = 64) : FnD Tryd.prog 23 [.agg (.es (stE H l n m))] (.v (.int .i64 (bif sOk l n m then 0 else 11))) := by
  refine fn_intro (T := tab) tOk Tryd.func23 rfl (by kernel_rfl) (by simp [Tryd.ntmps23]) ?_
  intro X hX
  have hnt : X.nt = 31 := hX
  clear hX
  have hN : ((stE H l n m).getD (0 + 72) E.dflt).int = n := by
    rw [st_N _ _ hl]
    rfl
  have hM : ((stE H l n m).getD (0 + 73) E.dflt).int = m := by
    rw [st_L _ _ hl]
    rfl
  repeat' (first | refine tr_seq ?_ | refine reg (T := tab) tOk hnt rfl ?_ ?_ | refine regD (T := tab) tOk mixedR hnt rfl (by decide +kernel) ?_ ?_ | refine tr_block ?_ | refine tr_skip ?_)
  · (dsimp only [AllP]; (repeat' first | exact trivial | assumption | exact Nat.le_of_ble_eq_true rfl | apply And.intro | intro _ | exact rfl))
  · (dsimp only [AllP]; (repeat' first | exact trivial | exact rfl | exact (st_okN H l hl n m) | exact (st_okL H l hl n m) | apply And.intro | exact (show (64 : Int) ≠ 0 by decide) | intro _ | assumption | decide))
  rw [hM, hN]
  have hcond := condB n m
  refine tr_cond rfl (fun hc => ?_) (fun hc => ?_)
  · have hc := (condB n m).symm.trans hc
    have hbad : sOk l n m = false := by
      cases hq : sOk l n m with
      | false => rfl
      | true =>
        obtain ⟨h0, h1, h2, _⟩ := sOk_of hq
        rw [decide_eq_true h0, decide_eq_true h1, decide_eq_true h2] at hc
        cases hc
    repeat' (first | refine tr_seq ?_ | refine reg (T := tab) tOk hnt rfl ?_ ?_ | refine regD (T := tab) tOk mixedR hnt rfl (by decide +kernel) ?_ ?_ | refine tr_block ?_ | refine tr_skip ?_)
    · exact trivial
    refine tr_ret ⟨.inr rfl, _, _, rfl, by trivial, ?_⟩
    rw [hbad]
    rfl
  have hc := (condB n m).symm.trans hc
  simp only [Bool.not_eq_false', Bool.and_eq_true, decide_eq_true_eq] at hc
  obtain ⟨h0, h1, h2⟩ := hc
  obtain ⟨n0, n1⟩ := sOk_mod h0 h1 h2
  obtain ⟨p, hnp⟩ : ∃ p : Nat, n = (p : Int) := ⟨n.toNat, by omega⟩
  have hp : n.toNat = p := by omega
  repeat' (first | refine tr_seq ?_ | refine tr_block ?_ | refine tr_skip ?_)
  refine reg (T := tab) tOk hnt rfl ?_ ?_
  · exact ⟨trivial, st_okN _ _ hl _ _, trivial⟩
  rw [hN]
  repeat' (first | refine tr_seq ?_ | refine tr_block ?_ | refine tr_skip ?_)
  refine tr_loop (σ := Nat) (fun i => St.of [(1, .one (.ptr 1 0 0)), (3, .v (.int .i64 i))] [(1, ⟨0, .box (.es (stE H l n m)), 0⟩)]) (fun i => p ≤ i ∧ i ≤ 64 ∧ ∀ j, p ≤ j → j < i → l.getD j 0 = 0) (fun i => 64 - i) p (le_of (ad := []) ⟨⟨rfl, rfl, rfl, rfl, rfl⟩, congrArg (fun z : Int => E.v (.int .i64 z)) hnp, trivial⟩ (memOk_box rfl rfl rfl trivial)) ⟨Nat.le_refl _, by omega, fun j a b => by omega⟩ ?_
  rintro i ⟨j1, j2, j3⟩
  repeat' (first | refine tr_seq ?_ | refine reg (T := tab) tOk hnt rfl ?_ ?_ | refine regD (T := tab) tOk mixedR hnt rfl (by decide +kernel) ?_ ?_ | refine tr_block ?_ | refine tr_skip ?_)
  · (dsimp only [AllP]; (repeat' first | exact trivial | assumption | exact Nat.le_of_ble_eq_true rfl | apply And.intro | intro _ | exact rfl))
  refine tr_cond rfl (fun hc => ?_) (fun hc => ?_)
  · have hc := of_decide_eq_true hc
    have hi : i < 64 := by omega
    have hv : ((stE H l n m).getD (0 + 8 + i * 1) E.dflt).int = ((l.getD i 0).toNat : Int) := by
      rw [st_held H l hl n m hi]
      rfl
    repeat' (first | refine tr_seq ?_ | refine tr_block ?_ | refine tr_skip ?_)
    refine reg (T := tab) tOk hnt rfl ?_ ?_
    · dsimp only [AllP]
      rw [Int.toNat_natCast]
      exact ⟨rfl, st_okHeld _ _ hl _ _ hi, ⟨Int.natCast_nonneg _, by omega⟩, trivial, trivial⟩
    rw [Int.toNat_natCast, hv]
    refine tr_cond rfl (fun hc => ?_) (fun hc => ?_)
    · have hc : ¬ (((l.getD i 0).toNat : Nat) : Int) = 0 := by simpa using hc
      have hbad : sOk l n m = false := by
        cases hq : sOk l n m with
        | false => rfl
        | true =>
          obtain ⟨_, _, _, h4⟩ := sOk_of hq
          have := h4 i (by omega) (by omega)
          rw [this] at hc
          exact absurd rfl hc
      repeat' (first | refine tr_seq ?_ | refine reg (T := tab) tOk hnt rfl ?_ ?_ | refine regD (T := tab) tOk mixedR hnt rfl (by decide +kernel) ?_ ?_ | refine tr_block ?_ | refine tr_skip ?_)
      · exact trivial
      refine tr_ret ⟨.inr rfl, _, _, rfl, by trivial, ?_⟩
      rw [hbad]
      rfl
    · have hc : (((l.getD i 0).toNat : Nat) : Int) = 0 := by simpa using hc
      have hz : l.getD i 0 = 0 := UInt8.toNat_inj.1 (by simpa using hc)
      repeat' (first | refine tr_seq ?_ | refine reg (T := tab) tOk hnt rfl ?_ ?_ | refine regD (T := tab) tOk mixedR hnt rfl (by decide +kernel) ?_ ?_ | refine tr_block ?_ | refine tr_skip ?_)
      · (dsimp only [AllP]; (repeat' first | exact trivial | assumption | exact Nat.le_of_ble_eq_true rfl | apply And.intro | intro _ | exact rfl))
      refine ⟨i + 1, ⟨by omega, by omega, fun j a b => ?_⟩, by omega, le_of (ad := []) ⟨⟨rfl, rfl, rfl, rfl, rfl⟩, congrArg (fun z : Int => E.v (.int .i64 z)) (wrap64_id (by omega) (by omega)), trivial⟩ (memOk_box rfl rfl rfl trivial)⟩
      rcases Nat.lt_or_ge j i with h | h
      · exact j3 j a h
      · rw [show j = i by omega]
        exact hz
  have hc := of_decide_eq_false hc
  have hgood : sOk l n m = true := sOk_mk h0 h1 h2 fun j a b => j3 j (by omega) (by omega)
  refine tr_exit ?_
  repeat' (first | refine tr_seq ?_ | refine reg (T := tab) tOk hnt rfl ?_ ?_ | refine regD (T := tab) tOk mixedR hnt rfl (by decide +kernel) ?_ ?_ | refine tr_block ?_ | refine tr_skip ?_)
  · exact trivial
  refine tr_ret ⟨.inr rfl, _, _, rfl, by trivial, ?_⟩
  rw [hgood]
  rfl
set_option maxRecDepth 10000 in
theorem Add_fn (H : H8) (l : List UInt8) (n m : Int) (hl : l.length = 64) (b : List UInt8) : FnG Tryd.prog 10 gK [.agg (.es (stE H l n m)), .one (.e (eBytes b))] (rAdd (addF H l n m b)) := by
  refine fn_introG (T := tab) tOk Tryd.func10 rfl (by kernel_rfl) (by simp [Tryd.ntmps10]) ?_
  intro X hX
  have hnt : X.nt = 23 := hX
  clear hX
  have hL := st_len H l hl n m
  have hfit := st_fit H l hl n m (k := 0 + 74) (by decide)
  have hck : FnD Tryd.prog 23 [.agg (.es (List.take 74 (List.drop 0 (stE H l n m))))] (.v (.int .i64 (bif sOk l n m then 0 else 11))) := by
    rw [all_of _ _ hL]
    exact check_fn H l n m hl
  have hM : ((stE H l n m).getD (0 + 73) E.dflt).int = m := by
    rw [st_L _ _ hl]
    rfl
  repeat' (first | refine tr_seq ?_ | refine reg (T := tab) tOk hnt rfl ?_ ?_ | refine regD (T := tab) tOk mixedR hnt rfl (by decide +kernel) ?_ ?_ | refine tr_block ?_ | refine tr_skip ?_)
  · (dsimp only [AllP]; (repeat' first | exact trivial | apply And.intro | exact Nat.le_of_ble_eq_true (by kernel_rfl) | decide | kernel_rfl | exact rfl))
  refine tr_region (lex (T := tab) tOk hnt rfl ?_ (call rfl rfl rfl rfl rfl rfl rfl hnt hck (lex (T := tab) tOk hnt rfl ?_ (Lex.nil _)))) ?_
  · exact hfit
  · exact trivial
  repeat' (first | refine tr_seq ?_ | refine reg (T := tab) tOk hnt rfl ?_ ?_ | refine regD (T := tab) tOk mixedR hnt rfl (by decide +kernel) ?_ ?_ | refine tr_block ?_ | refine tr_skip ?_)
  · exact ⟨rfl, trivial⟩
  cases hq : sOk l n m with
  | false =>
    refine tr_cond rfl (fun _ => ?_) (fun h => nomatch (show true = false from h))
    repeat' (first | refine tr_seq ?_ | refine reg (T := tab) tOk hnt rfl ?_ ?_ | refine regD (T := tab) tOk mixedR hnt rfl (by decide +kernel) ?_ ?_ | refine tr_block ?_ | refine tr_skip ?_)
    · (dsimp only [AllP]; (repeat' first | exact trivial | apply And.intro | exact Nat.le_of_ble_eq_true (by kernel_rfl) | decide | kernel_rfl | exact rfl))
    refine tr_ret ⟨.inr rfl, _, _, rfl, ⟨Nat.le_of_ble_eq_true (by kernel_rfl), trivial⟩, ?_⟩
    rw [addF, hq]
    kernel_rfl
  | true =>
    refine tr_cond rfl (fun h => nomatch (show false = true from h)) (fun _ => ?_)
    obtain ⟨e1, e2, e3, e4⟩ := sm_of hl hq H
    have hsub : IntKind.i64.wrap (1152921504606846976 - m) = 1152921504606846976 - m := wrap64_id (by omega) (by omega)
    repeat' (first | refine tr_seq ?_ | refine tr_block ?_ | refine tr_skip ?_)
    refine reg (T := tab) tOk hnt rfl ?_ ?_
    · exact ⟨rfl, rfl, st_okL _ _ hl _ _, trivial, trivial, trivial⟩
    rw [hM, hsub, eCells_length]
    refine tr_cond rfl (fun hc => ?_) (fun hc => ?_)
    · have hc := of_decide_eq_true hc
      repeat' (first | refine tr_seq ?_ | refine reg (T := tab) tOk hnt rfl ?_ ?_ | refine regD (T := tab) tOk mixedR hnt rfl (by decide +kernel) ?_ ?_ | refine tr_block ?_ | refine tr_skip ?_)
      · (dsimp only [AllP]; (repeat' first | exact trivial | apply And.intro | exact Nat.le_of_ble_eq_true (by kernel_rfl) | decide | kernel_rfl | exact rfl))
      refine tr_ret ⟨.inr rfl, _, _, rfl, ⟨Nat.le_of_ble_eq_true (by kernel_rfl), trivial⟩, ?_⟩
      rw [addF, hq, cond_true, if_pos hc]
      kernel_rfl
    · have hc := of_decide_eq_false hc
      have hfd : FnG Tryd.prog 21 gK [.agg (.es (List.take 74 (List.drop 0 (stE H l n m)))), .one (.e (eBytes b))] (.agg (.es (smE (feedF ⟨H, l.take n.toNat, m⟩ b)))) := by
        rw [all_of _ _ hL, e1]
        exact feed_fn _ b e2 (by show -4611686018427387904 ≤ m; omega) (by show m ≤ 4611686018427387904; omega) (by omega)
      have hr : (smE (feedF ⟨H, l.take n.toNat, m⟩ b)).length = 74 := smE_len _ (fold_held _ _ e2)
      repeat' (first | refine tr_seq ?_ | refine tr_block ?_ | refine tr_skip ?_)
      refine tr_region (lex (T := tab) tOk hnt rfl ?_ (callV rfl rfl rfl rfl rfl rfl rfl hnt rfl hfd (lex (T := tab) tOk hnt rfl ?_ (Lex.nil _)))) ?_
      · exact ⟨trivial, hfit⟩
      · refine ⟨trivial, ?_, Nat.le_of_ble_eq_true (by kernel_rfl), Nat.zero_le _⟩
        exact hr
      have hres : addF H l n m b = (feedF ⟨H, l.take n.toNat, m⟩ b, 0) := by rw [addF, hq, cond_true, if_neg hc]
      rw [hres]
      clear hres
      generalize feedF ⟨H, l.take n.toNat, m⟩ b = t at hr ⊢
      refine tr_le (s' := St.of [(4, .one (.ptr 4 0 0)), (5, .v (.int .i64 0))] [(4, ⟨0, .box (.es (smE t)), 0⟩)]) (le_of (ad := []) ⟨⟨rfl, rfl, rfl, rfl, rfl⟩, rfl, trivial⟩ (memOk_boxE rfl rfl (Eq.trans (b := List.take 0 (smE sZ) ++ smE t ++ List.drop (0 + 74) (smE sZ)) (by kernel_rfl) (put_all2 _ _ 74 sZ_len)) trivial)) ?_
      refine tr_ret ⟨.inr rfl, _, _, rfl, ⟨Nat.le_of_eq hr.symm, trivial⟩, ?_⟩
      exact congrArg (fun l => D.tup [(true, .es l), (false, .es [eI 0])]) (all_of _ 74 hr)
set_option maxRecDepth 10000 in
theorem End_fn (H : H8) (l : List UInt8) (n m : Int) (hl : l.length = 64) : FnG Tryd.prog 14 gK [.agg (.es (stE H l n m))] (rEnd (endR H l n m)) := by
  refine fn_introG (T := tab) tOk Tryd.func14 rfl (by kernel_rfl) (by simp [Tryd.ntmps14]) ?_
  intro X hX
  have hnt : X.nt = 13 := hX
  clear hX
  have hL := st_len H l hl n m
  have hfit := st_fit H l hl n m (k := 0 + 74) (by decide)
  have hck : FnD Tryd.prog 23 [.agg (.es (List.take 74 (List.drop 0 (stE H l n m))))] (.v (.int .i64 (bif sOk l n m then 0 else 11))) := by
    rw [all_of _ _ hL]
    exact check_fn H l n m hl
  repeat' (first | refine tr_seq ?_ | refine reg (T := tab) tOk hnt rfl ?_ ?_ | refine regD (T := tab) tOk mixedR hnt rfl (by decide +kernel) ?_ ?_ | refine tr_block ?_ | refine tr_skip ?_)
  · (dsimp only [AllP]; (repeat' first | exact trivial | apply And.intro | exact Nat.le_of_ble_eq_true (by kernel_rfl) | decide | kernel_rfl | exact rfl))
  refine tr_region (lex (T := tab) tOk hnt rfl ?_ (call rfl rfl rfl rfl rfl rfl rfl hnt hck (lex (T := tab) tOk hnt rfl ?_ (Lex.nil _)))) ?_
  · exact hfit
  · exact trivial
  repeat' (first | refine tr_seq ?_ | refine reg (T := tab) tOk hnt rfl ?_ ?_ | refine regD (T := tab) tOk mixedR hnt rfl (by decide +kernel) ?_ ?_ | refine tr_block ?_ | refine tr_skip ?_)
  · exact ⟨rfl, trivial⟩
  cases hq : sOk l n m with
  | false =>
    refine tr_cond rfl (fun _ => ?_) (fun h => nomatch (show true = false from h))
    repeat' (first | refine tr_seq ?_ | refine reg (T := tab) tOk hnt rfl ?_ ?_ | refine regD (T := tab) tOk mixedR hnt rfl (by decide +kernel) ?_ ?_ | refine tr_block ?_ | refine tr_skip ?_)
    · (dsimp only [AllP]; (repeat' first | exact trivial | apply And.intro | exact Nat.le_of_ble_eq_true (by kernel_rfl) | decide | kernel_rfl | exact rfl))
    refine tr_ret ⟨.inr rfl, _, _, rfl, ⟨Nat.le_of_ble_eq_true (by kernel_rfl), trivial⟩, ?_⟩
    rw [endR, hq]
    kernel_rfl
  | true =>
    refine tr_cond rfl (fun h => nomatch (show false = true from h)) (fun _ => ?_)
    obtain ⟨e1, e2, e3, e4⟩ := sm_of hl hq H
    have hfd : FnG Tryd.prog 20 gK [.agg (.es (List.take 74 (List.drop 0 (stE H l n m))))] (.agg (.es (bE (endF ⟨H, l.take n.toNat, m⟩)))) := by
      rw [all_of _ _ hL, e1]
      exact end_fn _ e2 e3 e4
    have hr : (bE (endF ⟨H, l.take n.toNat, m⟩)).length = 32 := by simp [bE, endF, outW_len]
    repeat' (first | refine tr_seq ?_ | refine tr_block ?_ | refine tr_skip ?_)
    refine tr_region (lex (T := tab) tOk hnt rfl ?_ (callV rfl rfl rfl rfl rfl rfl rfl hnt rfl hfd (lex (T := tab) tOk hnt rfl ?_ (Lex.nil _)))) ?_
    · exact hfit
    · refine ⟨trivial, ?_, Nat.le_of_ble_eq_true (by kernel_rfl), Nat.zero_le _⟩
      exact hr
    have hres : endR H l n m = (endF ⟨H, l.take n.toNat, m⟩, 0) := by rw [endR, hq, cond_true]
    rw [hres]
    clear hres
    generalize endF ⟨H, l.take n.toNat, m⟩ = o at hr ⊢
    refine tr_le (s' := St.of [(2, .one (.ptr 2 0 0)), (3, .v (.int .i64 0))] [(2, ⟨0, .box (.es (bE o)), 0⟩)]) (le_of (ad := []) ⟨⟨rfl, rfl, rfl, rfl, rfl⟩, rfl, trivial⟩ (memOk_boxE rfl rfl (Eq.trans (b := List.take 0 (bE z32) ++ bE o ++ List.drop (0 + 32) (bE z32)) (by kernel_rfl) (put_all2 _ _ 32 rfl)) trivial)) ?_
    refine tr_ret ⟨.inr rfl, _, _, rfl, ⟨Nat.le_of_eq hr.symm, trivial⟩, ?_⟩
    exact congrArg (fun l => D.tup [(true, .es l), (false, .es [eI 0])]) (all_of _ 32 hr)
end Go.Proofs.YtmicapdbgjafnaaDoor
