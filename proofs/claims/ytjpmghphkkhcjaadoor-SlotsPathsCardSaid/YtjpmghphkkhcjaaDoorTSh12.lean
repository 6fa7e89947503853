/- Package sum: the laws SumSums, SumAdds, SumEnds answer true (the table of words given). No condition. -/
import Derived.Test.YtjpmghphkkhcjaaDoorTSh11
namespace Go.Proofs.YtjpmghphkkhcjaaDoor
open Go Go.RowKit Go.Proofs.YtjpmghphkkhcjaaDoor.Ab

theorem loadB (o : List UInt8) {i : Nat} (h : i < o.length) : ((Cs.es (bE o)).load ⟨1, 1, .int .u8, [.int .u8 0]⟩ (i * 1)).1 ∧ ((Cs.es (bE o)).load ⟨1, 1, .int .u8, [.int .u8 0]⟩ (i * 1)).2 = .one (.e (eB (o.getD i 0))) := by
  refine ⟨okB1 o h, ?_⟩
  show D.one (.e (E.as (.int .u8) ((bE o).getD (i * 1) E.dflt))) = _
  rw [getB1 o h]
  rfl
theorem loadW (o : List W) {i : Nat} (h : i < o.length) : ((Cs.es (wE o)).load ⟨1, 4, .int .u32, [.int .u32 0]⟩ (i * 1)).1 ∧ ((Cs.es (wE o)).load ⟨1, 4, .int .u32, [.int .u32 0]⟩ (i * 1)).2 = .one (.e (eW (o.getD i 0))) := by
  refine ⟨okW1 o h, ?_⟩
  show D.one (.e (E.as (.int .u32) ((wE o).getD (i * 1) E.dflt))) = _
  rw [getW1 o h]
  rfl
theorem eqD_arr {t n e sz b : Nat} {z : List Value} {ti : TI} (d : Nat) (ht : tab t = some ⟨sz, b, .arr n e, z⟩) (he : tab e = some ti) (c c' : Cs) : eqD tab (d + 1) t (.agg c) (.agg c') = (∀ i, i < n → (c.load ti (i * ti.size)).1 ∧ (c'.load ti (i * ti.size)).1 ∧ (eqD tab d e (c.load ti (i * ti.size)).2 (c'.load ti (i * ti.size)).2).1,
    (List.range n).all fun i => (eqD tab d e (c.load ti (i * ti.size)).2 (c'.load ti (i * ti.size)).2).2) := by
  conv =>
    lhs
    unfold eqD
  rw [ht]
  dsimp only
  rw [he]
theorem eqArrB {t n sz b : Nat} {z : List Value} (d : Nat) (ht : tab t = some ⟨sz, b, .arr n 5, z⟩) (o : List UInt8) (ho : o.length = n) : (eqD tab (d + 2) t (.agg (.es (bE o))) (.agg (.es (bE o)))).1 ∧ (eqD tab (d + 2) t (.agg (.es (bE o))) (.agg (.es (bE o)))).2 = true := by
  have h5 : tab 5 = some ⟨1, 1, .int .u8, [.int .u8 0]⟩ := rfl
  have he : ∀ c : UInt8, eqD tab (d + 1) 5 (.one (.e (eB c))) (.one (.e (eB c))) = (IntKind.u8 = IntKind.u8, (c.toNat : Int) == (c.toNat : Int)) := fun c => rfl
  rw [eqD_arr (d + 1) ht h5]
  dsimp only
  refine ⟨fun i hi => ?_, ?_⟩
  · obtain ⟨k1, k2⟩ := loadB o (i := i) (by omega)
    refine ⟨k1, k1, ?_⟩
    rw [k2, he]
  · refine List.all_eq_true.2 fun i hi => ?_
    obtain ⟨k1, k2⟩ := loadB o (i := i) (by have := List.mem_range.1 hi; omega)
    rw [k2, he]
    exact beq_self_eq_true _
theorem eqArrW {t n sz b : Nat} {z : List Value} (d : Nat) (ht : tab t = some ⟨sz, b, .arr n 93, z⟩) (o : List W) (ho : o.length = n) : (eqD tab (d + 2) t (.agg (.es (wE o))) (.agg (.es (wE o)))).1 ∧ (eqD tab (d + 2) t (.agg (.es (wE o))) (.agg (.es (wE o)))).2 = true := by
  have h5 : tab 93 = some ⟨1, 4, .int .u32, [.int .u32 0]⟩ := rfl
  have he : ∀ c : W, eqD tab (d + 1) 93 (.one (.e (eW c))) (.one (.e (eW c))) = (IntKind.u32 = IntKind.u32, (c.toNat : Int) == (c.toNat : Int)) := fun c => rfl
  rw [eqD_arr (d + 1) ht h5]
  dsimp only
  refine ⟨fun i hi => ?_, ?_⟩
  · obtain ⟨k1, k2⟩ := loadW o (i := i) (by omega)
    refine ⟨k1, k1, ?_⟩
    rw [k2, he]
  · refine List.all_eq_true.2 fun i hi => ?_
    obtain ⟨k1, k2⟩ := loadW o (i := i) (by have := List.mem_range.1 hi; omega)
    rw [k2, he]
    exact beq_self_eq_true _
theorem eq23 (o : List UInt8) (ho : o.length = 32) : (eqD tab 9 87 (.agg (.es (List.take 32 (List.drop 0 (bE o))))) (.agg (.es (List.take 32 (List.drop 0 (bE o)))))).1 ∧ (eqD tab 9 87 (.agg (.es (List.take 32 (List.drop 0 (bE o))))) (.agg (.es (List.take 32 (List.drop 0 (bE o)))))).2 = true := by
  rw [all_of (bE o) 32 (by simp [bE, ho])]
  exact eqArrB 7 rfl o ho
theorem add_s0 (b : List UInt8) (hb : b.length ≤ 1152921504606846976) : addF h0W zB 0 0 b = (feedF s0 b, 0) := by
  unfold addF
  rw [show sOk zB 0 0 = true from by decide, cond_true, if_neg (by omega)]
  rfl
set_option maxRecDepth 10000 in
theorem Summed_fn (b : List UInt8) (hb : b.length ≤ 1152921504606846976) : FnD Tryd.prog 79 [.one (.e (eBytes b))] (.agg (.es (bE (sumF b)))) := by
  refine fn_intro (T := tab) tOk Tryd.func79 rfl (by kernel_rfl) (by simp [Tryd.ntmps79]) ?_
  intro X hX
  have hnt : X.nt = 13 := hX
  clear hX
  have hA : FnD Tryd.prog 85 [.agg (.es (smE s0)), .one (.e (eBytes b))] (.tup [(true, .es (smE (feedF s0 b))), (false, .es [eI 0])]) := by
    have := Added_fn h0W zB 0 0 rfl b (by omega)
    rw [add_s0 b hb] at this
    exact this
  have hlen : (feedF s0 b).len = (b.length : Int) := by
    unfold feedF
    rw [fold_len]
    exact Int.zero_add _
  have hl74 : (smE (feedF s0 b)).length = 74 := smE_len _ (fold_held _ _ (show (0 : Nat) < 64 by decide))
  have hE : FnD Tryd.prog 87 [.agg (.es (List.take 74 (List.drop 0 (smE (feedF s0 b)))))] (.agg (.es (bE (sumF b)))) := by
    rw [all_of _ _ hl74]
    exact ended_fn (feedF s0 b) (fold_held _ _ (show (0 : Nat) < 64 by decide)) (by rw [hlen]; omega) (by rw [hlen]; omega)
  have hr : (bE (sumF b)).length = 32 := by simp [bE, sumF, endF, outW_len]
  clear hlen
  generalize feedF s0 b = t at hA hE hl74
  generalize sumF b = o at hE hr ⊢
  repeat' (first | refine tr_seq ?_ | refine reg (T := tab) tOk hnt rfl ?_ ?_ | refine regD (T := tab) tOk mixedR hnt rfl (by decide +kernel) ?_ ?_ | refine tr_block ?_ | refine tr_skip ?_)
  · (dsimp only [AllP]; (repeat' first | exact trivial | apply And.intro | exact Nat.le_of_ble_eq_true (by kernel_rfl) | decide | kernel_rfl | exact rfl))
  refine tr_region (lex (T := tab) tOk hnt rfl ?_ (call rfl rfl rfl rfl rfl rfl rfl hnt Begun_fn (lex (T := tab) tOk hnt rfl ?_ (call rfl rfl rfl rfl rfl rfl rfl hnt hA (lex (T := tab) tOk hnt rfl ?_ (Lex.nil _)))))) ?_
  · exact trivial
  · exact trivial
  · refine ⟨trivial, ⟨?_, Nat.le_of_ble_eq_true (by kernel_rfl), Nat.zero_le _⟩, trivial, rfl, trivial, trivial⟩
    exact hl74
  repeat' (first | refine tr_seq ?_ | refine tr_block ?_ | refine tr_skip ?_)
  refine tr_le (s' := St.of [(2, .one (.ptr 2 0 0)), (3, .one (.ptr 3 0 0))] [(2, ⟨0, .box (.es (bE z32)), 0⟩), (3, ⟨0, .box (.es (smE t)), 0⟩)]) (le_of (ad := []) ⟨⟨rfl, rfl, rfl, rfl, rfl⟩, ⟨rfl, rfl, rfl, rfl, rfl⟩, trivial⟩ (memOk_boxE rfl rfl (by kernel_rfl) (memOk_boxE rfl rfl (Eq.trans (b := List.take 0 (smE sZ) ++ smE t ++ List.drop (0 + 74) (smE sZ)) (by kernel_rfl) (put_all2 _ _ 74 sZ_len)) trivial))) ?_
  refine tr_region (lex (T := tab) tOk hnt rfl ?_ (call rfl rfl rfl rfl rfl rfl rfl hnt hE (lex (T := tab) tOk hnt rfl ?_ (Lex.nil _)))) ?_
  · exact Nat.le_of_eq hl74.symm
  · refine ⟨?_, Nat.le_of_ble_eq_true (by kernel_rfl), Nat.zero_le _⟩
    exact hr
  refine tr_le (s' := St.of [(2, .one (.ptr 2 0 0))] [(2, ⟨0, .box (.es (bE o)), 0⟩)]) (le_of (ad := []) ⟨⟨rfl, rfl, rfl, rfl, rfl⟩, trivial⟩ (memOk_boxE rfl rfl (put_all2 _ _ 32 rfl) trivial)) ?_
  refine tr_ret ⟨.inr rfl, _, _, rfl, ⟨Nat.le_of_eq hr.symm, trivial⟩, ?_⟩
  exact congrArg (fun l => D.agg (.es l)) (all_of _ 32 hr)
end Go.Proofs.YtjpmghphkkhcjaaDoor
