/- SHA-256 as the document has it: the end of a stream; the laws of package sum. No condition. -/
import Derived.Test.YtjpmghphkkhcjaaDoorTSh10
namespace Go.Proofs.YtjpmghphkkhcjaaDoor
open Go Go.RowKit Go.Proofs.YtjpmghphkkhcjaaDoor.Ab

def preB (K : H8) (i : Nat) : List UInt8 := ((K.l.take i).map fun x => bigF x.toNat 4).flatten
theorem preB_succ (K : H8) {i : Nat} (h : i < 8) : preB K (i + 1) = preB K i ++ bigF (K.l.getD i 0).toNat 4 := by
  have hl : i < K.l.length := h
  unfold preB
  have e : K.l.getD i 0 = K.l[i] := by simp [List.getD, hl]
  rw [List.take_succ_eq_append_getElem hl, e]
  simp only [List.map_append, List.map_cons, List.map_nil, List.flatten_append, List.flatten_cons, List.flatten_nil, List.append_nil]
theorem preB_len (K : H8) : ∀ i, i ≤ 8 → (preB K i).length = 4 * i
  | 0, _ => rfl
  | i + 1, h => by
    rw [preB_succ K (by omega), List.length_append, preB_len K i (by omega), bigF_len]
    omega
theorem preB_all (K : H8) : preB K 8 = outW K := (outB_eq K)
theorem getW1 (l : List W) {i : Nat} (h : i < l.length) : (wE l).getD (i * 1) E.dflt = eW (l.getD i 0) := by
  rw [Nat.mul_one]
  simp [wE, h]
theorem okW1 (l : List W) {i : Nat} (h : i < l.length) : i * 1 < (Cs.es (wE l)).len ∧ D0.isA (.int .u32) ((Cs.es (wE l)).at (i * 1)) := by
  refine ⟨?_, ?_⟩
  · show i * 1 < (wE l).length
    simp [wE, h]
  · show E.as (.int .u32) ((wE l).getD (i * 1) E.dflt) = (wE l).getD (i * 1) E.dflt
    rw [getW1 l h]
    rfl
theorem u64_w (x : W) : IntKind.u64.wrap (x.toNat : Int) = (x.toNat : Int) := by
  have := x.isLt
  unfold IntKind.wrap
  simp [IntKind.bits, IntKind.signed]
  omega
set_option maxRecDepth 10000 in
theorem ended_fn (s : Sm) (hs : s.held.length < 64) (h1 : 0 ≤ s.len) (h2 : s.len ≤ 1152921504606846976) : FnD Tryd.prog 87 [.agg (.es (smE s))] (.agg (.es (bE (endF s)))) := by
  refine fn_intro (T := tab) tOk Tryd.func87 rfl (by kernel_rfl) (by simp [Tryd.ntmps87]) ?_
  intro X hX
  have hnt : X.nt = 49 := hX
  clear hX
  have hp := padB_len (Nat.le_of_lt hs)
  have hL : (smE s).length = 74 := smE_len s hs
  have hfit := smE_fit s hs
  have hM : ((smE s).getD (0 + 73) E.dflt).int = s.len := by
    unfold smE
    rw [st_L _ _ hp]
    rfl
  have hh : FnD Tryd.prog 94 [.agg (.es (List.take 74 (List.drop 0 (smE s))))] (.v (.string (strB s.held))) := by
    rw [all_of _ _ hL]
    have := heldOf_fn s.H (padB s.held) s.held.length s.len hp (Int.natCast_nonneg _) (by omega)
    rw [Int.toNat_natCast] at this
    unfold padB at this
    rw [List.take_left' rfl] at this
    exact this
  repeat' (first | refine tr_seq ?_ | refine reg (T := tab) tOk hnt rfl ?_ ?_ | refine regD (T := tab) tOk mixedR hnt rfl (by decide +kernel) ?_ ?_ | refine tr_block ?_ | refine tr_skip ?_)
  · (dsimp only [AllP]; (repeat' first | exact trivial | apply And.intro | exact Nat.le_of_ble_eq_true (by kernel_rfl) | decide | kernel_rfl | exact rfl))
  refine tr_region (lex (T := tab) tOk hnt rfl ?_ (call rfl rfl rfl rfl rfl rfl rfl hnt hh (lex (T := tab) tOk hnt rfl ?_ (Lex.nil _)))) ?_
  · exact hfit
  · refine ⟨trivial, ?_⟩
    show (strB s.held).size + 1 ≤ maxLen
    rw [strB_size, maxLen]
    omega
  refine tr_le (s' := St.of [(1, .one (.ptr 1 0 0)), (2, .one (.ptr 2 0 0)), (3, .v (.string (strB (s.held ++ 128 :: List.replicate 0 0))))] [(1, ⟨0, .box (.es (smE s)), 0⟩), (2, ⟨0, .box (.es (bE z32)), 0⟩)]) (le_of (ad := []) ⟨⟨rfl, rfl, rfl, rfl, rfl⟩, ⟨rfl, rfl, rfl, rfl, rfl⟩, congrArg (fun z => E.v (.string z)) (strB_app s.held [128]), trivial⟩ (memOk_boxE rfl rfl rfl (memOk_boxE rfl rfl (by kernel_rfl) trivial))) ?_
  clear hh
  have hz := padZ_law (s.held.length + 1)
  repeat' (first | refine tr_seq ?_ | refine tr_block ?_ | refine tr_skip ?_)
  refine tr_loop (σ := Nat) (fun k => St.of [(1, .one (.ptr 1 0 0)), (2, .one (.ptr 2 0 0)), (3, .v (.string (strB (s.held ++ 128 :: List.replicate k 0))))] [(1, ⟨0, .box (.es (smE s)), 0⟩), (2, ⟨0, .box (.es (bE z32)), 0⟩)]) (fun k => k ≤ padZ (s.held.length + 1)) (fun k => padZ (s.held.length + 1) - k) 0 (le_of (ad := []) ⟨⟨rfl, rfl, rfl, rfl, rfl⟩, ⟨rfl, rfl, rfl, rfl, rfl⟩, rfl, trivial⟩ (memOk_box rfl rfl rfl (memOk_box rfl rfl rfl trivial))) (Nat.zero_le _) ?_
  intro k hk
  have hsz : (strB (s.held ++ 128 :: List.replicate k 0)).size = s.held.length + 1 + k := by
    rw [strB_size, List.length_append, List.length_cons, List.length_replicate]
    omega
  have hmod : Int.tmod ((s.held.length + 1 + k : Nat) : Int) 64 = (((s.held.length + 1 + k) % 64 : Nat) : Int) := by
    rw [Int.tmod_eq_emod_of_nonneg (Int.natCast_nonneg _)]
    rfl
  repeat' (first | refine tr_seq ?_ | refine tr_block ?_ | refine tr_skip ?_)
  refine reg (T := tab) tOk hnt rfl ?_ ?_
  · exact ⟨rfl, ⟨rfl, by decide⟩, trivial, trivial⟩
  rw [hsz, hmod]
  refine tr_cond rfl (fun hc => ?_) (fun hc => ?_)
  · have hc : ¬ (((s.held.length + 1 + k) % 64 : Nat) : Int) = 56 := by simpa using hc
    have hkz := padZ_more (s.held.length + 1) k (by omega) hk
    repeat' (first | refine tr_seq ?_ | refine reg (T := tab) tOk hnt rfl ?_ ?_ | refine regD (T := tab) tOk mixedR hnt rfl (by decide +kernel) ?_ ?_ | refine tr_block ?_ | refine tr_skip ?_)
    · refine ⟨trivial, ?_, trivial⟩
      show (strB (s.held ++ 128 :: List.replicate k 0)).size + 1 ≤ maxLen
      rw [hsz, maxLen]
      omega
    refine ⟨k + 1, hkz, by omega, le_of (ad := []) ⟨⟨rfl, rfl, rfl, rfl, rfl⟩, ⟨rfl, rfl, rfl, rfl, rfl⟩, ?_, trivial⟩ (memOk_box rfl rfl rfl (memOk_box rfl rfl rfl trivial))⟩
    refine congrArg (fun z => E.v (.string z)) ((strB_app _ [0]).trans ?_)
    rw [List.append_assoc, List.cons_append, ← List.replicate_succ']
  have hc : (((s.held.length + 1 + k) % 64 : Nat) : Int) = 56 := by simpa using hc
  have hkz := padZ_only (s.held.length + 1) k (by omega) hk
  subst hkz
  clear hmod hc hk
  refine tr_exit ?_
  have hbig : FnD Tryd.prog 92 [.v (.int .u64 (IntKind.u64.wrap (IntKind.u64.wrap ((smE s).getD (0 + 73) E.dflt).int * 8))), .one (.e (.v (.int .i64 8)))] (.v (.string (strB (bigF (8 * s.len.toNat) 8)))) := by
    rw [hM, u64_len s.len h1 h2]
    exact big_fn _ 8 (by decide)
  have hall : s.held ++ 128 :: List.replicate (padZ (s.held.length + 1)) 0 ++ bigF (8 * s.len.toNat) 8 = s.held ++ tailB s := by
    unfold tailB
    rw [List.append_assoc, List.cons_append]
  have hbl : FnD Tryd.prog 95 [.agg (.es (List.take 8 (List.drop (0 + 0) (smE s)))), .v (.string (strB (s.held ++ 128 :: List.replicate (padZ (s.held.length + 1)) 0) ++ strB (bigF (8 * s.len.toNat) 8)))] (.agg (.es (hE (s.fold (tailB s)).H))) := by
    rw [strB_app, hall, fold_H s _ hs]
    unfold smE
    rw [st_H _ _ hp]
    refine blocks_fn s.H _ ?_
    rw [← hall, List.length_append, bigF_len, List.length_append, List.length_cons, List.length_replicate]
    omega
  rw [show endF s = outW (s.fold (tailB s)).H from rfl]
  generalize (s.fold (tailB s)).H = K at hbl ⊢
  repeat' (first | refine tr_seq ?_ | refine tr_block ?_ | refine tr_skip ?_)
  refine tr_draw (T := tab) tOk hnt mixedR (lexD (T := tab) rfl ?_ (callD rfl rfl rfl rfl rfl rfl rfl rfl hbig (lexD (T := tab) rfl ?_ (callD rfl rfl rfl rfl rfl rfl rfl rfl hbl (lexD (T := tab) rfl ?_ (.nil _)))))) (by decide +kernel) ?_
  · exact ⟨rfl, trivial, st_okL _ _ hp _ _, trivial, trivial, st_fit _ _ hp _ _ (by decide), trivial⟩
  · show (strB (s.held ++ 128 :: List.replicate (padZ (s.held.length + 1)) 0)).size + (strB (bigF (8 * s.len.toNat) 8)).size ≤ maxLen
    rw [hsz, strB_size, bigF_len, maxLen]
    omega
  · (dsimp only [AllP]; (repeat' first | exact trivial | apply And.intro | exact Nat.le_of_ble_eq_true (by kernel_rfl) | decide | kernel_rfl | exact rfl))
  refine tr_le (s' := St.of [(1, .one (.ptr 1 0 0)), (2, .one (.ptr 2 0 0)), (4, .one (.ptr 4 0 0))] [(1, ⟨0, .box (.es (smE s)), 0⟩), (2, ⟨0, .box (.es (bE z32)), 0⟩), (4, ⟨0, .box (.es (hE K)), 0⟩)]) (le_of (ad := []) ⟨⟨rfl, rfl, rfl, rfl, rfl⟩, ⟨rfl, rfl, rfl, rfl, rfl⟩, ⟨rfl, rfl, rfl, rfl, rfl⟩, trivial⟩ (memOk_box rfl rfl rfl (memOk_box rfl rfl rfl (memOk_boxE rfl rfl (by kernel_rfl) trivial)))) ?_
  clear hsz hbig hall hbl hz
  repeat' (first | refine tr_seq ?_ | refine reg (T := tab) tOk hnt rfl ?_ ?_ | refine regD (T := tab) tOk mixedR hnt rfl (by decide +kernel) ?_ ?_ | refine tr_block ?_ | refine tr_skip ?_)
  · exact trivial
  · exact ⟨trivial, Nat.le_of_ble_eq_true rfl⟩
  refine tr_loop (σ := Nat) (fun i => St.of [(1, .one (.ptr 1 0 0)), (2, .one (.ptr 2 0 0)), (5, .v (.string (strB (preB K i)))), (29, .agg (.es (hE K))), (30, .v (.int .i64 i))] [(1, ⟨0, .box (.es (smE s)), 0⟩), (2, ⟨0, .box (.es (bE z32)), 0⟩)]) (fun i => i ≤ 8) (fun i => 8 - i) 0 (le_of (ad := []) ⟨⟨rfl, rfl, rfl, rfl, rfl⟩, ⟨rfl, rfl, rfl, rfl, rfl⟩, rfl, all_of (hE K) 8 rfl, rfl, trivial⟩ (memOk_box rfl rfl rfl (memOk_box rfl rfl rfl trivial))) (Nat.zero_le _) ?_
  intro i hi
  have hpl := preB_len K i hi
  repeat' (first | refine tr_seq ?_ | refine reg (T := tab) tOk hnt rfl ?_ ?_ | refine regD (T := tab) tOk mixedR hnt rfl (by decide +kernel) ?_ ?_ | refine tr_block ?_ | refine tr_skip ?_)
  · (dsimp only [AllP]; (repeat' first | exact trivial | assumption | exact Nat.le_of_ble_eq_true rfl | apply And.intro | intro _ | exact rfl))
  refine tr_cond rfl (fun hc => ?_) (fun hc => ?_)
  · have hc := of_decide_eq_true hc
    have hi8 : i < 8 := by omega
    have hw : ((hE K).getD (i * 1) E.dflt).int = ((K.l.getD i 0).toNat : Int) := by
      show ((wE K.l).getD (i * 1) E.dflt).int = _
      rw [getW1 K.l hi8]
      rfl
    have hb4 : FnD Tryd.prog 92 [.v (.int .u64 (IntKind.u64.wrap ((K.l.getD i 0).toNat : Int))), .one (.e (.v (.int .i64 4)))] (.v (.string (strB (bigF (K.l.getD i 0).toNat 4)))) := by
      rw [u64_w]
      exact big_fn _ 4 (by decide)
    repeat' (first | refine tr_seq ?_ | refine tr_block ?_ | refine tr_skip ?_)
    refine reg (T := tab) tOk hnt rfl ?_ ?_
    · dsimp only [AllP]
      rw [Int.toNat_natCast]
      exact ⟨trivial, Int.natCast_nonneg _, by omega, okW1 K.l hi8⟩
    rw [Int.toNat_natCast, hw]
    repeat' (first | refine tr_seq ?_ | refine tr_block ?_ | refine tr_skip ?_)
    refine tr_region (lex (T := tab) tOk hnt rfl ?_ (call rfl rfl rfl rfl rfl rfl rfl hnt hb4 (lex (T := tab) tOk hnt rfl ?_ (Lex.nil _)))) ?_
    · exact ⟨trivial, trivial, trivial⟩
    · refine ⟨trivial, ?_⟩
      show (strB (preB K i)).size + (strB (bigF (K.l.getD i 0).toNat 4)).size ≤ maxLen
      rw [strB_size, strB_size, bigF_len, hpl, maxLen]
      omega
    rw [strB_app, ← preB_succ K hi8]
    repeat' (first | refine tr_seq ?_ | refine reg (T := tab) tOk hnt rfl ?_ ?_ | refine regD (T := tab) tOk mixedR hnt rfl (by decide +kernel) ?_ ?_ | refine tr_block ?_ | refine tr_skip ?_)
    · (dsimp only [AllP]; (repeat' first | exact trivial | assumption | exact Nat.le_of_ble_eq_true rfl | apply And.intro | intro _ | exact rfl))
    exact ⟨i + 1, hi8, by omega, le_of (ad := []) ⟨⟨rfl, rfl, rfl, rfl, rfl⟩, ⟨rfl, rfl, rfl, rfl, rfl⟩, rfl, rfl, congrArg (fun z : Int => E.v (.int .i64 z)) (wrap64_id (by omega) (by omega)), trivial⟩ (memOk_box rfl rfl rfl (memOk_box rfl rfl rfl trivial))⟩
  have hc := of_decide_eq_false hc
  have hi : i = 8 := by omega
  subst hi
  rw [preB_all]
  clear hpl hc
  have hol := outW_len K
  generalize outW K = o at hol ⊢
  refine tr_exit ?_
  repeat' (first | refine tr_seq ?_ | refine reg (T := tab) tOk hnt rfl ?_ ?_ | refine regD (T := tab) tOk mixedR hnt rfl (by decide +kernel) ?_ ?_ | refine tr_block ?_ | refine tr_skip ?_)
  · exact trivial
  · exact trivial
  refine tr_loop (σ := Nat) (fun i => St.of [(1, .one (.ptr 1 0 0)), (2, .one (.ptr 2 0 0)), (5, .v (.string (strB o))), (8, .one (.ptr 8 0 0)), (39, .v (.int .i64 i))] [(1, ⟨0, .box (.es (smE s)), 0⟩), (2, ⟨0, .box (.es (bE z32)), 0⟩), (8, ⟨0, .box (.es (bE (pad32 (o.take i)))), 0⟩)]) (fun i => i ≤ 32) (fun i => 32 - i) 0 (le_of (ad := []) ⟨⟨rfl, rfl, rfl, rfl, rfl⟩, ⟨rfl, rfl, rfl, rfl, rfl⟩, rfl, ⟨rfl, rfl, rfl, rfl, rfl⟩, rfl, trivial⟩ (memOk_box rfl rfl rfl (memOk_box rfl rfl rfl (memOk_boxE rfl rfl (by kernel_rfl) trivial)))) (Nat.zero_le _) ?_
  intro i hi
  repeat' (first | refine tr_seq ?_ | refine reg (T := tab) tOk hnt rfl ?_ ?_ | refine regD (T := tab) tOk mixedR hnt rfl (by decide +kernel) ?_ ?_ | refine tr_block ?_ | refine tr_skip ?_)
  · (dsimp only [AllP]; (repeat' first | exact trivial | assumption | exact Nat.le_of_ble_eq_true rfl | apply And.intro | intro _ | exact rfl))
  refine tr_cond rfl (fun hc => ?_) (fun hc => ?_)
  · have hc := of_decide_eq_true hc
    have hi32 : i < 32 := by omega
    have htl : (o.take i).length = i := by
      rw [List.length_take]
      omega
    have hp32 := pad32_len (l := o.take i) (by omega)
    repeat' (first | refine tr_seq ?_ | refine tr_block ?_ | refine tr_skip ?_)
    refine reg (T := tab) tOk hnt rfl (by (dsimp only [AllP]; (repeat' first | exact trivial | assumption | exact Nat.le_of_ble_eq_true rfl | apply And.intro | intro _ | exact rfl))) ?_
    repeat' (first | refine tr_seq ?_ | refine tr_block ?_ | refine tr_skip ?_)
    refine reg (T := tab) tOk hnt rfl ?_ ?_
    · dsimp only [AllP]
      rw [Int.toNat_natCast, strB_size]
      exact ⟨⟨rfl, putB _ (by omega), Nat.zero_le _⟩, ⟨Int.natCast_nonneg _, by omega⟩, ⟨Int.natCast_nonneg _, by omega⟩, trivial, trivial, trivial⟩
    rw [Int.toNat_natCast, strB_list]
    repeat' (first | refine tr_seq ?_ | refine reg (T := tab) tOk hnt rfl ?_ ?_ | refine regD (T := tab) tOk mixedR hnt rfl (by decide +kernel) ?_ ?_ | refine tr_block ?_ | refine tr_skip ?_)
    · (dsimp only [AllP]; (repeat' first | exact trivial | assumption | exact Nat.le_of_ble_eq_true rfl | apply And.intro | intro _ | exact rfl))
    refine ⟨i + 1, hi32, by omega, le_of (ad := []) ⟨⟨rfl, rfl, rfl, rfl, rfl⟩, ⟨rfl, rfl, rfl, rfl, rfl⟩, rfl, ⟨rfl, rfl, rfl, rfl, rfl⟩, congrArg (fun z : Int => E.v (.int .i64 z)) (wrap64_id (by omega) (by omega)), trivial⟩ (memOk_box rfl rfl rfl (memOk_box rfl rfl rfl (memOk_boxE rfl rfl ?_ trivial)))⟩
    have e := pad32_step (o.take i) (by omega) (o.getD i 0)
    rw [htl, ← take_snocB o i (by omega)] at e
    exact e
  have hc := of_decide_eq_false hc
  have hi : i = 32 := by omega
  subst hi
  rw [List.take_of_length_le (Nat.le_of_eq hol), pad32_full hol]
  have hb32 : (bE o).length = 32 := by simp [bE, hol]
  have hz32 : (bE z32).length = 32 := rfl
  clear hc
  refine tr_exit ?_
  repeat' (first | refine tr_seq ?_ | refine tr_block ?_ | refine tr_skip ?_)
  refine reg (T := tab) tOk hnt rfl ?_ ?_
  · refine ⟨⟨?_, Nat.le_of_ble_eq_true rfl, Nat.zero_le _⟩, ?_⟩
    · show (List.take 32 (List.drop 0 (bE o))).length = 32
      rw [all_of _ _ hb32, hb32]
    · show 0 + 32 ≤ (bE o).length
      omega
  refine tr_le (s' := St.of [(2, .one (.ptr 2 0 0))] [(2, ⟨0, .box (.es (bE o)), 0⟩)]) (le_of (ad := []) ⟨⟨rfl, rfl, rfl, rfl, rfl⟩, trivial⟩ (memOk_boxE rfl rfl (put_all _ _ 32 hb32 hz32) trivial)) ?_
  refine tr_ret ⟨.inr rfl, _, _, rfl, ⟨?_, trivial⟩, ?_⟩
  · show 0 + 32 ≤ (bE o).length
    omega
  exact congrArg (fun l => D.agg (.es l)) (all_of _ 32 hb32)
end Go.Proofs.YtjpmghphkkhcjaaDoor
