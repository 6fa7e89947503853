/- SHA-256 as the document has it: bytes added to a stream. No condition. -/
import Derived.Test.YtjpmghphkkhcjaaDoorTSh9
namespace Go.Proofs.YtjpmghphkkhcjaaDoor
open Go Go.RowKit Go.Proofs.YtjpmghphkkhcjaaDoor.Ab

theorem padB_step {r : List UInt8} (h : r.length < 64) {i : Nat} (hi : i < r.length) : (padB (r.take i)).set i (r.getD i 0) = padB (r.take (i + 1)) := by
  have hl : (r.take i).length = i := by
    rw [List.length_take]
    omega
  have := padB_set (l := r.take i) (by omega) (r.getD i 0)
  rw [hl, ← take_snocB r i hi] at this
  exact this
theorem feed_is (H : H8) (g : List UInt8) (m : Int) (b : List UInt8) (hg : g.length < 64) : feedF ⟨H, g, m⟩ b = ⟨blks H (g ++ b), (g ++ b).drop ((g ++ b).length - (g ++ b).length % 64), m + b.length⟩ := by
  have h := fold_law ⟨H, g, m + b.length⟩ b hg
  have hl := fold_len ⟨H, g, m + b.length⟩ b
  unfold feedF
  generalize (⟨H, g, m + b.length⟩ : Sm).fold b = t at h hl
  obtain ⟨a, c, d⟩ := t
  obtain ⟨h1, h2, _⟩ := h
  have h1 : a = blks H (g ++ b) := h1
  have h2 : c = (g ++ b).drop ((g ++ b).length - (g ++ b).length % 64) := h2
  have hl : d = m + b.length := hl
  rw [h1, h2, hl]
set_option maxRecDepth 10000 in
theorem Added_fn (H : H8) (l : List UInt8) (n m : Int) (hl : l.length = 64) (b : List UInt8) (hb : b.length ≤ 9223372036854775807) : FnD Tryd.prog 85 [.agg (.es (stE H l n m)), .one (.e (eBytes b))] (rAdd (addF H l n m b)) := by
  refine fn_intro (T := tab) tOk Tryd.func85 rfl (by kernel_rfl) (by simp [Tryd.ntmps85]) ?_
  intro X hX
  have hnt : X.nt = 59 := hX
  clear hX
  have hL := st_len H l hl n m
  have hfit := st_fit H l hl n m (k := 0 + 74) (by decide)
  have hck : FnD Tryd.prog 93 [.agg (.es (List.take 74 (List.drop 0 (stE H l n m))))] (.v (.bool (!sOk l n m))) := by
    rw [all_of _ _ hL]
    exact bad_fn H l n m hl
  have hM : ((stE H l n m).getD (0 + 73) E.dflt).int = m := by
    rw [st_L _ _ hl]
    rfl
  have hsub : IntKind.i64.wrap (1152921504606846976 - (b.length : Int)) = 1152921504606846976 - (b.length : Int) := wrap64_id (by omega) (by omega)
  repeat' (first | refine tr_seq ?_ | refine reg (T := tab) tOk hnt rfl ?_ ?_ | refine regD (T := tab) tOk mixedR hnt rfl (by decide +kernel) ?_ ?_ | refine tr_block ?_ | refine tr_skip ?_)
  · (dsimp only [AllP]; (repeat' first | exact trivial | apply And.intro | exact Nat.le_of_ble_eq_true (by kernel_rfl) | decide | kernel_rfl | exact rfl))
  refine tr_region (lex (T := tab) tOk hnt rfl ?_ (call rfl rfl rfl rfl rfl rfl rfl hnt hck (lex (T := tab) tOk hnt rfl ?_ (Lex.nil _)))) ?_
  · exact hfit
  · exact trivial
  cases hq : sOk l n m with
  | false =>
    refine tr_cond rfl (fun _ => ?_) (fun h => nomatch (show true = false from h))
    repeat' (first | refine tr_seq ?_ | refine reg (T := tab) tOk hnt rfl ?_ ?_ | refine regD (T := tab) tOk mixedR hnt rfl (by decide +kernel) ?_ ?_ | refine tr_block ?_ | refine tr_skip ?_)
    · (dsimp only [AllP]; (repeat' first | exact trivial | apply And.intro | exact Nat.le_of_ble_eq_true (by kernel_rfl) | decide | kernel_rfl | exact rfl))
    refine tr_ret ⟨.inr rfl, _, _, rfl, ⟨Nat.le_of_ble_eq_true (by kernel_rfl), trivial⟩, ?_⟩
    rw [addF, hq]
    kernel_rfl
  | true =>
    refine tr_cond rfl (fun h => nomatch (show false = true from h)) (fun _ => ?_)
    obtain ⟨e1, e2, e3, e4⟩ := sm_of hl hq H
    obtain ⟨_, _, h2, _⟩ := sOk_of hq
    obtain ⟨n0, n1⟩ := sOk_mod e3 e4 h2
    repeat' (first | refine tr_seq ?_ | refine tr_block ?_ | refine tr_skip ?_)
    refine reg (T := tab) tOk hnt rfl ?_ ?_
    · exact ⟨rfl, rfl, trivial, trivial, st_okL _ _ hl _ _, trivial⟩
    rw [hM, eCells_length, hsub]
    refine tr_cond rfl (fun hc => ?_) (fun hc => ?_)
    · have hc := of_decide_eq_true hc
      repeat' (first | refine tr_seq ?_ | refine reg (T := tab) tOk hnt rfl ?_ ?_ | refine regD (T := tab) tOk mixedR hnt rfl (by decide +kernel) ?_ ?_ | refine tr_block ?_ | refine tr_skip ?_)
      · (dsimp only [AllP]; (repeat' first | exact trivial | apply And.intro | exact Nat.le_of_ble_eq_true (by kernel_rfl) | decide | kernel_rfl | exact rfl))
      refine tr_ret ⟨.inr rfl, _, _, rfl, ⟨Nat.le_of_ble_eq_true (by kernel_rfl), trivial⟩, ?_⟩
      rw [addF, hq, cond_true, if_pos (by omega)]
      kernel_rfl
    have hc := of_decide_eq_false hc
    have hres : addF H l n m b = (feedF ⟨H, l.take n.toNat, m⟩ b, 0) := by rw [addF, hq, cond_true, if_neg (by omega)]
    rw [hres, feed_is H _ m b e2]
    clear hres hsub hck
    have hbl : b.length ≤ 1152921504606846976 := by omega
    have hh : FnD Tryd.prog 94 [.agg (.es (List.take 74 (List.drop 0 (stE H l n m))))] (.v (.string (strB (l.take n.toNat)))) := by
      rw [all_of _ _ hL]
      exact heldOf_fn H l n m hl n0 (by omega)
    repeat' (first | refine tr_seq ?_ | refine tr_block ?_ | refine tr_skip ?_)
    refine tr_draw (T := tab) tOk hnt mixedR (lexD (T := tab) rfl ?_ (callD rfl rfl rfl rfl rfl rfl rfl rfl hh (lexD (T := tab) rfl ?_ (.nil _)))) (by decide +kernel) ?_
    · exact hfit
    · dsimp only [AllP]
      refine ⟨trivial, ?_, eCells_isByte b, trivial⟩
      show (strB (l.take n.toNat)).size + (bytesOf (eCells b)).size ≤ maxLen
      rw [strB_of, strB_size, strB_size, maxLen]
      omega
    rw [strB_of, strB_app]
    generalize hgb : l.take n.toNat ++ b = a
    have hal : a.length ≤ 1152921504606847040 := by
      rw [← hgb, List.length_append]
      omega
    have hbk : FnD Tryd.prog 95 [.agg (.es (List.take 8 (List.drop (0 + 0) (stE H l n m)))), .v (.string (strB a))] (.agg (.es (hE (blks H a)))) := by
      rw [st_H H l hl]
      exact blocks_fn H a (by omega)
    generalize blks H a = K at hbk ⊢
    repeat' (first | refine tr_seq ?_ | refine tr_block ?_ | refine tr_skip ?_)
    refine tr_draw (T := tab) tOk hnt mixedR (lexD (T := tab) rfl ?_ (callD rfl rfl rfl rfl rfl rfl rfl rfl hbk (lexD (T := tab) rfl ?_ (.nil _)))) (by decide +kernel) ?_
    · exact ⟨trivial, st_fit _ _ hl _ _ (by decide), trivial⟩
    · (dsimp only [AllP]; (repeat' first | exact trivial | exact (st_okL H l hl n m) | apply And.intro | exact Nat.le_of_ble_eq_true (by kernel_rfl) | kernel_rfl))
    rw [hM, eCells_length]
    have hadd : IntKind.i64.wrap (m + (b.length : Int)) = m + (b.length : Int) := wrap64_id (by omega) (by omega)
    rw [hadd]
    generalize hM2 : m + (b.length : Int) = M
    refine tr_le (s' := St.of [(4, .one (.ptr 4 0 0)), (7, .one (.ptr 7 0 0)), (6, .v (.string (strB a)))] [(4, ⟨0, .box (.es (smE sZ)), 0⟩), (7, ⟨0, .box (.es (stE K zB 0 M)), 0⟩)]) (le_of (ad := []) ⟨⟨rfl, rfl, rfl, rfl, rfl⟩, ⟨rfl, rfl, rfl, rfl, rfl⟩, rfl, trivial⟩ (memOk_boxE rfl rfl (by kernel_rfl) (memOk_boxE rfl rfl (by kernel_rfl) trivial))) ?_
    clear hh hbk hM hadd e1 hfit hL
    have hL1 : Int.tmod (a.length : Int) 64 = ((a.length % 64 : Nat) : Int) := by
      rw [Int.tmod_eq_emod_of_nonneg (Int.natCast_nonneg _)]
      rfl
    have hL2 : IntKind.i64.wrap ((a.length : Int) - ((a.length % 64 : Nat) : Int)) = ((a.length - a.length % 64 : Nat) : Int) := by
      rw [wrap64_id (by omega) (by omega)]
      omega
    repeat' (first | refine tr_seq ?_ | refine tr_block ?_ | refine tr_skip ?_)
    refine reg (T := tab) tOk hnt rfl ?_ ?_
    · dsimp only [AllP]
      rw [strB_size, hL1, hL2]
      exact ⟨trivial, ⟨Int.natCast_nonneg _, by omega, Int.le_refl _⟩, rfl, ⟨rfl, by decide⟩, trivial, trivial, trivial, trivial, trivial⟩
    rw [strB_size, hL1, hL2, Int.toNat_natCast, Int.toNat_natCast, strB_extract, List.take_length]
    have hrl : (a.drop (a.length - a.length % 64)).length < 64 := by
      rw [List.length_drop]
      omega
    generalize a.drop (a.length - a.length % 64) = r at hrl ⊢
    have hzl : zB.length = 64 := rfl
    repeat' (first | refine tr_seq ?_ | refine tr_block ?_ | refine tr_skip ?_)
    refine reg (T := tab) tOk hnt rfl ?_ ?_
    · exact ⟨⟨rfl, st_fit _ _ hzl _ _ (by decide), Nat.zero_le _⟩, trivial, trivial, trivial⟩
    rw [strB_size]
    repeat' (first | refine tr_seq ?_ | refine reg (T := tab) tOk hnt rfl ?_ ?_ | refine regD (T := tab) tOk mixedR hnt rfl (by decide +kernel) ?_ ?_ | refine tr_block ?_ | refine tr_skip ?_)
    · exact trivial
    refine tr_loop (σ := Nat) (fun i => St.of [(4, .one (.ptr 4 0 0)), (7, .one (.ptr 7 0 0)), (8, .v (.string (strB r))), (9, .v (.int .i64 i))] [(4, ⟨0, .box (.es (smE sZ)), 0⟩), (7, ⟨0, .box (.es (stE K (padB (r.take i)) r.length M)), 0⟩)]) (fun i => i ≤ r.length) (fun i => r.length - i) 0 (le_of (ad := []) ⟨⟨rfl, rfl, rfl, rfl, rfl⟩, ⟨rfl, rfl, rfl, rfl, rfl⟩, rfl, rfl, trivial⟩ (memOk_box rfl rfl rfl (memOk_boxE rfl rfl (st_setN K zB hzl 0 M _) trivial))) (Nat.zero_le _) ?_
    intro i hi
    have hpl : (padB (r.take i)).length = 64 := padB_len (by rw [List.length_take]; omega)
    repeat' (first | refine tr_seq ?_ | refine tr_block ?_ | refine tr_skip ?_)
    refine reg (T := tab) tOk hnt rfl ?_ ?_
    · exact ⟨rfl, trivial, trivial, trivial⟩
    rw [strB_size]
    refine tr_cond rfl (fun hc => ?_) (fun hc => ?_)
    · have hc := of_decide_eq_true hc
      have hir : i < r.length := by omega
      repeat' (first | refine tr_seq ?_ | refine tr_block ?_ | refine tr_skip ?_)
      refine reg (T := tab) tOk hnt rfl ?_ ?_
      · dsimp only [AllP]
        rw [Int.toNat_natCast]
        rw [strB_size]
        exact ⟨⟨rfl, st_fit _ _ hpl _ _ (by omega), Nat.zero_le _⟩, ⟨Int.natCast_nonneg _, by omega⟩, trivial, ⟨Int.natCast_nonneg _, by omega⟩, trivial, trivial, trivial⟩
      rw [Int.toNat_natCast, strB_list]
      repeat' (first | refine tr_seq ?_ | refine reg (T := tab) tOk hnt rfl ?_ ?_ | refine regD (T := tab) tOk mixedR hnt rfl (by decide +kernel) ?_ ?_ | refine tr_block ?_ | refine tr_skip ?_)
      · (dsimp only [AllP]; (repeat' first | exact trivial | assumption | exact Nat.le_of_ble_eq_true rfl | apply And.intro | intro _ | exact rfl))
      refine ⟨i + 1, hir, by omega, le_of (ad := []) ⟨⟨rfl, rfl, rfl, rfl, rfl⟩, ⟨rfl, rfl, rfl, rfl, rfl⟩, rfl, congrArg (fun z : Int => E.v (.int .i64 z)) (wrap64_id (by omega) (by omega)), trivial⟩ (memOk_box rfl rfl rfl (memOk_boxE rfl rfl ?_ trivial))⟩
      exact (st_setHeld K (padB (r.take i)) hpl r.length M (by omega) (r.getD i 0)).trans (by rw [padB_step hrl hir])
    have hc := of_decide_eq_false hc
    have hi : i = r.length := by omega
    subst hi
    rw [List.take_length] at hpl ⊢
    have hl74 : (stE K (padB r) r.length M).length = 74 := st_len _ _ hpl _ _
    refine tr_exit ?_
    repeat' (first | refine tr_seq ?_ | refine tr_block ?_ | refine tr_skip ?_)
    refine reg (T := tab) tOk hnt rfl ?_ ?_
    · refine ⟨trivial, ⟨?_, Nat.le_of_ble_eq_true (by kernel_rfl), Nat.zero_le _⟩, st_fit _ _ hpl _ _ (by decide)⟩
      show (List.take 74 (List.drop 0 (stE K (padB r) r.length M))).length = 74
      rw [all_of _ _ hl74, hl74]
    refine tr_le (s' := St.of [(4, .one (.ptr 4 0 0)), (5, .v (.int .i64 0))] [(4, ⟨0, .box (.es (stE K (padB r) r.length M)), 0⟩)]) (le_of (ad := []) ⟨⟨rfl, rfl, rfl, rfl, rfl⟩, rfl, trivial⟩ (memOk_boxE rfl rfl (put_all _ _ 74 hl74 sZ_len) trivial)) ?_
    refine tr_ret ⟨.inr rfl, _, _, rfl, ⟨Nat.le_of_eq hl74.symm, trivial⟩, ?_⟩
    exact congrArg (fun l => D.tup [(true, .es l), (false, .es [eI 0])]) (all_of _ 74 hl74)
/-- the words' bytes, as the document joins them -/
def outB (H : H8) : List UInt8 := (H.l.map fun x => bigF x.toNat 4).flatten
theorem big4 (x : W) : bigF x.toNat 4 = [UInt8.ofNat ((x >>> 24).toNat), UInt8.ofNat ((x >>> 16).toNat), UInt8.ofNat ((x >>> 8).toNat), UInt8.ofNat ((x >>> 0).toNat)] := by
  simp only [BitVec.toNat_ushiftRight, Nat.shiftRight_eq_div_pow]
  show [UInt8.ofNat (x.toNat / 256 / 256 / 256), UInt8.ofNat (x.toNat / 256 / 256), UInt8.ofNat (x.toNat / 256), UInt8.ofNat x.toNat] = _
  simp [Nat.div_div_eq_div_mul]
theorem outB_eq (H : H8) : outB H = outW H := by
  unfold outB H8.l
  simp only [List.map_cons, List.map_nil, big4, List.flatten_cons, List.flatten_nil]
  rfl
theorem fold_H (s : Sm) (t : List UInt8) (hs : s.held.length < 64) : (s.fold t).H = blks s.H (s.held ++ t) := (fold_law s t hs).1
end Go.Proofs.YtjpmghphkkhcjaaDoor
