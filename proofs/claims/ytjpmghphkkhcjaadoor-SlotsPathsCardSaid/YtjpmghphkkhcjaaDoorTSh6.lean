/- SHA-256 as the program has it: bytes are fed into a stream. No condition. -/
import Derived.Test.YtjpmghphkkhcjaaDoorTSh5
namespace Go.Proofs.YtjpmghphkkhcjaaDoor
open Go Go.RowKit Go.Proofs.YtjpmghphkkhcjaaDoor.Ab

theorem all_of (L : List E) (n : Nat) (h : L.length = n) : List.take n (List.drop 0 L) = L := by
  rw [List.drop_zero, List.take_of_length_le (by omega)]
theorem put_all (O L : List E) (n : Nat) (h : L.length = n) (ho : O.length = n) : List.take 0 O ++ List.take n (List.drop 0 L) ++ List.drop (0 + n) O = L := by
  rw [all_of L n h, List.drop_of_length_le (by omega)]
  simp
def zB : List UInt8 := List.replicate 64 0
def gK : List (Nat × List E) := [(0, kE)]
theorem takeS (b : List UInt8) {k : Nat} (h : k < b.length) : b.take (k + 1) = b.take k ++ [b.getD k 0] := take_snocB b k h
theorem fold_snoc (s : Sm) (l : List UInt8) (c : UInt8) : s.fold (l ++ [c]) = (s.fold l).one c := by
  rw [fold_append]
  rfl
set_option maxRecDepth 10000 in
set_option maxHeartbeats 400000 in
theorem feed_fn (s : Sm) (b : List UInt8) (hs : s.held.length < 64) (h1 : -4611686018427387904 ≤ s.len) (h2 : s.len ≤ 4611686018427387904) (hb : b.length ≤ 2305843009213693952) : FnG Tryd.prog 90 gK [.agg (.es (smE s)), .one (.e (eBytes b))] (.agg (.es (smE (feedF s b)))) := by
  refine fn_introG (T := tab) tOk Tryd.func90 rfl (by kernel_rfl) (by simp [Tryd.ntmps90]) ?_
  intro X hX
  have hnt : X.nt = 42 := hX
  clear hX
  have hp := padB_len (Nat.le_of_lt hs)
  have hw : IntKind.i64.wrap (((smE s).getD (0 + 73) E.dflt).int + ((eCells b).length : Int)) = s.len + (b.length : Int) := by
    unfold smE
    rw [st_L _ _ hp, eCells_length]
    exact wrap64_id (show -9223372036854775808 ≤ s.len + (b.length : Int) by omega) (show s.len + (b.length : Int) ≤ 9223372036854775807 by omega)
  repeat' (first | refine tr_seq ?_ | refine reg (T := tab) tOk hnt rfl ?_ ?_ | refine regD (T := tab) tOk mixedR hnt rfl (by decide +kernel) ?_ ?_ | refine tr_block ?_ | refine tr_skip ?_)
  · (dsimp only [AllP]; (repeat' first | exact trivial | assumption | exact Nat.le_of_ble_eq_true rfl | apply And.intro | intro _ | exact rfl))
  · have k1 := st_okL s.H (padB s.held) hp s.held.length s.len
    have k2 := st_fit s.H (padB s.held) hp s.held.length s.len (k := 0 + 73 + 1) (by decide)
    exact ⟨⟨rfl, k2, Nat.zero_le _⟩, trivial, rfl, trivial, trivial, k1, trivial⟩
  · (dsimp only [AllP]; (repeat' first | exact trivial | assumption | exact Nat.le_of_ble_eq_true rfl | apply And.intro | intro _ | exact rfl))
  refine tr_loop (σ := Nat) (fun k => St.of [(2, .one (.ptr 2 0 0)), (4, .one (.ptr 4 0 0)), (13, .one (.e (eBytes b))), (14, .v (.int .i64 b.length)), (15, .v (.int .i64 k)), ((1000000 + 0), .one (.eptr kE))] [(2, ⟨0, .box (.es (smE ((⟨s.H, s.held, s.len + b.length⟩ : Sm).fold (b.take k)))), 0⟩), (4, ⟨0, .box (.es (stE hZ zB 0 0)), 0⟩)]) (fun k => k ≤ b.length) (fun k => b.length - k) 0 (le_of (ad := []) ⟨⟨rfl, rfl, rfl, rfl, rfl⟩, ⟨rfl, rfl, rfl, rfl, rfl⟩, rfl, congrArg (fun z : Nat => E.v (.int .i64 (z : Int))) (eCells_length b), rfl, rfl, trivial⟩ (memOk_boxE rfl rfl ?_ (memOk_boxE rfl rfl (by kernel_rfl) trivial))) (Nat.zero_le _) ?_
  · refine Eq.trans ?_ (st_setL s.H (padB s.held) hp s.held.length s.len (s.len + b.length))
    exact congrArg (fun z : Int => List.take (0 + 73) (smE s) ++ [E.v (.int .i64 z)] ++ List.drop (0 + 73 + 1) (smE s)) hw
  clear hw hp
  intro k hk
  have hF : ∃ t : Sm, (⟨s.H, s.held, s.len + b.length⟩ : Sm).fold (b.take k) = t ∧ Hd ((⟨s.H, s.held, s.len + b.length⟩ : Sm).fold (b.take k) = t) ∧ t.held.length < 64 := ⟨_, rfl, ⟨rfl⟩, fold_held _ _ hs⟩
  obtain ⟨t, e0, hF, ht⟩ := hF
  rw [e0]
  clear e0
  repeat' (first | refine tr_seq ?_ | refine reg (T := tab) tOk hnt rfl ?_ ?_ | refine regD (T := tab) tOk mixedR hnt rfl (by decide +kernel) ?_ ?_ | refine tr_block ?_ | refine tr_skip ?_)
  · (dsimp only [AllP]; (repeat' first | exact trivial | assumption | exact Nat.le_of_ble_eq_true rfl | apply And.intro | intro _ | exact rfl))
  refine tr_cond rfl (fun hc => ?_) (fun hc => ?_)
  · have hc := of_decide_eq_true hc
    have hkb : k < b.length := by omega
    have hF1 : Hd ((⟨s.H, s.held, s.len + b.length⟩ : Sm).fold (b.take (k + 1)) = t.one (b.getD k 0)) := ⟨by rw [takeS b hkb, fold_snoc, hF.out]⟩
    have hp := padB_len (Nat.le_of_lt ht)
    repeat' (first | refine tr_seq ?_ | refine tr_block ?_ | refine tr_skip ?_)
    refine reg (T := tab) tOk hnt rfl ?_ ?_
    · rw [Int.toNat_natCast]
      refine ⟨trivial, ⟨rdC b k hkb, rdA b k hkb⟩, Int.natCast_nonneg _, ?_, rdL b k hkb⟩
      rw [eCells_length]
      omega
    rw [Int.toNat_natCast, rdB b k hkb]
    generalize b.getD k 0 = c at hF1 ⊢
    have hn : ((smE t).getD (0 + 72) E.dflt).int = (t.held.length : Int) := by
      unfold smE
      rw [st_N _ _ hp]
      rfl
    repeat' (first | refine tr_seq ?_ | refine tr_block ?_ | refine tr_skip ?_)
    refine reg (T := tab) tOk hnt rfl ?_ ?_
    · dsimp only [AllP]
      rw [hn, Int.toNat_natCast]
      exact ⟨⟨rfl, st_fit _ _ hp _ _ (by omega), Nat.zero_le _⟩, ⟨Int.natCast_nonneg _, by omega⟩, trivial, trivial, st_okN _ _ hp _ _, trivial⟩
    rw [hn, Int.toNat_natCast]
    have hlp : (t.held ++ [c]).length = t.held.length + 1 := by rw [List.length_append]; rfl
    have hp1 : (padB (t.held ++ [c])).length = 64 := padB_len (by omega)
    refine tr_le (s' := St.of [(2, .one (.ptr 2 0 0)), (4, .one (.ptr 4 0 0)), (13, .one (.e (eBytes b))), (14, .v (.int .i64 b.length)), (15, .v (.int .i64 k)), ((1000000 + 0), .one (.eptr kE))] [(2, ⟨0, .box (.es (stE t.H (padB (t.held ++ [c])) t.held.length t.len)), 0⟩), (4, ⟨0, .box (.es (stE hZ zB 0 0)), 0⟩)]) (le_of (ad := []) ⟨⟨rfl, rfl, rfl, rfl, rfl⟩, ⟨rfl, rfl, rfl, rfl, rfl⟩, rfl, rfl, rfl, rfl, trivial⟩ (memOk_boxE rfl rfl ((st_setHeld t.H (padB t.held) hp t.held.length t.len ht c).trans (by rw [padB_set ht])) (memOk_box rfl rfl rfl trivial))) ?_
    clear hn
    generalize hq : padB (t.held ++ [c]) = q at hp1 ⊢
    have hn : ((stE t.H q t.held.length t.len).getD (0 + 72) E.dflt).int = (t.held.length : Int) := by
      rw [st_N _ _ hp1]
      rfl
    have hn1 : IntKind.i64.wrap ((t.held.length : Int) + 1) = ((t.held.length + 1 : Nat) : Int) := by rw [wrap64_id (by omega) (by omega)]; omega
    repeat' (first | refine tr_seq ?_ | refine tr_block ?_ | refine tr_skip ?_)
    refine reg (T := tab) tOk hnt rfl ?_ ?_
    · exact ⟨⟨rfl, st_fit _ _ hp1 _ _ (by decide), Nat.zero_le _⟩, trivial, rfl, st_okN _ _ hp1 _ _, trivial⟩
    rw [hn, hn1]
    refine tr_le (s' := St.of [(2, .one (.ptr 2 0 0)), (4, .one (.ptr 4 0 0)), (13, .one (.e (eBytes b))), (14, .v (.int .i64 b.length)), (15, .v (.int .i64 k)), ((1000000 + 0), .one (.eptr kE))] [(2, ⟨0, .box (.es (stE t.H q ((t.held.length + 1 : Nat) : Int) t.len)), 0⟩), (4, ⟨0, .box (.es (stE hZ zB 0 0)), 0⟩)]) (le_of (ad := []) ⟨⟨rfl, rfl, rfl, rfl, rfl⟩, ⟨rfl, rfl, rfl, rfl, rfl⟩, rfl, rfl, rfl, rfl, trivial⟩ (memOk_boxE rfl rfl (st_setN t.H q hp1 _ t.len _) (memOk_box rfl rfl rfl trivial))) ?_
    clear hn hn1
    have hn : ((stE t.H q ((t.held.length + 1 : Nat) : Int) t.len).getD (0 + 72) E.dflt).int = ((t.held.length + 1 : Nat) : Int) := by
      rw [st_N _ _ hp1]
      rfl
    repeat' (first | refine tr_seq ?_ | refine tr_block ?_ | refine tr_skip ?_)
    refine reg (T := tab) tOk hnt rfl ?_ ?_
    · exact ⟨rfl, st_okN _ _ hp1 _ _, trivial⟩
    rw [hn]
    refine tr_cond rfl (fun h6 => ?_) (fun h6 => ?_)
    · have h6 := of_decide_eq_true h6
      have h63 : t.held.length = 63 := by omega
      have hone : Hd (t.one c = ⟨comp t.H q, [], t.len⟩) := ⟨by
        unfold Sm.one
        rw [if_pos h63, ← hq, padB_full (by rw [hlp, h63])]⟩
      have hturn : FnG Tryd.prog 98 gK [.agg (.es (List.take 8 (List.drop (0 + 0) (stE t.H q ((t.held.length + 1 : Nat) : Int) t.len)))), .agg (.es (List.take 64 (List.drop (0 + 8) (stE t.H q ((t.held.length + 1 : Nat) : Int) t.len))))] (.agg (.es (hE (comp t.H q)))) := by
        rw [st_H, st_Held]
        · exact turn_fn t.H q hp1
        · exact hp1
        · exact hp1
      generalize comp t.H q = H1 at hone hturn
      repeat' (first | refine tr_seq ?_ | refine tr_block ?_ | refine tr_skip ?_)
      refine tr_region (lex (T := tab) tOk hnt rfl ?_ (callV rfl rfl rfl rfl rfl rfl rfl hnt rfl hturn (lex (T := tab) tOk hnt rfl ?_ (Lex.nil _)))) ?_
      · exact ⟨st_fit _ _ hp1 _ _ (by decide), trivial, st_fit _ _ hp1 _ _ (by decide), trivial⟩
      · exact ⟨⟨rfl, st_fit _ _ hp1 _ _ (by decide), Nat.zero_le _⟩, trivial⟩
      refine tr_le (s' := St.of [(2, .one (.ptr 2 0 0)), (4, .one (.ptr 4 0 0)), (13, .one (.e (eBytes b))), (14, .v (.int .i64 b.length)), (15, .v (.int .i64 k)), ((1000000 + 0), .one (.eptr kE))] [(2, ⟨0, .box (.es (stE H1 q ((t.held.length + 1 : Nat) : Int) t.len)), 0⟩), (4, ⟨0, .box (.es (stE hZ zB 0 0)), 0⟩)]) (le_of (ad := []) ⟨⟨rfl, rfl, rfl, rfl, rfl⟩, ⟨rfl, rfl, rfl, rfl, rfl⟩, rfl, rfl, rfl, rfl, trivial⟩ (memOk_boxE rfl rfl (st_setH t.H q hp1 _ t.len H1) (memOk_box rfl rfl rfl trivial))) ?_
      repeat' (first | refine tr_seq ?_ | refine tr_block ?_ | refine tr_skip ?_)
      refine reg (T := tab) tOk hnt rfl ?_ ?_
      · exact ⟨⟨rfl, st_fit _ _ hp1 _ _ (by decide), Nat.zero_le _⟩, trivial, trivial⟩
      refine tr_le (s' := St.of [(2, .one (.ptr 2 0 0)), (4, .one (.ptr 4 0 0)), (13, .one (.e (eBytes b))), (14, .v (.int .i64 b.length)), (15, .v (.int .i64 k)), ((1000000 + 0), .one (.eptr kE))] [(2, ⟨0, .box (.es (stE H1 zB ((t.held.length + 1 : Nat) : Int) t.len)), 0⟩), (4, ⟨0, .box (.es (stE hZ zB 0 0)), 0⟩)]) (le_of (ad := []) ⟨⟨rfl, rfl, rfl, rfl, rfl⟩, ⟨rfl, rfl, rfl, rfl, rfl⟩, rfl, rfl, rfl, rfl, trivial⟩ (memOk_boxE rfl rfl (Eq.trans (b := (stE H1 q ((t.held.length + 1 : Nat) : Int) t.len).take (0 + 8) ++ bE zB ++ (stE H1 q ((t.held.length + 1 : Nat) : Int) t.len).drop (0 + 8 + 64)) (by kernel_rfl) (st_setAll H1 q hp1 _ t.len zB)) (memOk_box rfl rfl rfl trivial))) ?_
      have hzl : zB.length = 64 := rfl
      repeat' (first | refine tr_seq ?_ | refine tr_block ?_ | refine tr_skip ?_)
      refine reg (T := tab) tOk hnt rfl ?_ ?_
      · exact ⟨⟨rfl, st_fit _ _ hzl _ _ (by decide), Nat.zero_le _⟩, trivial⟩
      repeat' (first | refine tr_seq ?_ | refine reg (T := tab) tOk hnt rfl ?_ ?_ | refine regD (T := tab) tOk mixedR hnt rfl (by decide +kernel) ?_ ?_ | refine tr_block ?_ | refine tr_skip ?_)
      · (dsimp only [AllP]; (repeat' first | exact trivial | assumption | exact Nat.le_of_ble_eq_true rfl | apply And.intro | intro _ | exact rfl))
      refine ⟨k + 1, hkb, by omega, ?_⟩
      rw [hF1.out, hone.out]
      exact le_of (ad := []) ⟨⟨rfl, rfl, rfl, rfl, rfl⟩, ⟨rfl, rfl, rfl, rfl, rfl⟩, rfl, rfl, congrArg (fun z : Int => E.v (.int .i64 z)) (wrap64_id (by omega) (by omega)), rfl, trivial⟩ (memOk_boxE rfl rfl (st_setN H1 zB hzl _ t.len 0) (memOk_box rfl rfl rfl trivial))
    · have h6 := of_decide_eq_false h6
      have hone : t.one c = ⟨t.H, t.held ++ [c], t.len⟩ := by
        unfold Sm.one
        rw [if_neg (by omega)]
      repeat' (first | refine tr_seq ?_ | refine reg (T := tab) tOk hnt rfl ?_ ?_ | refine regD (T := tab) tOk mixedR hnt rfl (by decide +kernel) ?_ ?_ | refine tr_block ?_ | refine tr_skip ?_)
      · (dsimp only [AllP]; (repeat' first | exact trivial | assumption | exact Nat.le_of_ble_eq_true rfl | apply And.intro | intro _ | exact rfl))
      refine ⟨k + 1, hkb, by omega, ?_⟩
      rw [hF1.out, hone]
      refine le_of (ad := []) ⟨⟨rfl, rfl, rfl, rfl, rfl⟩, ⟨rfl, rfl, rfl, rfl, rfl⟩, rfl, rfl, congrArg (fun z : Int => E.v (.int .i64 z)) (wrap64_id (by omega) (by omega)), rfl, trivial⟩ (memOk_boxE rfl rfl ?_ (memOk_box rfl rfl rfl trivial))
      unfold smE
      rw [hlp, hq]
  have hc := of_decide_eq_false hc
  have hkb : k = b.length := by omega
  subst hkb
  rw [List.take_length] at hF
  have hF2 : Hd (feedF s b = t) := ⟨hF.out⟩
  have hp := padB_len (Nat.le_of_lt ht)
  have hl74 : (smE t).length = 74 := st_len _ _ hp _ _
  have hz74 : (stE hZ zB 0 0).length = 74 := rfl
  rw [hF2.out]
  refine tr_exit ?_
  repeat' (first | refine tr_seq ?_ | refine tr_block ?_ | refine tr_skip ?_)
  refine reg (T := tab) tOk hnt rfl ?_ ?_
  · refine ⟨⟨?_, Nat.le_of_ble_eq_true rfl, Nat.zero_le _⟩, st_fit _ _ hp _ _ (by decide)⟩
    show (List.take 74 (List.drop 0 (smE t))).length = 74
    rw [all_of _ _ hl74, hl74]
  refine tr_le (s' := St.of [(4, .one (.ptr 4 0 0))] [(4, ⟨0, .box (.es (smE t)), 0⟩)]) (le_of (ad := []) ⟨⟨rfl, rfl, rfl, rfl, rfl⟩, trivial⟩ (memOk_boxE rfl rfl (put_all _ _ 74 hl74 hz74) trivial)) ?_
  refine tr_ret ⟨.inr rfl, _, _, rfl, ⟨st_fit _ _ hp _ _ (by decide), trivial⟩, ?_⟩
  exact congrArg (fun l => D.agg (.es l)) (all_of _ 74 hl74)
end Go.Proofs.YtjpmghphkkhcjaaDoor
