/- SHA-256 as the program has it: the end of a stream. No condition. -/
import Derived.Test.YtjpmghphkkhcjaaDoorTSh6
namespace Go.Proofs.YtjpmghphkkhcjaaDoor
open Go Go.RowKit Go.Proofs.YtjpmghphkkhcjaaDoor.Ab

/-- a stream behind bytes, its length set -/
def putS (s : Sm) (l : List UInt8) (m : Int) : Sm := ⟨(s.fold l).H, (s.fold l).held, m⟩
theorem fold_put : ∀ (l : List UInt8) (s : Sm) (m : Int), (⟨s.H, s.held, m⟩ : Sm).fold l = putS s l m
  | [], s, m => rfl
  | c :: l, s, m => by
    have e : (⟨s.H, s.held, m⟩ : Sm).one c = ⟨(s.one c).H, (s.one c).held, m⟩ := by
      unfold Sm.one
      split
      · rfl
      · rfl
    rw [Sm.fold, e, fold_put l (s.one c) m]
    rfl
theorem feed_put (s : Sm) (l r : List UInt8) (m : Int) : feedF (putS s l m) r = putS s (l ++ r) (m + r.length) := by
  unfold feedF
  show (⟨(s.fold l).H, (s.fold l).held, m + r.length⟩ : Sm).fold r = _
  rw [fold_put r (s.fold l)]
  unfold putS
  rw [fold_append]
theorem put_held (s : Sm) (l : List UInt8) (m : Int) (hs : s.held.length < 64) : (putS s l m).held.length < 64 := (fold_law s l hs).2.2
theorem held_mod (s : Sm) (l : List UInt8) (m : Int) (hs : s.held.length < 64) : (putS s l m).held.length = (s.held.length + l.length) % 64 := by
  show (s.fold l).held.length = _
  rw [(fold_law s l hs).2.1, List.length_drop, List.length_append]
  omega
def padZ (m : Nat) : Nat := (120 - m % 64) % 64
theorem padZ_law (m : Nat) : (m + padZ m) % 64 = 56 ∧ padZ m < 64 := by
  unfold padZ
  omega
theorem padZ_only (m k : Nat) (h : (m + k) % 64 = 56) (hk : k ≤ padZ m) : k = padZ m := by
  unfold padZ at *
  omega
theorem padZ_more (m k : Nat) (h : (m + k) % 64 ≠ 56) (hk : k ≤ padZ m) : k < padZ m := by
  have := (padZ_law m).1
  rcases Nat.lt_or_ge k (padZ m) with h1 | h1
  · exact h1
  · exact absurd (by rw [Nat.le_antisymm hk h1]; exact this) h
def tailB (s : Sm) : List UInt8 := 128 :: (List.replicate (padZ (s.held.length + 1)) 0 ++ bigF (8 * s.len.toNat) 8)
def outW (H : H8) : List UInt8 := (List.range 32).map fun i => UInt8.ofNat (((H.l.getD (i / 4) 0) >>> (24 - 8 * (i % 4))).toNat)
def endF (s : Sm) : List UInt8 := outW (s.fold (tailB s)).H
theorem outW_len (H : H8) : (outW H).length = 32 := by simp [outW]
theorem outW_get (H : H8) {i : Nat} (h : i < 32) : (outW H).getD i 0 = UInt8.ofNat (((H.l.getD (i / 4) 0) >>> (24 - 8 * (i % 4))).toNat) := by
  simp [outW, List.getD, h]
theorem bigF_get : ∀ (k n j : Nat), j < k → (bigF n k).getD j 0 = UInt8.ofNat (n / 256 ^ (k - 1 - j))
  | 0, n, j, h => by omega
  | k + 1, n, j, h => by
    rw [bigF]
    rcases Nat.lt_or_ge j k with h1 | h1
    · rw [List.getD_eq_getElem?_getD, List.getElem?_append_left (by rw [bigF_len]; exact h1), ← List.getD_eq_getElem?_getD, bigF_get k (n / 256) j h1, Nat.div_div_eq_div_mul]
      congr 2
      rw [← Nat.pow_succ']
      congr 1
      omega
    · have : j = k := by omega
      subst this
      rw [List.getD_eq_getElem?_getD, List.getElem?_append_right (by rw [bigF_len]; exact Nat.le_refl _), bigF_len, Nat.sub_self]
      simp
theorem take_bigF (n : Nat) {j : Nat} (h : j < 8) : (bigF n 8).take (j + 1) = (bigF n 8).take j ++ [UInt8.ofNat (n / 2 ^ (56 - 8 * j))] := by
  rw [take_snocB _ _ (by rw [bigF_len]; exact h), bigF_get 8 n j h]
  congr 3
  rw [show (256 : Nat) = 2 ^ 8 from rfl, ← Nat.pow_mul]
  congr 2
  omega
theorem u64_len (m : Int) (h0 : 0 ≤ m) (h1 : m ≤ 1152921504606846976) : IntKind.u64.wrap (IntKind.u64.wrap m * 8) = ((8 * m.toNat : Nat) : Int) := by
  unfold IntKind.wrap
  simp [IntKind.bits, IntKind.signed]
  omega
theorem put_all2 (O L : List E) (n : Nat) (ho : O.length = n) : List.take 0 O ++ L ++ List.drop (0 + n) O = L := by
  rw [List.drop_of_length_le (by omega)]
  simp
theorem smE_len (s : Sm) (hs : s.held.length < 64) : (smE s).length = 74 := st_len _ _ (padB_len (Nat.le_of_lt hs)) _ _
theorem smE_fit (s : Sm) (hs : s.held.length < 64) : 0 + 74 ≤ (Cs.es (smE s)).len := Nat.le_of_eq (smE_len s hs).symm
theorem feed_call (s : Sm) (l : List UInt8) (m : Int) (c : UInt8) (hs : s.held.length < 64) (h1 : 0 ≤ m) (h2 : m ≤ 4611686018427387904) : FnG Tryd.prog 90 gK [.agg (.es (List.take 74 (List.drop 0 (smE (putS s l m))))), .one (.e (.sl [[eB c]]))] (.agg (.es (smE (putS s (l ++ [c]) (m + 1))))) := by
  have hh := put_held s l m hs
  rw [all_of _ _ (smE_len _ hh)]
  have := feed_fn (putS s l m) [c] hh (by show -4611686018427387904 ≤ m; omega) h2 (by simp)
  rw [feed_put] at this
  exact this
theorem setB (l : List UInt8) {i : Nat} (h : i < l.length) (x : UInt8) : (bE l).take (0 + i * 1) ++ [eB x] ++ (bE l).drop (0 + i * 1 + 1) = bE (l.set i x) := by
  rw [Nat.zero_add, Nat.mul_one]
  unfold bE
  rw [List.map_set, List.set_eq_take_append_cons_drop, if_pos (by simpa using h)]
  simp
theorem putB (l : List UInt8) {i : Nat} (h : i < l.length) : 0 + i * 1 + 1 ≤ (Cs.es (bE l)).len := by
  show 0 + i * 1 + 1 ≤ (bE l).length
  simp [bE]
  omega
def pad32 (l : List UInt8) : List UInt8 := l ++ List.replicate (32 - l.length) 0
theorem pad32_len {l : List UInt8} (h : l.length ≤ 32) : (pad32 l).length = 32 := by
  simp [pad32]
  omega
theorem pad32_set {l : List UInt8} (h : l.length < 32) (x : UInt8) : (pad32 l).set l.length x = pad32 (l ++ [x]) := by
  unfold pad32
  rw [List.set_append_right _ _ (Nat.le_refl _), Nat.sub_self]
  have : 32 - l.length = (32 - (l ++ [x]).length) + 1 := by simp; omega
  rw [this, List.replicate_succ]
  simp
theorem pad32_full {l : List UInt8} (h : l.length = 32) : pad32 l = l := by simp [pad32, h]
theorem pad32_step (l : List UInt8) (h : l.length < 32) (x : UInt8) : (bE (pad32 l)).take (0 + l.length * 1) ++ [eB x] ++ (bE (pad32 l)).drop (0 + l.length * 1 + 1) = bE (pad32 (l ++ [x])) := by
  rw [setB (pad32 l) (by rw [pad32_len (by omega)]; exact h), pad32_set h]
theorem st_Hat (H : H8) (l : List UInt8) (n m : Int) {i : Nat} (h : i < 8) : (stE H l n m).getD (0 + 0 + i * 1) E.dflt = eW (H.l.getD i 0) := by
  have h1 : (hE H).length = 8 := rfl
  have e : 0 + 0 + i * 1 = i := by omega
  have hl : i < H.l.length := h
  unfold stE
  rw [e, List.getD_eq_getElem?_getD, List.getElem?_append_left (by omega)]
  unfold hE
  simp [List.getD, hl]
theorem st_okH (H : H8) (l : List UInt8) (hl : l.length = 64) (n m : Int) {i : Nat} (h : i < 8) : 0 + 0 + i * 1 < (Cs.es (stE H l n m)).len ∧ D0.isA (.int .u32) ((Cs.es (stE H l n m)).at (0 + 0 + i * 1)) := by
  refine ⟨?_, ?_⟩
  · show 0 + 0 + i * 1 < (stE H l n m).length
    rw [st_len H l hl]
    omega
  · show E.as _ ((stE H l n m).getD (0 + 0 + i * 1) E.dflt) = (stE H l n m).getD (0 + 0 + i * 1) E.dflt
    rw [st_Hat H l n m h]
    rfl
def z32 : List UInt8 := List.replicate 32 0
set_option maxRecDepth 10000 in
set_option maxHeartbeats 400000 in
theorem end_fn (s : Sm) (hs : s.held.length < 64) (h1 : 0 ≤ s.len) (h2 : s.len ≤ 1152921504606846976) : FnG Tryd.prog 89 gK [.agg (.es (smE s))] (.agg (.es (bE (endF s)))) := by
  refine fn_introG (T := tab) tOk Tryd.func89 rfl (by kernel_rfl) (by simp [Tryd.ntmps89]) ?_
  intro X hX
  have hnt : X.nt = 49 := hX
  clear hX
  have hp := padB_len (Nat.le_of_lt hs)
  have hl : ((smE s).getD (0 + 73) E.dflt).int = s.len := by
    unfold smE
    rw [st_L _ _ hp]
    rfl
  have hs0 : putS s [] s.len = s := rfl
  repeat' (first | refine tr_seq ?_ | refine tr_block ?_ | refine tr_skip ?_)
  refine reg (T := tab) tOk hnt rfl ?_ ?_
  · (dsimp only [AllP]; (repeat' first | exact trivial | assumption | exact Nat.le_of_ble_eq_true rfl | apply And.intro | intro _ | exact rfl))
  repeat' (first | refine tr_seq ?_ | refine tr_block ?_ | refine tr_skip ?_)
  refine reg (T := tab) tOk hnt rfl ?_ ?_
  · exact ⟨trivial, rfl, trivial, st_okL _ _ hp _ _, trivial⟩
  rw [hl, u64_len s.len h1 h2]
  repeat' (first | refine tr_seq ?_ | refine tr_block ?_ | refine tr_skip ?_)
  refine tr_le (s' := St.of [(1, .one (.ptr 1 0 0)), (2, .one (.ptr 2 0 0)), (3, .v (.int .u64 ((8 * s.len.toNat : Nat) : Int))), ((1000000 + 0), .one (.eptr kE))] [(1, ⟨0, .box (.es (smE (putS s [] s.len))), 0⟩), (2, ⟨0, .box (.es (bE z32)), 0⟩)]) (le_of (ad := []) ⟨⟨rfl, rfl, rfl, rfl, rfl⟩, ⟨rfl, rfl, rfl, rfl, rfl⟩, rfl, rfl, trivial⟩ (memOk_boxE rfl rfl rfl (memOk_boxE rfl rfl (by kernel_rfl) trivial))) ?_
  clear hl
  refine tr_region (lex (T := tab) tOk hnt rfl ?_ (callV rfl rfl rfl rfl rfl rfl rfl hnt rfl (feed_call s [] s.len 128 hs h1 (by omega)) (lex (T := tab) tOk hnt rfl ?_ (Lex.nil _)))) ?_
  · refine ⟨⟨⟨rfl, trivial⟩, by decide, by decide⟩, smE_fit _ (put_held s [] _ hs)⟩
  · refine ⟨?_, smE_fit _ (put_held s [] _ hs), Nat.zero_le _⟩
    exact smE_len _ (put_held s _ _ hs)
  refine tr_le (s' := St.of [(1, .one (.ptr 1 0 0)), (2, .one (.ptr 2 0 0)), (3, .v (.int .u64 ((8 * s.len.toNat : Nat) : Int))), ((1000000 + 0), .one (.eptr kE))] [(1, ⟨0, .box (.es (smE (putS s [128] (s.len + 1)))), 0⟩), (2, ⟨0, .box (.es (bE z32)), 0⟩)]) (le_of (ad := []) ⟨⟨rfl, rfl, rfl, rfl, rfl⟩, ⟨rfl, rfl, rfl, rfl, rfl⟩, rfl, rfl, trivial⟩ (memOk_boxE rfl rfl (put_all2 _ _ 74 (smE_len _ (put_held s [] _ hs))) (memOk_box rfl rfl rfl trivial))) ?_
  repeat' (first | refine tr_seq ?_ | refine tr_block ?_ | refine tr_skip ?_)
  have hz := padZ_law (s.held.length + 1)
  refine tr_loop (σ := Nat) (fun k => St.of [(1, .one (.ptr 1 0 0)), (2, .one (.ptr 2 0 0)), (3, .v (.int .u64 ((8 * s.len.toNat : Nat) : Int))), ((1000000 + 0), .one (.eptr kE))] [(1, ⟨0, .box (.es (smE (putS s (128 :: List.replicate k 0) (s.len + 1 + k)))), 0⟩), (2, ⟨0, .box (.es (bE z32)), 0⟩)]) (fun k => k ≤ padZ (s.held.length + 1)) (fun k => padZ (s.held.length + 1) - k) 0 (le_of (ad := []) ⟨⟨rfl, rfl, rfl, rfl, rfl⟩, ⟨rfl, rfl, rfl, rfl, rfl⟩, rfl, rfl, trivial⟩ (memOk_boxE rfl rfl (congrArg (fun z => smE (putS s [128] z)) (Int.add_zero _).symm) (memOk_box rfl rfl rfl trivial))) (Nat.zero_le _) ?_
  intro k hk
  have hht := put_held s (128 :: List.replicate k 0) (s.len + 1 + k) hs
  have hhm : Hd ((putS s (128 :: List.replicate k 0) (s.len + 1 + k)).held.length = (s.held.length + 1 + k) % 64) := ⟨by
    rw [held_mod s _ _ hs, List.length_cons, List.length_replicate]
    congr 1
    omega⟩
  have hpt := padB_len (Nat.le_of_lt hht)
  have hn : ((smE (putS s (128 :: List.replicate k 0) (s.len + 1 + k))).getD (0 + 72) E.dflt).int = (((s.held.length + 1 + k) % 64 : Nat) : Int) := by
    unfold smE
    rw [st_N _ _ hpt, hhm.out]
    rfl
  repeat' (first | refine tr_seq ?_ | refine tr_block ?_ | refine tr_skip ?_)
  refine reg (T := tab) tOk hnt rfl ?_ ?_
  · exact ⟨rfl, st_okN _ _ hpt _ _, trivial⟩
  rw [hn]
  refine tr_cond rfl (fun hc => ?_) (fun hc => ?_)
  · have hc : ¬ (((s.held.length + 1 + k) % 64 : Nat) : Int) = 56 := by simpa using hc
    have hkz := padZ_more (s.held.length + 1) k (by omega) hk
    repeat' (first | refine tr_seq ?_ | refine tr_block ?_ | refine tr_skip ?_)
    refine tr_region (lex (T := tab) tOk hnt rfl ?_ (callV rfl rfl rfl rfl rfl rfl rfl hnt rfl (feed_call s (128 :: List.replicate k 0) (s.len + 1 + k) 0 hs (by omega) (by omega)) (lex (T := tab) tOk hnt rfl ?_ (Lex.nil _)))) ?_
    · refine ⟨⟨⟨rfl, trivial⟩, by decide, by decide⟩, smE_fit _ hht⟩
    · refine ⟨?_, smE_fit _ hht, Nat.zero_le _⟩
      exact smE_len _ (put_held s _ _ hs)
    refine ⟨k + 1, hkz, by omega, le_of (ad := []) ⟨⟨rfl, rfl, rfl, rfl, rfl⟩, ⟨rfl, rfl, rfl, rfl, rfl⟩, rfl, rfl, trivial⟩ (memOk_boxE rfl rfl ?_ (memOk_box rfl rfl rfl trivial))⟩
    refine (put_all2 _ _ 74 (smE_len _ hht)).trans ?_
    have e1 : (128 :: List.replicate k 0) ++ [(0 : UInt8)] = 128 :: List.replicate (k + 1) 0 := by
      rw [List.cons_append, ← List.replicate_succ']
    have e2 : s.len + 1 + (k : Int) + 1 = s.len + 1 + ((k + 1 : Nat) : Int) := by omega
    rw [e1, e2]
  have hc : (((s.held.length + 1 + k) % 64 : Nat) : Int) = 56 := by simpa using hc
  have hkz := padZ_only (s.held.length + 1) k (by omega) hk
  clear hn hc hhm hpt
  rw [hkz] at hht ⊢
  clear hkz hk
  refine tr_exit ?_
  repeat' (first | refine tr_seq ?_ | refine reg (T := tab) tOk hnt rfl ?_ ?_ | refine regD (T := tab) tOk mixedR hnt rfl (by decide +kernel) ?_ ?_ | refine tr_block ?_ | refine tr_skip ?_)
  · (dsimp only [AllP]; (repeat' first | exact trivial | assumption | exact Nat.le_of_ble_eq_true rfl | apply And.intro | intro _ | exact rfl))
  refine tr_loop (σ := Nat) (fun j => St.of [(1, .one (.ptr 1 0 0)), (2, .one (.ptr 2 0 0)), (3, .v (.int .u64 ((8 * s.len.toNat : Nat) : Int))), (4, .v (.int .i64 (56 - 8 * (j : Int)))), ((1000000 + 0), .one (.eptr kE))] [(1, ⟨0, .box (.es (smE (putS s (128 :: List.replicate (padZ (s.held.length + 1)) 0 ++ (bigF (8 * s.len.toNat) 8).take j) (s.len + 1 + padZ (s.held.length + 1) + j)))), 0⟩), (2, ⟨0, .box (.es (bE z32)), 0⟩)]) (fun j => j ≤ 8) (fun j => 8 - j) 0 (le_of (ad := []) ⟨⟨rfl, rfl, rfl, rfl, rfl⟩, ⟨rfl, rfl, rfl, rfl, rfl⟩, rfl, rfl, rfl, trivial⟩ (memOk_boxE rfl rfl (by rw [List.take_zero, List.append_nil]; exact congrArg (fun z => smE (putS s _ z)) (Int.add_zero _).symm) (memOk_box rfl rfl rfl trivial))) (Nat.zero_le _) ?_
  intro j hj
  have hht := put_held s (128 :: List.replicate (padZ (s.held.length + 1)) 0 ++ (bigF (8 * s.len.toNat) 8).take j) (s.len + 1 + padZ (s.held.length + 1) + j) hs
  repeat' (first | refine tr_seq ?_ | refine tr_block ?_ | refine tr_skip ?_)
  refine reg (T := tab) tOk hnt rfl (by (dsimp only [AllP]; (repeat' first | exact trivial | assumption | exact Nat.le_of_ble_eq_true rfl | apply And.intro | intro _ | exact rfl))) ?_
  refine tr_cond rfl (fun hc => ?_) (fun hc => ?_)
  · have hc := of_decide_eq_true hc
    have hj8 : j < 8 := by omega
    have hsh : Int.toNat (56 - 8 * (j : Int)) = 56 - 8 * j := by omega
    have hmin : min (56 - 8 * j) IntKind.u64.bits = 56 - 8 * j := Nat.min_eq_left (show 56 - 8 * j ≤ 64 by omega)
    have hfd : IntKind.u8.wrap (Int.fdiv ((8 * s.len.toNat : Nat) : Int) (2 ^ min (Int.toNat (56 - 8 * (j : Int))) IntKind.u64.bits)) = ((UInt8.ofNat (8 * s.len.toNat / 2 ^ (56 - 8 * j))).toNat : Int) := by
      rw [hsh, hmin, Int.fdiv_eq_ediv_of_nonneg _ (Int.le_of_lt (Int.pow_pos (by decide))), ← ofNatB, Int.natCast_ediv]
      norm_cast
    have hf : FnG Tryd.prog 90 gK [.agg (.es (List.take 74 (List.drop 0 (smE (putS s (128 :: List.replicate (padZ (s.held.length + 1)) 0 ++ (bigF (8 * s.len.toNat) 8).take j) (s.len + 1 + padZ (s.held.length + 1) + j)))))), .one (.e (.sl [[E.v (.int .u8 (IntKind.u8.wrap (Int.fdiv ((8 * s.len.toNat : Nat) : Int) (2 ^ min (Int.toNat (56 - 8 * (j : Int))) IntKind.u64.bits))))]]))] (.agg (.es (smE (putS s ((128 :: List.replicate (padZ (s.held.length + 1)) 0 ++ (bigF (8 * s.len.toNat) 8).take j) ++ [UInt8.ofNat (8 * s.len.toNat / 2 ^ (56 - 8 * j))]) (s.len + 1 + padZ (s.held.length + 1) + j + 1))))) := by
      rw [hfd]
      exact feed_call s _ _ _ hs (by omega) (by omega)
    rw [List.append_assoc, ← take_bigF _ hj8] at hf
    repeat' (first | refine tr_seq ?_ | refine tr_block ?_ | refine tr_skip ?_)
    refine tr_draw (T := tab) tOk hnt mixedR (lexD (T := tab) rfl ?_ (callVDU rfl rfl rfl rfl rfl rfl rfl rfl rfl rfl hf (lexD (T := tab) rfl ?_ (.nil _)))) (by decide +kernel) ?_
    · exact ⟨⟨⟨rfl, trivial⟩, by decide, by decide⟩, trivial, hc, trivial, trivial, smE_fit _ hht⟩
    · refine ⟨?_, smE_fit _ hht, Nat.zero_le _⟩
      exact smE_len _ (put_held s _ _ hs)
    repeat' (first | refine tr_seq ?_ | refine reg (T := tab) tOk hnt rfl ?_ ?_ | refine regD (T := tab) tOk mixedR hnt rfl (by decide +kernel) ?_ ?_ | refine tr_block ?_ | refine tr_skip ?_)
    · (dsimp only [AllP]; (repeat' first | exact trivial | assumption | exact Nat.le_of_ble_eq_true rfl | apply And.intro | intro _ | exact rfl))
    refine ⟨j + 1, hj8, by omega, le_of (ad := []) ⟨⟨rfl, rfl, rfl, rfl, rfl⟩, ⟨rfl, rfl, rfl, rfl, rfl⟩, rfl, ?_, rfl, trivial⟩ (memOk_boxE rfl rfl ?_ (memOk_box rfl rfl rfl trivial))⟩
    · refine congrArg (fun z : Int => E.v (.int .i64 z)) ?_
      rw [wrap64_id (by omega) (by omega)]
      omega
    refine (put_all2 _ _ 74 (smE_len _ hht)).trans ?_
    rw [show s.len + 1 + (padZ (s.held.length + 1) : Int) + (j : Int) + 1 = s.len + 1 + (padZ (s.held.length + 1) : Int) + ((j + 1 : Nat) : Int) by omega]
  have hc := of_decide_eq_false hc
  have hj : j = 8 := by omega
  subst hj
  have htail : 128 :: List.replicate (padZ (s.held.length + 1)) 0 ++ (bigF (8 * s.len.toNat) 8).take 8 = tailB s := by
    rw [List.take_of_length_le (by rw [bigF_len]; exact Nat.le_refl _)]
    rfl
  rw [htail] at hht ⊢
  clear htail hc hz
  refine tr_exit ?_
  have hend : endF s = outW (s.fold (tailB s)).H := rfl
  have ht : ∃ t : Sm, putS s (tailB s) (s.len + 1 + padZ (s.held.length + 1) + ((8 : Nat) : Int)) = t ∧ Hd ((s.fold (tailB s)).H = t.H) ∧ t.held.length < 64 := ⟨_, rfl, ⟨rfl⟩, hht⟩
  obtain ⟨t, e0, hH, htt⟩ := ht
  rw [e0, hend, hH.out]
  clear e0 hend hH hht
  have hpt := padB_len (Nat.le_of_lt htt)
  repeat' (first | refine tr_seq ?_ | refine tr_block ?_ | refine tr_skip ?_)
  refine reg (T := tab) tOk hnt rfl (by (dsimp only [AllP]; (repeat' first | exact trivial | assumption | exact Nat.le_of_ble_eq_true rfl | apply And.intro | intro _ | exact rfl))) ?_
  repeat' (first | refine tr_seq ?_ | refine reg (T := tab) tOk hnt rfl ?_ ?_ | refine regD (T := tab) tOk mixedR hnt rfl (by decide +kernel) ?_ ?_ | refine tr_block ?_ | refine tr_skip ?_)
  · (dsimp only [AllP]; (repeat' first | exact trivial | assumption | exact Nat.le_of_ble_eq_true rfl | apply And.intro | intro _ | exact rfl))
  refine tr_loop (σ := Nat) (fun i => St.of [(1, .one (.ptr 1 0 0)), (2, .one (.ptr 2 0 0)), (5, .one (.ptr 5 0 0)), (31, .v (.int .i64 i))] [(1, ⟨0, .box (.es (smE t)), 0⟩), (2, ⟨0, .box (.es (bE z32)), 0⟩), (5, ⟨0, .box (.es (bE (pad32 ((outW t.H).take i)))), 0⟩)]) (fun i => i ≤ 32) (fun i => 32 - i) 0 (le_of (ad := []) ⟨⟨rfl, rfl, rfl, rfl, rfl⟩, ⟨rfl, rfl, rfl, rfl, rfl⟩, ⟨rfl, rfl, rfl, rfl, rfl⟩, rfl, trivial⟩ (memOk_boxE rfl rfl rfl (memOk_box rfl rfl rfl (memOk_boxE rfl rfl (by kernel_rfl) trivial)))) (Nat.zero_le _) ?_
  intro i hi
  repeat' (first | refine tr_seq ?_ | refine tr_block ?_ | refine tr_skip ?_)
  refine reg (T := tab) tOk hnt rfl (by (dsimp only [AllP]; (repeat' first | exact trivial | assumption | exact Nat.le_of_ble_eq_true rfl | apply And.intro | intro _ | exact rfl))) ?_
  repeat' (first | refine tr_seq ?_ | refine tr_block ?_ | refine tr_skip ?_)
  refine tr_cond rfl (fun hc => ?_) (fun hc => ?_)
  · have hc := of_decide_eq_true hc
    have hi32 : i < 32 := by omega
    have hol : ((outW t.H).take i).length = i := by
      rw [List.length_take, outW_len]
      omega
    have hp32 := pad32_len (l := (outW t.H).take i) (by omega)
    have q1 : IntKind.i64.wrap (Int.tdiv (i : Int) 4) = ((i / 4 : Nat) : Int) := by
      rw [Int.tdiv_eq_ediv_of_nonneg (Int.natCast_nonneg _), wrap64_id (by omega) (by omega)]
      rfl
    have q2 : Int.tmod (i : Int) 4 = ((i % 4 : Nat) : Int) := by
      rw [Int.tmod_eq_emod_of_nonneg (Int.natCast_nonneg _)]
      rfl
    have q3 : IntKind.i64.wrap (8 * ((i % 4 : Nat) : Int)) = ((8 * (i % 4) : Nat) : Int) := by rw [wrap64_id (by omega) (by omega)]; omega
    have q4 : IntKind.i64.wrap (24 - ((8 * (i % 4) : Nat) : Int)) = ((24 - 8 * (i % 4) : Nat) : Int) := by rw [wrap64_id (by omega) (by omega)]; omega
    repeat' (first | refine tr_seq ?_ | refine tr_block ?_ | refine tr_skip ?_)
    refine reg (T := tab) tOk hnt rfl (by (dsimp only [AllP]; (repeat' first | exact trivial | assumption | exact Nat.le_of_ble_eq_true rfl | apply And.intro | intro _ | exact rfl))) ?_
    repeat' (first | refine tr_seq ?_ | refine tr_block ?_ | refine tr_skip ?_)
    refine reg (T := tab) tOk hnt rfl ?_ ?_
    · dsimp only [AllP]
      rw [q1, q2, q3, q4, Int.toNat_natCast, Int.toNat_natCast, Int.toNat_natCast]
      exact ⟨⟨rfl, putB _ (by omega), Nat.zero_le _⟩, ⟨Int.natCast_nonneg _, by omega⟩, trivial, Int.natCast_nonneg _, rfl, rfl, ⟨rfl, by decide⟩, trivial, st_okH t.H _ hpt _ _ (by omega), ⟨Int.natCast_nonneg _, by omega⟩, trivial, ⟨rfl, by decide⟩, trivial, trivial⟩
    rw [q1, q2, q3, q4, Int.toNat_natCast, Int.toNat_natCast, Int.toNat_natCast]
    repeat' (first | refine tr_seq ?_ | refine reg (T := tab) tOk hnt rfl ?_ ?_ | refine regD (T := tab) tOk mixedR hnt rfl (by decide +kernel) ?_ ?_ | refine tr_block ?_ | refine tr_skip ?_)
    · (dsimp only [AllP]; (repeat' first | exact trivial | assumption | exact Nat.le_of_ble_eq_true rfl | apply And.intro | intro _ | exact rfl))
    refine ⟨i + 1, hi32, by omega, le_of (ad := []) ⟨⟨rfl, rfl, rfl, rfl, rfl⟩, ⟨rfl, rfl, rfl, rfl, rfl⟩, ⟨rfl, rfl, rfl, rfl, rfl⟩, congrArg (fun z : Int => E.v (.int .i64 z)) (wrap64_id (by omega) (by omega)), trivial⟩ (memOk_box rfl rfl rfl (memOk_box rfl rfl rfl (memOk_boxE rfl rfl ?_ trivial)))⟩
    have e := pad32_step ((outW t.H).take i) (by omega) ((outW t.H).getD i 0)
    rw [hol, ← take_snocB _ _ (by rw [outW_len]; exact hi32)] at e
    refine Eq.trans ?_ e
    refine congrArg (fun z : Int => List.take (0 + i * 1) (bE (pad32 ((outW t.H).take i))) ++ [E.v (.int .u8 z)] ++ List.drop (0 + i * 1 + 1) (bE (pad32 ((outW t.H).take i)))) ?_
    have hmin : min (24 - 8 * (i % 4)) IntKind.u32.bits = 24 - 8 * (i % 4) := Nat.min_eq_left (show 24 - 8 * (i % 4) ≤ 32 by omega)
    unfold smE
    rw [st_Hat t.H _ _ _ (by omega), hmin, outW_get _ hi32, ← ofNatB]
    exact congrArg IntKind.u8.wrap (w_shr _ _)
  have hc := of_decide_eq_false hc
  have hi : i = 32 := by omega
  subst hi
  have hol := outW_len t.H
  rw [List.take_of_length_le (Nat.le_of_eq hol), pad32_full hol]
  have hb32 : (bE (outW t.H)).length = 32 := by simp [bE, hol]
  have hz32 : (bE z32).length = 32 := rfl
  clear hc
  generalize outW t.H = o at hol hb32 ⊢
  refine tr_exit ?_
  repeat' (first | refine tr_seq ?_ | refine tr_block ?_ | refine tr_skip ?_)
  refine reg (T := tab) tOk hnt rfl ?_ ?_
  · refine ⟨⟨?_, Nat.le_of_ble_eq_true rfl, Nat.zero_le _⟩, ?_⟩
    · show (List.take 32 (List.drop 0 (bE o))).length = 32
      rw [all_of _ _ hb32, hb32]
    · show 0 + 32 ≤ (bE o).length
      omega
  refine tr_le (s' := St.of [(2, .one (.ptr 2 0 0))] [(2, ⟨0, .box (.es (bE o)), 0⟩)]) (le_of (ad := []) ⟨⟨rfl, rfl, rfl, rfl, rfl⟩, trivial⟩ (memOk_boxE rfl rfl (put_all _ _ 32 hb32 hz32) trivial)) ?_
  refine tr_ret ⟨.inr rfl, _, _, rfl, ⟨?_, trivial⟩, ?_⟩
  · show 0 + 32 ≤ (bE o).length
    omega
  exact congrArg (fun l => D.agg (.es l)) (all_of _ 32 hb32)
end Go.Proofs.YtjpmghphkkhcjaaDoor
