/- SHA-256 as the program has it: streams are begun, checked, fed and ended; sums. No condition. -/
import Derived.Test.YtmicapdbgjafnaaDoorTSh7
namespace Go.Proofs.YtmicapdbgjafnaaDoor
open Go Go.RowKit Go.Proofs.YtmicapdbgjafnaaDoor.Ab

def s0 : Sm := ⟨h0W, [], 0⟩
set_option maxRecDepth 10000 in
theorem Begin_fn : FnD Tryd.prog 12 [] (.agg (.es (smE s0))) := by
  refine fn_intro (T := tab) tOk Tryd.func12 rfl (by kernel_rfl) (by simp [Tryd.ntmps12]) ?_
  intro X hX
  have hnt : X.nt = 3 := hX
  clear hX
  repeat' (first | refine tr_seq ?_ | refine reg (T := tab) tOk hnt rfl ?_ ?_ | refine regD (T := tab) tOk mixedR hnt rfl (by decide +kernel) ?_ ?_ | refine tr_block ?_ | refine tr_skip ?_)
  · (dsimp only [AllP]; (repeat' first | exact trivial | apply And.intro | exact Nat.le_of_ble_eq_true (by kernel_rfl) | decide | kernel_rfl | exact rfl))
  · (dsimp only [AllP]; (repeat' first | exact trivial | apply And.intro | exact Nat.le_of_ble_eq_true (by kernel_rfl) | decide | kernel_rfl | exact rfl))
  refine tr_ret ⟨.inr rfl, _, _, rfl, ⟨Nat.le_of_ble_eq_true (by kernel_rfl), trivial⟩, by kernel_rfl⟩

/-- a stream is as a stream may be -/
def sOk (l : List UInt8) (n m : Int) : Bool := decide (0 ≤ m) && (decide (m ≤ 1152921504606846976) && (decide (n = Int.tmod m 64) && (l.drop n.toNat).all (fun c => decide (c = 0))))
theorem sOk_mod {n m : Int} (h0 : 0 ≤ m) (_h1 : m ≤ 1152921504606846976) (h2 : n = Int.tmod m 64) : 0 ≤ n ∧ n < 64 := by
  rw [h2, Int.tmod_eq_emod_of_nonneg h0]
  omega
theorem sOk_of {l : List UInt8} {n m : Int} (h : sOk l n m = true) : 0 ≤ m ∧ m ≤ 1152921504606846976 ∧ n = Int.tmod m 64 ∧ ∀ j, n.toNat ≤ j → j < l.length → l.getD j 0 = 0 := by
  simp only [sOk, Bool.and_eq_true, decide_eq_true_eq] at h
  obtain ⟨h0, h1, h2, h3⟩ := h
  refine ⟨h0, h1, h2, fun j hj hjl => ?_⟩
  have := List.all_eq_true.1 h3 (l.getD j 0) (by
    rw [List.mem_iff_getElem?]
    exact ⟨j - n.toNat, by rw [List.getElem?_drop, show n.toNat + (j - n.toNat) = j by omega]; simp [hjl]⟩)
  exact of_decide_eq_true this
theorem sOk_mk {l : List UInt8} {n m : Int} (h0 : 0 ≤ m) (h1 : m ≤ 1152921504606846976) (h2 : n = Int.tmod m 64) (h3 : ∀ j, n.toNat ≤ j → j < l.length → l.getD j 0 = 0) : sOk l n m = true := by
  simp only [sOk, Bool.and_eq_true, decide_eq_true_eq]
  refine ⟨h0, h1, h2, List.all_eq_true.2 fun c hc => ?_⟩
  obtain ⟨j, hj⟩ := List.mem_iff_getElem?.1 hc
  rw [List.getElem?_drop] at hj
  have hlt := (List.getElem?_eq_some_iff.1 hj).1
  have := h3 (n.toNat + j) (by omega) hlt
  rw [List.getD_eq_getElem?_getD, hj] at this
  exact decide_eq_true this
theorem condB (n m : Int) : (bif (bif decide (m < 0) then true else decide (1152921504606846976 < m)) then true else !decide (n = Int.tmod m 64)) = !(decide (0 ≤ m) && (decide (m ≤ 1152921504606846976) && decide (n = Int.tmod m 64))) := by
  by_cases h1 : m < 0 <;> by_cases h2 : 1152921504606846976 < m <;> by_cases h3 : n = Int.tmod m 64 <;> simp [h1, h2, h3, Int.not_le.2, Int.not_lt.1] <;> omega
set_option maxRecDepth 10000 in
theorem check_fn (H : H8) (l : List UInt8) (n m : Int) (hl : l.length = 64) : FnD Tryd.prog 23 [.agg (.es (stE H l n m))] (.v (.int .i64 (bif sOk l n m then 0 else 11))) := by
  refine fn_intro (T := tab) tOk Tryd.func23 rfl (by kernel_rfl) (by simp [Tryd.ntmps23]) ?_
  intro X hX
  have hnt : X.nt = 31 := hX
  clear hX
  have hN : ((stE H l n m).getD (0 + 72) E.dflt).int = n := by
    rw [st_N _ _ hl]
    rfl
  have hM : ((stE H l n m).getD (0 + 73) E.dflt).int = m := by
    rw [st_L _ _ hl]
    rfl
  repeat' (first | refine tr_seq ?_ | refine reg (T := tab) tOk hnt rfl ?_ ?_ | refine regD (T := tab) tOk mixedR hnt rfl (by decide +kernel) ?_ ?_ | refine tr_block ?_ | refine tr_skip ?_)
  · (dsimp only [AllP]; (repeat' first | exact trivial | assumption | exact Nat.le_of_ble_eq_true rfl | apply And.intro | intro _ | exact rfl))
  · (dsimp only [AllP]; (repeat' first | exact trivial | exact rfl | exact (st_okN H l hl n m) | exact (st_okL H l hl n m) | apply And.intro | exact (show (64 : Int) ≠ 0 by decide) | intro _ | assumption | decide))
  rw [hM, hN]
  have hcond := condB n m
  refine tr_cond rfl (fun hc => ?_) (fun hc => ?_)
  · have hc := (condB n m).symm.trans hc
    have hbad : sOk l n m = false := by
      cases hq : sOk l n m with
      | false => rfl
      | true =>
        obtain ⟨h0, h1, h2, _⟩ := sOk_of hq
        rw [decide_eq_true h0, decide_eq_true h1, decide_eq_true h2] at hc
        cases hc
    repeat' (first | refine tr_seq ?_ | refine reg (T := tab) tOk hnt rfl ?_ ?_ | refine regD (T := tab) tOk mixedR hnt rfl (by decide +kernel) ?_ ?_ | refine tr_block ?_ | refine tr_skip ?_)
    · exact trivial
    refine tr_ret ⟨.inr rfl, _, _, rfl, by trivial, ?_⟩
    rw [hbad]
    rfl
  have hc := (condB n m).symm.trans hc
  simp only [Bool.not_eq_false', Bool.and_eq_true, decide_eq_true_eq] at hc
  obtain ⟨h0, h1, h2⟩ := hc
  obtain ⟨n0, n1⟩ := sOk_mod h0 h1 h2
  obtain ⟨p, hnp⟩ : ∃ p : Nat, n = (p : Int) := ⟨n.toNat, by omega⟩
  have hp : n.toNat = p := by omega
  repeat' (first | refine tr_seq ?_ | refine tr_block ?_ | refine tr_skip ?_)
  refine reg (T := tab) tOk hnt rfl ?_ ?_
  · exact ⟨trivial, st_okN _ _ hl _ _, trivial⟩
  rw [hN]
  repeat' (first | refine tr_seq ?_ | refine tr_block ?_ | refine tr_skip ?_)
  refine tr_loop (σ := Nat) (fun i => St.of [(1, .one (.ptr 1 0 0)), (3, .v (.int .i64 i))] [(1, ⟨0, .box (.es (stE H l n m)), 0⟩)]) (fun i => p ≤ i ∧ i ≤ 64 ∧ ∀ j, p ≤ j → j < i → l.getD j 0 = 0) (fun i => 64 - i) p (le_of (ad := []) ⟨⟨rfl, rfl, rfl, rfl, rfl⟩, congrArg (fun z : Int => E.v (.int .i64 z)) hnp, trivial⟩ (memOk_box rfl rfl rfl trivial)) ⟨Nat.le_refl _, by omega, fun j a b => by omega⟩ ?_
  rintro i ⟨j1, j2, j3⟩
  repeat' (first | refine tr_seq ?_ | refine reg (T := tab) tOk hnt rfl ?_ ?_ | refine regD (T := tab) tOk mixedR hnt rfl (by decide +kernel) ?_ ?_ | refine tr_block ?_ | refine tr_skip ?_)
  · (dsimp only [AllP]; (repeat' first | exact trivial | assumption | exact Nat.le_of_ble_eq_true rfl | apply And.intro | intro _ | exact rfl))
  refine tr_cond rfl (fun hc => ?_) (fun hc => ?_)
  · have hc := of_decide_eq_true hc
    have hi : i < 64 := by omega
    have hv : ((stE H l n m).getD (0 + 8 + i * 1) E.dflt).int = ((l.getD i 0).toNat : Int) := by
      rw [st_held H l hl n m hi]
      rfl
    repeat' (first | refine tr_seq ?_ | refine tr_block ?_ | refine tr_skip ?_)
    refine reg (T := tab) tOk hnt rfl ?_ ?_
    · dsimp only [AllP]
      rw [Int.toNat_natCast]
      exact ⟨rfl, st_okHeld _ _ hl _ _ hi, ⟨Int.natCast_nonneg _, by omega⟩, trivial, trivial⟩
    rw [Int.toNat_natCast, hv]
    refine tr_cond rfl (fun hc => ?_) (fun hc => ?_)
    · have hc : ¬ (((l.getD i 0).toNat : Nat) : Int) = 0 := by simpa using hc
      have hbad : sOk l n m = false := by
        cases hq : sOk l n m with
        | false => rfl
        | true =>
          obtain ⟨_, _, _, h4⟩ := sOk_of hq
          have := h4 i (by omega) (by omega)
          rw [this] at hc
          exact absurd rfl hc
      repeat' (first | refine tr_seq ?_ | refine reg (T := tab) tOk hnt rfl ?_ ?_ | refine regD (T := tab) tOk mixedR hnt rfl (by decide +kernel) ?_ ?_ | refine tr_block ?_ | refine tr_skip ?_)
      · exact trivial
      refine tr_ret ⟨.inr rfl, _, _, rfl, by trivial, ?_⟩
      rw [hbad]
      rfl
    · have hc : (((l.getD i 0).toNat : Nat) : Int) = 0 := by simpa using hc
      have hz : l.getD i 0 = 0 := UInt8.toNat_inj.1 (by simpa using hc)
      repeat' (first | refine tr_seq ?_ | refine reg (T := tab) tOk hnt rfl ?_ ?_ | refine regD (T := tab) tOk mixedR hnt rfl (by decide +kernel) ?_ ?_ | refine tr_block ?_ | refine tr_skip ?_)
      · (dsimp only [AllP]; (repeat' first | exact trivial | assumption | exact Nat.le_of_ble_eq_true rfl | apply And.intro | intro _ | exact rfl))
      refine ⟨i + 1, ⟨by omega, by omega, fun j a b => ?_⟩, by omega, le_of (ad := []) ⟨⟨rfl, rfl, rfl, rfl, rfl⟩, congrArg (fun z : Int => E.v (.int .i64 z)) (wrap64_id (by omega) (by omega)), trivial⟩ (memOk_box rfl rfl rfl trivial)⟩
      rcases Nat.lt_or_ge j i with h | h
      · exact j3 j a h
      · rw [show j = i by omega]
        exact hz
  have hc := of_decide_eq_false hc
  have hgood : sOk l n m = true := sOk_mk h0 h1 h2 fun j a b => j3 j (by omega) (by omega)
  refine tr_exit ?_
  repeat' (first | refine tr_seq ?_ | refine reg (T := tab) tOk hnt rfl ?_ ?_ | refine regD (T := tab) tOk mixedR hnt rfl (by decide +kernel) ?_ ?_ | refine tr_block ?_ | refine tr_skip ?_)
  · exact trivial
  refine tr_ret ⟨.inr rfl, _, _, rfl, by trivial, ?_⟩
  rw [hgood]
  rfl
theorem sm_of {l : List UInt8} {n m : Int} (hl : l.length = 64) (h : sOk l n m = true) (H : H8) : stE H l n m = smE ⟨H, l.take n.toNat, m⟩ ∧ (l.take n.toNat).length < 64 ∧ 0 ≤ m ∧ m ≤ 1152921504606846976 := by
  obtain ⟨h0, h1, h2, h3⟩ := sOk_of h
  obtain ⟨n0, n1⟩ := sOk_mod h0 h1 h2
  have hlen : (l.take n.toNat).length = n.toNat := by
    rw [List.length_take]
    omega
  have hpad : padB (l.take n.toNat) = l := by
    unfold padB
    rw [hlen]
    apply List.ext_getElem
    · simp
      omega
    · intro i a b
      rcases Nat.lt_or_ge i n.toNat with hi | hi
      · rw [List.getElem_append_left (by omega)]
        simp
      · rw [List.getElem_append_right (by omega)]
        have := h3 i hi b
        rw [List.getD_eq_getElem?_getD, List.getElem?_eq_getElem b] at this
        simp at this ⊢
        exact this.symm
  refine ⟨?_, by omega, h0, h1⟩
  unfold smE
  show stE H l n m = stE H (padB (l.take n.toNat)) ((l.take n.toNat).length : Int) m
  rw [hpad, hlen]
  congr 1
  omega
def sZ : Sm := ⟨hZ, [], 0⟩
theorem sZ_len : (smE sZ).length = 74 := rfl
def addF (H : H8) (l : List UInt8) (n m : Int) (b : List UInt8) : Sm × Int :=
  bif sOk l n m then (if 1152921504606846976 - m < (b.length : Int) then (sZ, 1) else (feedF ⟨H, l.take n.toNat, m⟩ b, 0)) else (sZ, 11)
def rAdd (x : Sm × Int) : D := .tup [(true, .es (smE x.1)), (false, .es [eI x.2])]
set_option maxRecDepth 10000 in
theorem Add_fn (H : H8) (l : List UInt8) (n m : Int) (hl : l.length = 64) (b : List UInt8) : FnG Tryd.prog 10 gK [.agg (.es (stE H l n m)), .one (.e (eBytes b))] (rAdd (addF H l n m b)) := by
  refine fn_introG (T := tab) tOk Tryd.func10 rfl (by kernel_rfl) (by simp [Tryd.ntmps10]) ?_
  intro X hX
  have hnt : X.nt = 23 := hX
  clear hX
  have hL := st_len H l hl n m
  have hfit := st_fit H l hl n m (k := 0 + 74) (by decide)
  have hck : FnD Tryd.prog 23 [.agg (.es (List.take 74 (List.drop 0 (stE H l n m))))] (.v (.int .i64 (bif sOk l n m then 0 else 11))) := by
    rw [all_of _ _ hL]
    exact check_fn H l n m hl
  have hM : ((stE H l n m).getD (0 + 73) E.dflt).int = m := by
    rw [st_L _ _ hl]
    rfl
  repeat' (first | refine tr_seq ?_ | refine reg (T := tab) tOk hnt rfl ?_ ?_ | refine regD (T := tab) tOk mixedR hnt rfl (by decide +kernel) ?_ ?_ | refine tr_block ?_ | refine tr_skip ?_)
  · (dsimp only [AllP]; (repeat' first | exact trivial | apply And.intro | exact Nat.le_of_ble_eq_true (by kernel_rfl) | decide | kernel_rfl | exact rfl))
  refine tr_region (lex (T := tab) tOk hnt rfl ?_ (call rfl rfl rfl rfl rfl rfl rfl hnt hck (lex (T := tab) tOk hnt rfl ?_ (Lex.nil _)))) ?_
  · exact hfit
  · exact trivial
  repeat' (first | refine tr_seq ?_ | refine reg (T := tab) tOk hnt rfl ?_ ?_ | refine regD (T := tab) tOk mixedR hnt rfl (by decide +kernel) ?_ ?_ | refine tr_block ?_ | refine tr_skip ?_)
  · exact ⟨rfl, trivial⟩
  cases hq : sOk l n m with
  | false =>
    refine tr_cond rfl (fun _ => ?_) (fun h => nomatch (show true = false from h))
    repeat' (first | refine tr_seq ?_ | refine reg (T := tab) tOk hnt rfl ?_ ?_ | refine regD (T := tab) tOk mixedR hnt rfl (by decide +kernel) ?_ ?_ | refine tr_block ?_ | refine tr_skip ?_)
    · (dsimp only [AllP]; (repeat' first | exact trivial | apply And.intro | exact Nat.le_of_ble_eq_true (by kernel_rfl) | decide | kernel_rfl | exact rfl))
    refine tr_ret ⟨.inr rfl, _, _, rfl, ⟨Nat.le_of_ble_eq_true (by kernel_rfl), trivial⟩, ?_⟩
    rw [addF, hq]
    kernel_rfl
  | true =>
    refine tr_cond rfl (fun h => nomatch (show false = true from h)) (fun _ => ?_)
    obtain ⟨e1, e2, e3, e4⟩ := sm_of hl hq H
    have hsub : IntKind.i64.wrap (1152921504606846976 - m) = 1152921504606846976 - m := wrap64_id (by omega) (by omega)
    repeat' (first | refine tr_seq ?_ | refine tr_block ?_ | refine tr_skip ?_)
    refine reg (T := tab) tOk hnt rfl ?_ ?_
    · exact ⟨rfl, rfl, st_okL _ _ hl _ _, trivial, trivial, trivial⟩
    rw [hM, hsub, eCells_length]
    refine tr_cond rfl (fun hc => ?_) (fun hc => ?_)
    · have hc := of_decide_eq_true hc
      repeat' (first | refine tr_seq ?_ | refine reg (T := tab) tOk hnt rfl ?_ ?_ | refine regD (T := tab) tOk mixedR hnt rfl (by decide +kernel) ?_ ?_ | refine tr_block ?_ | refine tr_skip ?_)
      · (dsimp only [AllP]; (repeat' first | exact trivial | apply And.intro | exact Nat.le_of_ble_eq_true (by kernel_rfl) | decide | kernel_rfl | exact rfl))
      refine tr_ret ⟨.inr rfl, _, _, rfl, ⟨Nat.le_of_ble_eq_true (by kernel_rfl), trivial⟩, ?_⟩
      rw [addF, hq, cond_true, if_pos hc]
      kernel_rfl
    · have hc := of_decide_eq_false hc
      have hfd : FnG Tryd.prog 21 gK [.agg (.es (List.take 74 (List.drop 0 (stE H l n m)))), .one (.e (eBytes b))] (.agg (.es (smE (feedF ⟨H, l.take n.toNat, m⟩ b)))) := by
        rw [all_of _ _ hL, e1]
        exact feed_fn _ b e2 (by show -4611686018427387904 ≤ m; omega) (by show m ≤ 4611686018427387904; omega) (by omega)
      have hr : (smE (feedF ⟨H, l.take n.toNat, m⟩ b)).length = 74 := smE_len _ (fold_held _ _ e2)
      repeat' (first | refine tr_seq ?_ | refine tr_block ?_ | refine tr_skip ?_)
      refine tr_region (lex (T := tab) tOk hnt rfl ?_ (callV rfl rfl rfl rfl rfl rfl rfl hnt rfl hfd (lex (T := tab) tOk hnt rfl ?_ (Lex.nil _)))) ?_
      · exact ⟨trivial, hfit⟩
      · refine ⟨trivial, ?_, Nat.le_of_ble_eq_true (by kernel_rfl), Nat.zero_le _⟩
        exact hr
      have hres : addF H l n m b = (feedF ⟨H, l.take n.toNat, m⟩ b, 0) := by rw [addF, hq, cond_true, if_neg hc]
      rw [hres]
      clear hres
      generalize feedF ⟨H, l.take n.toNat, m⟩ b = t at hr ⊢
      refine tr_le (s' := St.of [(4, .one (.ptr 4 0 0)), (5, .v (.int .i64 0))] [(4, ⟨0, .box (.es (smE t)), 0⟩)]) (le_of (ad := []) ⟨⟨rfl, rfl, rfl, rfl, rfl⟩, rfl, trivial⟩ (memOk_boxE rfl rfl (Eq.trans (b := List.take 0 (smE sZ) ++ smE t ++ List.drop (0 + 74) (smE sZ)) (by kernel_rfl) (put_all2 _ _ 74 sZ_len)) trivial)) ?_
      refine tr_ret ⟨.inr rfl, _, _, rfl, ⟨Nat.le_of_eq hr.symm, trivial⟩, ?_⟩
      exact congrArg (fun l => D.tup [(true, .es l), (false, .es [eI 0])]) (all_of _ 74 hr)
def sumF (b : List UInt8) : List UInt8 := endF (feedF s0 b)
set_option maxRecDepth 10000 in
theorem Sum_fn (b : List UInt8) (hb : b.length ≤ 1152921504606846976) : FnG Tryd.prog 8 gK [.one (.e (eBytes b))] (.agg (.es (bE (sumF b)))) := by
  refine fn_introG (T := tab) tOk Tryd.func8 rfl (by kernel_rfl) (by simp [Tryd.ntmps8]) ?_
  intro X hX
  have hnt : X.nt = 7 := hX
  clear hX
  have h1 := feed_fn s0 b (by decide) (by decide) (by decide) (by omega)
  have hlen : (feedF s0 b).len = (b.length : Int) := by
    unfold feedF
    rw [fold_len]
    exact Int.zero_add _
  have h2 := end_fn (feedF s0 b) (fold_held _ _ (show (0 : Nat) < 64 by decide)) (by rw [hlen]; omega) (by rw [hlen]; omega)
  rw [show endF (feedF s0 b) = sumF b from rfl] at h2
  have hr : (bE (sumF b)).length = 32 := by simp [bE, sumF, endF, outW_len]
  clear hlen
  generalize feedF s0 b = t at h1 h2
  generalize sumF b = o at h2 hr ⊢
  repeat' (first | refine tr_seq ?_ | refine reg (T := tab) tOk hnt rfl ?_ ?_ | refine regD (T := tab) tOk mixedR hnt rfl (by decide +kernel) ?_ ?_ | refine tr_block ?_ | refine tr_skip ?_)
  · (dsimp only [AllP]; (repeat' first | exact trivial | apply And.intro | exact Nat.le_of_ble_eq_true (by kernel_rfl) | decide | kernel_rfl | exact rfl))
  refine tr_region (lex (T := tab) tOk hnt rfl ?_ (call rfl rfl rfl rfl rfl rfl rfl hnt Begin_fn (lex (T := tab) tOk hnt rfl ?_ (callV rfl rfl rfl rfl rfl rfl rfl hnt rfl h1 (lex (T := tab) tOk hnt rfl ?_ (callV rfl rfl rfl rfl rfl rfl rfl hnt rfl h2 (lex (T := tab) tOk hnt rfl ?_ (Lex.nil _)))))))) ?_
  · exact trivial
  · exact trivial
  · exact trivial
  · refine ⟨?_, Nat.le_of_ble_eq_true (by kernel_rfl), Nat.zero_le _⟩
    exact hr
  refine tr_le (s' := St.of [(2, .one (.ptr 2 0 0))] [(2, ⟨0, .box (.es (bE o)), 0⟩)]) (le_of (ad := []) ⟨⟨rfl, rfl, rfl, rfl, rfl⟩, trivial⟩ (memOk_boxE rfl rfl (Eq.trans (b := List.take 0 (bE z32) ++ bE o ++ List.drop (0 + 32) (bE z32)) (by kernel_rfl) (put_all2 _ _ 32 rfl)) trivial)) ?_
  refine tr_ret ⟨.inr rfl, _, _, rfl, ⟨Nat.le_of_eq hr.symm, trivial⟩, ?_⟩
  exact congrArg (fun l => D.agg (.es l)) (all_of _ 32 hr)
def endR (H : H8) (l : List UInt8) (n m : Int) : List UInt8 × Int := bif sOk l n m then (endF ⟨H, l.take n.toNat, m⟩, 0) else (z32, 11)
def rEnd (x : List UInt8 × Int) : D := .tup [(true, .es (bE x.1)), (false, .es [eI x.2])]
set_option maxRecDepth 10000 in
theorem End_fn (H : H8) (l : List UInt8) (n m : Int) (hl : l.length = 64) : FnG Tryd.prog 14 gK [.agg (.es (stE H l n m))] (rEnd (endR H l n m)) := by
  refine fn_introG (T := tab) tOk Tryd.func14 rfl (by kernel_rfl) (by simp [Tryd.ntmps14]) ?_
  intro X hX
  have hnt : X.nt = 13 := hX
  clear hX
  have hL := st_len H l hl n m
  have hfit := st_fit H l hl n m (k := 0 + 74) (by decide)
  have hck : FnD Tryd.prog 23 [.agg (.es (List.take 74 (List.drop 0 (stE H l n m))))] (.v (.int .i64 (bif sOk l n m then 0 else 11))) := by
    rw [all_of _ _ hL]
    exact check_fn H l n m hl
  repeat' (first | refine tr_seq ?_ | refine reg (T := tab) tOk hnt rfl ?_ ?_ | refine regD (T := tab) tOk mixedR hnt rfl (by decide +kernel) ?_ ?_ | refine tr_block ?_ | refine tr_skip ?_)
  · (dsimp only [AllP]; (repeat' first | exact trivial | apply And.intro | exact Nat.le_of_ble_eq_true (by kernel_rfl) | decide | kernel_rfl | exact rfl))
  refine tr_region (lex (T := tab) tOk hnt rfl ?_ (call rfl rfl rfl rfl rfl rfl rfl hnt hck (lex (T := tab) tOk hnt rfl ?_ (Lex.nil _)))) ?_
  · exact hfit
  · exact trivial
  repeat' (first | refine tr_seq ?_ | refine reg (T := tab) tOk hnt rfl ?_ ?_ | refine regD (T := tab) tOk mixedR hnt rfl (by decide +kernel) ?_ ?_ | refine tr_block ?_ | refine tr_skip ?_)
  · exact ⟨rfl, trivial⟩
  cases hq : sOk l n m with
  | false =>
    refine tr_cond rfl (fun _ => ?_) (fun h => nomatch (show true = false from h))
    repeat' (first | refine tr_seq ?_ | refine reg (T := tab) tOk hnt rfl ?_ ?_ | refine regD (T := tab) tOk mixedR hnt rfl (by decide +kernel) ?_ ?_ | refine tr_block ?_ | refine tr_skip ?_)
    · (dsimp only [AllP]; (repeat' first | exact trivial | apply And.intro | exact Nat.le_of_ble_eq_true (by kernel_rfl) | decide | kernel_rfl | exact rfl))
    refine tr_ret ⟨.inr rfl, _, _, rfl, ⟨Nat.le_of_ble_eq_true (by kernel_rfl), trivial⟩, ?_⟩
    rw [endR, hq]
    kernel_rfl
  | true =>
    refine tr_cond rfl (fun h => nomatch (show false = true from h)) (fun _ => ?_)
    obtain ⟨e1, e2, e3, e4⟩ := sm_of hl hq H
    have hfd : FnG Tryd.prog 20 gK [.agg (.es (List.take 74 (List.drop 0 (stE H l n m))))] (.agg (.es (bE (endF ⟨H, l.take n.toNat, m⟩)))) := by
      rw [all_of _ _ hL, e1]
      exact end_fn _ e2 e3 e4
    have hr : (bE (endF ⟨H, l.take n.toNat, m⟩)).length = 32 := by simp [bE, endF, outW_len]
    repeat' (first | refine tr_seq ?_ | refine tr_block ?_ | refine tr_skip ?_)
    refine tr_region (lex (T := tab) tOk hnt rfl ?_ (callV rfl rfl rfl rfl rfl rfl rfl hnt rfl hfd (lex (T := tab) tOk hnt rfl ?_ (Lex.nil _)))) ?_
    · exact hfit
    · refine ⟨trivial, ?_, Nat.le_of_ble_eq_true (by kernel_rfl), Nat.zero_le _⟩
      exact hr
    have hres : endR H l n m = (endF ⟨H, l.take n.toNat, m⟩, 0) := by rw [endR, hq, cond_true]
    rw [hres]
    clear hres
    generalize endF ⟨H, l.take n.toNat, m⟩ = o at hr ⊢
    refine tr_le (s' := St.of [(2, .one (.ptr 2 0 0)), (3, .v (.int .i64 0))] [(2, ⟨0, .box (.es (bE o)), 0⟩)]) (le_of (ad := []) ⟨⟨rfl, rfl, rfl, rfl, rfl⟩, rfl, trivial⟩ (memOk_boxE rfl rfl (Eq.trans (b := List.take 0 (bE z32) ++ bE o ++ List.drop (0 + 32) (bE z32)) (by kernel_rfl) (put_all2 _ _ 32 rfl)) trivial)) ?_
    refine tr_ret ⟨.inr rfl, _, _, rfl, ⟨Nat.le_of_eq hr.symm, trivial⟩, ?_⟩
    exact congrArg (fun l => D.tup [(true, .es l), (false, .es [eI 0])]) (all_of _ 32 hr)
end Go.Proofs.YtmicapdbgjafnaaDoor
