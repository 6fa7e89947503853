/- SHA-256 as the document has it: streams and sums. No condition. -/
import Derived.Test.YtjpmghphkkhcjaaDoorTSh8
namespace Go.Proofs.YtjpmghphkkhcjaaDoor
open Go Go.RowKit Go.Proofs.YtjpmghphkkhcjaaDoor.Ab

theorem getB1 (l : List UInt8) {i : Nat} (h : i < l.length) : (bE l).getD (i * 1) E.dflt = eB (l.getD i 0) := by
  rw [Nat.mul_one]
  simp [bE, h]
theorem okB1 (l : List UInt8) {i : Nat} (h : i < l.length) : i * 1 < (Cs.es (bE l)).len ∧ D0.isA (.int .u8) ((Cs.es (bE l)).at (i * 1)) := by
  refine ⟨?_, ?_⟩
  · show i * 1 < (bE l).length
    simp [bE, h]
  · show E.as (.int .u8) ((bE l).getD (i * 1) E.dflt) = (bE l).getD (i * 1) E.dflt
    rw [getB1 l h]
    rfl
theorem bytesOf_chunks (l : List UInt8) (h : l.length = 64) : chunksE 1 64 (bE l) = eCells l := by
  apply List.ext_getElem
  · rw [chunksE_len, eCells_length, h]
  · intro i a b
    rw [chunksE_len] at a
    have hi : i < l.length := by omega
    have := (chunksE_get (List.getElem?_eq_getElem (l := chunksE 1 64 (bE l)) (i := i) (by rw [chunksE_len]; exact a))).2
    rw [this, Nat.mul_one]
    simp [bE, eCells, List.take_one, hi]
set_option maxRecDepth 10000 in
theorem heldOf_fn (H : H8) (l : List UInt8) (n m : Int) (hl : l.length = 64) (h0 : 0 ≤ n) (h1 : n ≤ 64) : FnD Tryd.prog 94 [.agg (.es (stE H l n m))] (.v (.string (strB (l.take n.toNat)))) := by
  refine fn_intro (T := tab) tOk Tryd.func94 rfl (by kernel_rfl) (by simp [Tryd.ntmps94]) ?_
  intro X hX
  have hnt : X.nt = 11 := hX
  clear hX
  have hN : ((stE H l n m).getD (0 + 72) E.dflt).int = n := by
    rw [st_N _ _ hl]
    rfl
  have hb : (bE l).length = 64 := by simp [bE, hl]
  repeat' (first | refine tr_seq ?_ | refine tr_block ?_ | refine tr_skip ?_)
  refine reg (T := tab) tOk hnt rfl (by (dsimp only [AllP]; (repeat' first | exact trivial | assumption | exact Nat.le_of_ble_eq_true rfl | apply And.intro | intro _ | exact rfl))) ?_
  repeat' (first | refine tr_seq ?_ | refine tr_block ?_ | refine tr_skip ?_)
  refine reg (T := tab) tOk hnt rfl ?_ ?_
  · refine ⟨⟨?_, Nat.le_of_ble_eq_true (by kernel_rfl), Nat.zero_le _⟩, trivial, st_fit _ _ hl _ _ (by decide), trivial⟩
    show (List.take 64 (List.drop (0 + 8) (stE H l n m))).length = 64
    rw [st_Held H l hl, hb]
  refine tr_le (s' := St.of [(1, .one (.ptr 1 0 0)), (3, .one (.ptr 3 0 0))] [(1, ⟨0, .box (.es (stE H l n m)), 0⟩), (3, ⟨0, .box (.es (bE l)), 0⟩)]) (le_of (ad := []) ⟨⟨rfl, rfl, rfl, rfl, rfl⟩, ⟨rfl, rfl, rfl, rfl, rfl⟩, trivial⟩ (memOk_box rfl rfl rfl (memOk_boxE rfl rfl (Eq.trans (b := List.take 0 (bE zB) ++ List.take 64 (List.drop (0 + 8) (stE H l n m)) ++ List.drop (0 + 64) (bE zB)) (by kernel_rfl) ((put_all2 _ _ 64 rfl).trans (st_Held H l hl n m))) trivial))) ?_
  repeat' (first | refine tr_seq ?_ | refine tr_block ?_ | refine tr_skip ?_)
  have hch : chunksE 1 (((64 : Nat) : Int) - 0).toNat (List.drop (0 + Int.toNat 0 * 1) (bE l)) = eCells l := bytesOf_chunks l hl
  refine regD (T := tab) tOk mixedR hnt rfl (by decide +kernel) ?_ ?_
  · dsimp only [AllP]
    rw [hch, hN, strB_of, strB_size, hl]
    refine ⟨trivial, ⟨Int.le_refl _, h0, h1⟩, st_okN _ _ hl _ _, trivial, eCells_isByte l, Int.le_refl _, by decide, by decide, by decide, ?_, by decide, by decide⟩
    show 0 + 64 * 1 ≤ (bE l).length
    omega
  refine tr_ret ⟨.inr rfl, _, _, rfl, by trivial, ?_⟩
  refine Eq.trans (b := D.v (.string ((bytesOf (chunksE 1 (((64 : Nat) : Int) - 0).toNat (List.drop (0 + Int.toNat 0 * 1) (bE l)))).extract (Int.toNat 0) ((stE H l n m).getD (0 + 72) E.dflt).int.toNat))) rfl ?_
  rw [hch, hN, strB_of, strB_extract, show Int.toNat 0 = 0 from rfl, List.drop_zero]
set_option maxRecDepth 10000 in
theorem blocks_fn (H : H8) (l : List UInt8) (hl : l.length ≤ 4611686018427387904) : FnD Tryd.prog 95 [.agg (.es (hE H)), .v (.string (strB l))] (.agg (.es (hE (blks H l)))) := by
  refine fn_intro (T := tab) tOk Tryd.func95 rfl (by kernel_rfl) (by simp [Tryd.ntmps95]) ?_
  intro X hX
  have hnt : X.nt = 15 := hX
  clear hX
  repeat' (first | refine tr_seq ?_ | refine reg (T := tab) tOk hnt rfl ?_ ?_ | refine regD (T := tab) tOk mixedR hnt rfl (by decide +kernel) ?_ ?_ | refine tr_block ?_ | refine tr_skip ?_)
  · (dsimp only [AllP]; (repeat' first | exact trivial | apply And.intro | exact Nat.le_of_ble_eq_true (by kernel_rfl) | decide | kernel_rfl | exact rfl))
  refine tr_loop (σ := H8 × List UInt8) (fun x => St.of [(1, .v (.string (strB x.2))), (2, .one (.ptr 2 0 0)), (4, .one (.ptr 4 0 0))] [(2, ⟨0, .box (.es (hE x.1)), 0⟩), (4, ⟨0, .box (.es (hE hZ)), 0⟩)]) (fun x => blks x.1 x.2 = blks H l ∧ x.2.length ≤ l.length) (fun x => x.2.length) (H, l) (le_of (ad := []) ⟨rfl, ⟨rfl, rfl, rfl, rfl, rfl⟩, ⟨rfl, rfl, rfl, rfl, rfl⟩, trivial⟩ (memOk_box rfl rfl rfl (memOk_boxE rfl rfl (by kernel_rfl) trivial))) ⟨rfl, Nat.le_refl _⟩ ?_
  rintro ⟨K, r⟩ ⟨j1, j2⟩
  dsimp only at j1 j2 ⊢
  have j1 : Hd (blks K r = blks H l) := ⟨j1⟩
  repeat' (first | refine tr_seq ?_ | refine tr_block ?_ | refine tr_skip ?_)
  refine reg (T := tab) tOk hnt rfl (by (dsimp only [AllP]; (repeat' first | exact trivial | assumption | exact Nat.le_of_ble_eq_true rfl | apply And.intro | intro _ | exact rfl))) ?_
  rw [strB_size]
  refine tr_cond rfl (fun hc => ?_) (fun hc => ?_)
  · have hc := of_decide_eq_true hc
    have h64 : 64 ≤ r.length := by omega
    have htl : (r.take 64).length = 64 := by
      rw [List.length_take]
      omega
    have hbl : FnD Tryd.prog 99 [.agg (.es (List.take 8 (List.drop 0 (hE K)))), .v (.string ((strB r).extract (Int.toNat 0) (Int.toNat 64)))] (.agg (.es (hE (comp K (r.take 64))))) := by
      rw [all_of (hE K) 8 rfl, strB_extract, show Int.toNat 0 = 0 from rfl, List.drop_zero, show Int.toNat 64 = 64 from rfl]
      have := block_fn K (strB (r.take 64)) (by rw [strB_size, htl]; decide) (by rw [strB_size, htl]; decide)
      rw [strB_list] at this
      exact this
    have hnext : Hd (blks (comp K (r.take 64)) (r.drop 64) = blks H l) := ⟨by
      have e := blks_one K (r.take 64) (r.drop 64) htl
      rw [List.take_append_drop] at e
      rw [← j1.out, e]⟩
    generalize comp K (r.take 64) = K2 at hbl hnext
    repeat' (first | refine tr_seq ?_ | refine tr_block ?_ | refine tr_skip ?_)
    refine tr_draw (T := tab) tOk hnt mixedR (lexD (T := tab) rfl ?_ (callD rfl rfl rfl rfl rfl rfl rfl rfl hbl (lexD (T := tab) rfl ?_ (.nil _)))) (by decide +kernel) ?_
    · refine ⟨⟨Int.le_refl _, by decide, ?_⟩, trivial, Nat.le_of_ble_eq_true rfl⟩
      rw [strB_size]
      omega
    · exact ⟨rfl, Nat.le_of_ble_eq_true rfl, Nat.zero_le _⟩
    have hex : (strB r).extract (Int.toNat 64) (((strB r).size : Nat) : Int).toNat = strB (r.drop 64) := by
      rw [strB_extract, Int.toNat_natCast, strB_size, List.take_length]
      rfl
    repeat' (first | refine tr_seq ?_ | refine tr_block ?_ | refine tr_skip ?_)
    refine reg (T := tab) tOk hnt rfl ?_ ?_
    · refine ⟨trivial, ⟨by decide, ?_, Int.le_refl _⟩, trivial⟩
      rw [strB_size]
      omega
    rw [hex]
    refine ⟨(K2, r.drop 64), ⟨hnext.out, by dsimp only; rw [List.length_drop]; omega⟩, by dsimp only; rw [List.length_drop]; omega, le_of (ad := []) ⟨rfl, ⟨rfl, rfl, rfl, rfl, rfl⟩, ⟨rfl, rfl, rfl, rfl, rfl⟩, trivial⟩ (memOk_boxE rfl rfl (put_all2 (hE K) (hE K2) 8 rfl) (memOk_box rfl rfl rfl trivial))⟩
  have hc := of_decide_eq_false hc
  have hKl : Hd (blks H l = K) := ⟨by rw [← j1.out, blks_few K r (by omega)]⟩
  rw [hKl.out]
  refine tr_exit ?_
  repeat' (first | refine tr_seq ?_ | refine tr_block ?_ | refine tr_skip ?_)
  refine reg (T := tab) tOk hnt rfl ?_ ?_
  · exact ⟨⟨Nat.le_antisymm (Nat.le_of_ble_eq_true rfl) (Nat.le_of_ble_eq_true rfl), Nat.le_of_ble_eq_true rfl, Nat.zero_le _⟩, Nat.le_of_ble_eq_true rfl⟩
  refine tr_le (s' := St.of [(4, .one (.ptr 4 0 0))] [(4, ⟨0, .box (.es (hE K)), 0⟩)]) (le_of (ad := []) ⟨⟨rfl, rfl, rfl, rfl, rfl⟩, trivial⟩ (memOk_boxE rfl rfl (put_all (hE hZ) (hE K) 8 rfl rfl) trivial)) ?_
  refine tr_ret ⟨.inr rfl, _, _, rfl, ⟨Nat.le_of_ble_eq_true rfl, trivial⟩, ?_⟩
  exact congrArg (fun l => D.agg (.es l)) (all_of _ 8 rfl)
/-- a constant's eight words, as hex digits -/
def chkF (s : ByteArray) : Bool := Nat.beq s.data.toList.length 64 && (List.range 8).all fun i => decide (hexF ((s.data.toList.take (8 * i + 8)).drop (8 * i)) = h0W.l.getD i 0)
theorem hexF_fn (s : ByteArray) (i : Nat) (hs : chkF s = true) (h : i < 8) : FnD Tryd.prog 96 [.v (.string s), .one (.e (eI i))] (dW (h0W.l.getD i 0)) := by
  unfold chkF at hs
  rw [Bool.and_eq_true] at hs
  have h1 : s.size = 64 := Nat.eq_of_beq_eq_true hs.1
  have h2 := of_decide_eq_true (List.all_eq_true.1 hs.2 i (List.mem_range.2 h))
  have := hexWord_fn s i (by omega) (by omega)
  rw [h2] at this
  exact this
def stL (ws : List W) : List E := wE ws ++ (bE zB ++ [eI 0, eI 0])
set_option maxRecDepth 10000 in
theorem Begun_fn : FnD Tryd.prog 86 [] (.agg (.es (smE s0))) := by
  refine fn_intro (T := tab) tOk Tryd.func86 rfl (by kernel_rfl) (by simp [Tryd.ntmps86]) ?_
  intro X hX
  have hnt : X.nt = 13 := hX
  clear hX
  repeat' (first | refine tr_seq ?_ | refine reg (T := tab) tOk hnt rfl ?_ ?_ | refine regD (T := tab) tOk mixedR hnt rfl (by decide +kernel) ?_ ?_ | refine tr_block ?_ | refine tr_skip ?_)
  · exact trivial
  · exact trivial
  · exact trivial
  refine tr_loop (σ := Nat) (fun i => St.of [(0, .one (.ptr 0 0 0)), (1, .one (.ptr 1 0 0)), (3, .v (.int .i64 i))] [(0, ⟨0, .box (.es (smE sZ)), 0⟩), (1, ⟨0, .box (.es (stL (h0W.l.take i ++ List.replicate (8 - i) 0))), 0⟩)]) (fun i => i ≤ 8) (fun i => 8 - i) 0 (le_of (ad := []) ⟨⟨rfl, rfl, rfl, rfl, rfl⟩, ⟨rfl, rfl, rfl, rfl, rfl⟩, rfl, trivial⟩ (memOk_boxE rfl rfl (by kernel_rfl) (memOk_boxE rfl rfl (by kernel_rfl) trivial))) (Nat.zero_le _) ?_
  intro i hi
  repeat' (first | refine tr_seq ?_ | refine reg (T := tab) tOk hnt rfl ?_ ?_ | refine regD (T := tab) tOk mixedR hnt rfl (by decide +kernel) ?_ ?_ | refine tr_block ?_ | refine tr_skip ?_)
  · (dsimp only [AllP]; (repeat' first | exact trivial | assumption | exact Nat.le_of_ble_eq_true rfl | apply And.intro | intro _ | exact rfl))
  refine tr_cond rfl (fun hc => ?_) (fun hc => ?_)
  · have hc := of_decide_eq_true hc
    have hi8 : i < 8 := by omega
    repeat' (first | refine tr_seq ?_ | refine tr_block ?_ | refine tr_skip ?_)
    refine reg (T := tab) tOk hnt rfl (by (dsimp only [AllP]; (repeat' first | exact trivial | assumption | exact Nat.le_of_ble_eq_true rfl | apply And.intro | intro _ | exact rfl))) ?_
    repeat' (first | refine tr_seq ?_ | refine tr_block ?_ | refine tr_skip ?_)
    refine tr_region (lex (T := tab) tOk hnt rfl ?_ (call rfl rfl rfl rfl rfl rfl rfl hnt (hexF_fn _ i (by decide +kernel) hi8) (lex (T := tab) tOk hnt rfl ?_ (Lex.nil _)))) ?_
    · exact ⟨trivial, trivial⟩
    · rcases (show i = 0 ∨ i = 1 ∨ i = 2 ∨ i = 3 ∨ i = 4 ∨ i = 5 ∨ i = 6 ∨ i = 7 by omega) with rfl | rfl | rfl | rfl | rfl | rfl | rfl | rfl <;> (dsimp only [AllP]; (repeat' first | exact trivial | apply And.intro | exact Nat.le_of_ble_eq_true (by kernel_rfl) | decide | kernel_rfl | exact rfl))
    repeat' (first | refine tr_seq ?_ | refine reg (T := tab) tOk hnt rfl ?_ ?_ | refine regD (T := tab) tOk mixedR hnt rfl (by decide +kernel) ?_ ?_ | refine tr_block ?_ | refine tr_skip ?_)
    · exact ⟨trivial, rfl⟩
    refine ⟨i + 1, hi8, by omega, le_of (ad := []) ⟨⟨rfl, rfl, rfl, rfl, rfl⟩, ⟨rfl, rfl, rfl, rfl, rfl⟩, congrArg (fun z : Int => E.v (.int .i64 z)) (wrap64_id (by omega) (by omega)), trivial⟩ (memOk_box rfl rfl rfl (memOk_boxE rfl rfl ?_ trivial))⟩
    rcases (show i = 0 ∨ i = 1 ∨ i = 2 ∨ i = 3 ∨ i = 4 ∨ i = 5 ∨ i = 6 ∨ i = 7 by omega) with rfl | rfl | rfl | rfl | rfl | rfl | rfl | rfl <;> kernel_rfl
  have hc := of_decide_eq_false hc
  have hi : i = 8 := by omega
  subst hi
  refine tr_exit ?_
  repeat' (first | refine tr_seq ?_ | refine reg (T := tab) tOk hnt rfl ?_ ?_ | refine regD (T := tab) tOk mixedR hnt rfl (by decide +kernel) ?_ ?_ | refine tr_block ?_ | refine tr_skip ?_)
  · (dsimp only [AllP]; (repeat' first | exact trivial | apply And.intro | exact Nat.le_of_ble_eq_true (by kernel_rfl) | decide | kernel_rfl | exact rfl))
  refine tr_ret ⟨.inr rfl, _, _, rfl, ⟨Nat.le_of_ble_eq_true (by kernel_rfl), trivial⟩, by kernel_rfl⟩
set_option maxRecDepth 10000 in
theorem bad_fn (H : H8) (l : List UInt8) (n m : Int) (hl : l.length = 64) : FnD Tryd.prog 93 [.agg (.es (stE H l n m))] (.v (.bool (!sOk l n m))) := by
  refine fn_intro (T := tab) tOk Tryd.func93 rfl (by kernel_rfl) (by simp [Tryd.ntmps93]) ?_
  intro X hX
  have hnt : X.nt = 36 := hX
  clear hX
  have hN : ((stE H l n m).getD (0 + 72) E.dflt).int = n := by
    rw [st_N _ _ hl]
    rfl
  have hM : ((stE H l n m).getD (0 + 73) E.dflt).int = m := by
    rw [st_L _ _ hl]
    rfl
  repeat' (first | refine tr_seq ?_ | refine reg (T := tab) tOk hnt rfl ?_ ?_ | refine regD (T := tab) tOk mixedR hnt rfl (by decide +kernel) ?_ ?_ | refine tr_block ?_ | refine tr_skip ?_)
  · (dsimp only [AllP]; (repeat' first | exact trivial | assumption | exact Nat.le_of_ble_eq_true rfl | apply And.intro | intro _ | exact rfl))
  · (dsimp only [AllP]; (repeat' first | exact trivial | exact rfl | exact (st_okN H l hl n m) | exact (st_okL H l hl n m) | apply And.intro | exact (show (64 : Int) ≠ 0 by decide) | intro _ | assumption | decide))
  rw [hM, hN]
  refine tr_cond rfl (fun hc => ?_) (fun hc => ?_)
  · have hc := (condB n m).symm.trans hc
    have hbad : sOk l n m = false := by
      cases hq : sOk l n m with
      | false => rfl
      | true =>
        obtain ⟨h0, h1, h2, _⟩ := sOk_of hq
        rw [decide_eq_true h0, decide_eq_true h1, decide_eq_true h2] at hc
        cases hc
    repeat' (first | refine tr_seq ?_ | refine reg (T := tab) tOk hnt rfl ?_ ?_ | refine regD (T := tab) tOk mixedR hnt rfl (by decide +kernel) ?_ ?_ | refine tr_block ?_ | refine tr_skip ?_)
    · exact trivial
    refine tr_ret ⟨.inr rfl, _, _, rfl, by trivial, ?_⟩
    rw [hbad]
    rfl
  have hc := (condB n m).symm.trans hc
  simp only [Bool.not_eq_false', Bool.and_eq_true, decide_eq_true_eq] at hc
  obtain ⟨h0, h1, h2⟩ := hc
  obtain ⟨n0, n1⟩ := sOk_mod h0 h1 h2
  repeat' (first | refine tr_seq ?_ | refine tr_block ?_ | refine tr_skip ?_)
  refine reg (T := tab) tOk hnt rfl ?_ ?_
  · exact ⟨trivial, st_fit _ _ hl _ _ (by decide), trivial⟩
  rw [st_Held H l hl]
  repeat' (first | refine tr_seq ?_ | refine tr_block ?_ | refine tr_skip ?_)
  refine tr_loop (σ := Nat) (fun i => St.of [(1, .one (.ptr 1 0 0)), (22, .agg (.es (bE l))), (23, .v (.int .i64 i))] [(1, ⟨0, .box (.es (stE H l n m)), 0⟩)]) (fun i => i ≤ 64 ∧ ∀ j, n.toNat ≤ j → j < i → l.getD j 0 = 0) (fun i => 64 - i) 0 (le_of (ad := []) ⟨⟨rfl, rfl, rfl, rfl, rfl⟩, rfl, rfl, trivial⟩ (memOk_box rfl rfl rfl trivial)) ⟨Nat.zero_le _, fun j a b => by omega⟩ ?_
  rintro i ⟨j2, j3⟩
  repeat' (first | refine tr_seq ?_ | refine reg (T := tab) tOk hnt rfl ?_ ?_ | refine regD (T := tab) tOk mixedR hnt rfl (by decide +kernel) ?_ ?_ | refine tr_block ?_ | refine tr_skip ?_)
  · (dsimp only [AllP]; (repeat' first | exact trivial | assumption | exact Nat.le_of_ble_eq_true rfl | apply And.intro | intro _ | exact rfl))
  refine tr_cond rfl (fun hc => ?_) (fun hc => ?_)
  · have hc := of_decide_eq_true hc
    have hi : i < 64 := by omega
    have hv : ((bE l).getD (i * 1) E.dflt).int = ((l.getD i 0).toNat : Int) := by
      rw [getB1 l (by omega)]
      rfl
    repeat' (first | refine tr_seq ?_ | refine reg (T := tab) tOk hnt rfl ?_ ?_ | refine regD (T := tab) tOk mixedR hnt rfl (by decide +kernel) ?_ ?_ | refine tr_block ?_ | refine tr_skip ?_)
    · dsimp only [AllP]
      rw [Int.toNat_natCast]
      exact ⟨trivial, trivial, ⟨Int.natCast_nonneg _, by omega, okB1 l (by omega)⟩, trivial⟩
    · exact ⟨fun h => h, fun h => ⟨h, rfl⟩, fun _ => trivial, trivial, rfl, st_okN _ _ hl _ _, trivial, trivial⟩
    rw [Int.toNat_natCast, hv, hN]
    refine tr_cond rfl (fun hc => ?_) (fun hc => ?_)
    · have hc2 : n ≤ i ∧ ¬ (((l.getD i 0).toNat : Nat) : Int) = 0 := by
        by_cases a : n ≤ (i : Int)
        · rw [decide_eq_true a] at hc
          exact ⟨a, by simpa using hc⟩
        · rw [decide_eq_false a] at hc
          cases hc
      have hbad : sOk l n m = false := by
        cases hq : sOk l n m with
        | false => rfl
        | true =>
          obtain ⟨_, _, _, h4⟩ := sOk_of hq
          have := h4 i (by omega) (by omega)
          rw [this] at hc2
          exact absurd rfl hc2.2
      repeat' (first | refine tr_seq ?_ | refine reg (T := tab) tOk hnt rfl ?_ ?_ | refine regD (T := tab) tOk mixedR hnt rfl (by decide +kernel) ?_ ?_ | refine tr_block ?_ | refine tr_skip ?_)
      · exact trivial
      refine tr_ret ⟨.inr rfl, _, _, rfl, by trivial, ?_⟩
      rw [hbad]
      rfl
    · have hz : n ≤ i → l.getD i 0 = 0 := fun a => by
        rw [decide_eq_true a] at hc
        have hc : (((l.getD i 0).toNat : Nat) : Int) = 0 := by simpa using hc
        exact UInt8.toNat_inj.1 (by simpa using hc)
      repeat' (first | refine tr_seq ?_ | refine reg (T := tab) tOk hnt rfl ?_ ?_ | refine regD (T := tab) tOk mixedR hnt rfl (by decide +kernel) ?_ ?_ | refine tr_block ?_ | refine tr_skip ?_)
      · (dsimp only [AllP]; (repeat' first | exact trivial | assumption | exact Nat.le_of_ble_eq_true rfl | apply And.intro | intro _ | exact rfl))
      refine ⟨i + 1, ⟨by omega, fun j a b => ?_⟩, by omega, le_of (ad := []) ⟨⟨rfl, rfl, rfl, rfl, rfl⟩, rfl, congrArg (fun z : Int => E.v (.int .i64 z)) (wrap64_id (by omega) (by omega)), trivial⟩ (memOk_box rfl rfl rfl trivial)⟩
      rcases Nat.lt_or_ge j i with h | h
      · exact j3 j a h
      · rw [show j = i by omega]
        exact hz (by omega)
  have hc := of_decide_eq_false hc
  have hgood : sOk l n m = true := sOk_mk h0 h1 h2 fun j a b => j3 j (by omega) (by omega)
  refine tr_exit ?_
  repeat' (first | refine tr_seq ?_ | refine reg (T := tab) tOk hnt rfl ?_ ?_ | refine regD (T := tab) tOk mixedR hnt rfl (by decide +kernel) ?_ ?_ | refine tr_block ?_ | refine tr_skip ?_)
  · exact trivial
  refine tr_ret ⟨.inr rfl, _, _, rfl, by trivial, ?_⟩
  rw [hgood]
  rfl
end Go.Proofs.YtjpmghphkkhcjaaDoor
