/- SHA-256 as the program has it: streams are begun, checked, fed and ended; sums. No condition. -/
import Derived.Test.YtphaholcndhonaaDoorAbEnc
import Derived.Test.YtphaholcndhonaaDoorTShW
namespace Go.Proofs.YtphaholcndhonaaDoor
open Go Go.RowKit Go.Proofs.YtphaholcndhonaaDoor.Ab

def s0 : Sm := ⟨h0W, [], 0⟩
set_option maxRecDepth 10000 in
theorem Begin_fn : FnD Tryd.prog 179 [] (.agg (.es (smE s0))) := by
  refine fn_intro (T := tab) tOk Tryd.func179 rfl (by kernel_rfl) (by simp [Tryd.ntmps179]) ?_
  intro X hX
  have hnt : X.nt = 3 := hX
  clear hX
  repeat' (first | refine tr_seq ?_ | refine reg (T := tab) tOk hnt rfl ?_ ?_ | refine regD (T := tab) tOk mixedR hnt rfl (by decide +kernel) ?_ ?_ | refine tr_block ?_ | refine tr_skip ?_)
  · (dsimp only [AllP]; (repeat' first | exact trivial | apply And.intro | exact Nat.le_of_ble_eq_true (by kernel_rfl) | decide | kernel_rfl | exact rfl))
  · (dsimp only [AllP]; (repeat' first | exact trivial | apply And.intro | exact Nat.le_of_ble_eq_true (by kernel_rfl) | decide | kernel_rfl | exact rfl))
  refine tr_ret ⟨.inr rfl, _, _, rfl, ⟨Nat.le_of_ble_eq_true (by kernel_rfl), trivial⟩, by kernel_rfl⟩

/-- a stream is as a stream may be -/
def sOk (l : List UInt8) (n m : Int) : Bool := decide (0 ≤ m) && (decide (m ≤ 1152921504606846976) && (decide (n = Int.tmod m 64) && (l.drop n.toNat).all (fun c => decide (c = 0))))
theorem sOk_mod {n m : Int} (h0 : 0 ≤ m) (_h1 : m ≤ 1152921504606846976) (h2 : n = Int.tmod m 64) : 0 ≤ n ∧ n < 64 := by
  rw [h2, Int.tmod_eq_emod_of_nonneg h0]
  omega
theorem sOk_of {l : List UInt8} {n m : Int} (h : sOk l n m = true) : 0 ≤ m ∧ m ≤ 1152921504606846976 ∧ n = Int.tmod m 64 ∧ ∀ j, n.toNat ≤ j → j < l.length → l.getD j 0 = 0 := by
  simp only [sOk, Bool.and_eq_true, decide_eq_true_eq] at h
  obtain ⟨h0, h1, h2, h3⟩ := h
  refine ⟨h0, h1, h2, fun j hj hjl => ?_⟩
  have := List.all_eq_true.1 h3 (l.getD j 0) (by
    rw [List.mem_iff_getElem?]
    exact ⟨j - n.toNat, by rw [List.getElem?_drop, show n.toNat + (j - n.toNat) = j by omega]; simp [hjl]⟩)
  exact of_decide_eq_true this
theorem sOk_mk {l : List UInt8} {n m : Int} (h0 : 0 ≤ m) (h1 : m ≤ 1152921504606846976) (h2 : n = Int.tmod m 64) (h3 : ∀ j, n.toNat ≤ j → j < l.length → l.getD j 0 = 0) : sOk l n m = true := by
  simp only [sOk, Bool.and_eq_true, decide_eq_true_eq]
  refine ⟨h0, h1, h2, List.all_eq_true.2 fun c hc => ?_⟩
  obtain ⟨j, hj⟩ := List.mem_iff_getElem?.1 hc
  rw [List.getElem?_drop] at hj
  have hlt := (List.getElem?_eq_some_iff.1 hj).1
  have := h3 (n.toNat + j) (by omega) hlt
  rw [List.getD_eq_getElem?_getD, hj] at this
  exact decide_eq_true this
theorem condB (n m : Int) : (bif (bif decide (m < 0) then true else decide (1152921504606846976 < m)) then true else !decide (n = Int.tmod m 64)) = !(decide (0 ≤ m) && (decide (m ≤ 1152921504606846976) && decide (n = Int.tmod m 64))) := by
  by_cases h1 : m < 0 <;> by_cases h2 : 1152921504606846976 < m <;> by_cases h3 : n = Int.tmod m 64 <;> simp [h1, h2, h3, Int.not_le.2, Int.not_lt.1] <;> omega
theorem sm_of {l : List UInt8} {n m : Int} (hl : l.length = 64) (h : sOk l n m = true) (H : H8) : stE H l n m = smE ⟨H, l.take n.toNat, m⟩ ∧ (l.take n.toNat).length < 64 ∧ 0 ≤ m ∧ m ≤ 1152921504606846976 := by
  obtain ⟨h0, h1, h2, h3⟩ := sOk_of h
  obtain ⟨n0, n1⟩ := sOk_mod h0 h1 h2
  have hlen : (l.take n.toNat).length = n.toNat := by
    rw [List.length_take]
    omega
  have hpad : padB (l.take n.toNat) = l := by
    unfold padB
    rw [hlen]
    apply List.ext_getElem
    · simp
      omega
    · intro i a b
      rcases Nat.lt_or_ge i n.toNat with hi | hi
      · rw [List.getElem_append_left (by omega)]
        simp
      · rw [List.getElem_append_right (by omega)]
        have := h3 i hi b
        rw [List.getD_eq_getElem?_getD, List.getElem?_eq_getElem b] at this
        simp at this ⊢
        exact this.symm
  refine ⟨?_, by omega, h0, h1⟩
  unfold smE
  show stE H l n m = stE H (padB (l.take n.toNat)) ((l.take n.toNat).length : Int) m
  rw [hpad, hlen]
  congr 1
  omega
def sZ : Sm := ⟨hZ, [], 0⟩
theorem sZ_len : (smE sZ).length = 74 := rfl
def addF (H : H8) (l : List UInt8) (n m : Int) (b : List UInt8) : Sm × Int :=
  bif sOk l n m then (if 1152921504606846976 - m < (b.length : Int) then (sZ, 1) else (feedF ⟨H, l.take n.toNat, m⟩ b, 0)) else (sZ, 11)
def rAdd (x : Sm × Int) : D := .tup [(true, .es (smE x.1)), (false, .es [eI x.2])]
def sumF (b : List UInt8) : List UInt8 := endF (feedF s0 b)
set_option maxRecDepth 10000 in
theorem Sum_fn (b : List UInt8) (hb : b.length ≤ 1152921504606846976) : FnG Tryd.prog 164 gK [.one (.e (eBytes b))] (.agg (.es (bE (sumF b)))) := by
  refine fn_introG (T := tab) tOk Tryd.func164 rfl (by kernel_rfl) (by simp [Tryd.ntmps164]) ?_
  intro X hX
  have hnt : X.nt = 7 := hX
  clear hX
  have h1 := feed_fn s0 b (by decide) (by decide) (by decide) (by omega)
  have hlen : (feedF s0 b).len = (b.length : Int) := by
    unfold feedF
    rw [fold_len]
    exact Int.zero_add _
  have h2 := end_fn (feedF s0 b) (fold_held _ _ (show (0 : Nat) < 64 by decide)) (by rw [hlen]; omega) (by rw [hlen]; omega)
  rw [show endF (feedF s0 b) = sumF b from rfl] at h2
  have hr : (bE (sumF b)).length = 32 := by simp [bE, sumF, endF, outW_len]
  clear hlen
  generalize feedF s0 b = t at h1 h2
  generalize sumF b = o at h2 hr ⊢
  repeat' (first | refine tr_seq ?_ | refine reg (T := tab) tOk hnt rfl ?_ ?_ | refine regD (T := tab) tOk mixedR hnt rfl (by decide +kernel) ?_ ?_ | refine tr_block ?_ | refine tr_skip ?_)
  · (dsimp only [AllP]; (repeat' first | exact trivial | apply And.intro | exact Nat.le_of_ble_eq_true (by kernel_rfl) | decide | kernel_rfl | exact rfl))
  refine tr_region (lex (T := tab) tOk hnt rfl ?_ (call rfl rfl rfl rfl rfl rfl rfl hnt Begin_fn (lex (T := tab) tOk hnt rfl ?_ (callV rfl rfl rfl rfl rfl rfl rfl hnt rfl h1 (lex (T := tab) tOk hnt rfl ?_ (callV rfl rfl rfl rfl rfl rfl rfl hnt rfl h2 (lex (T := tab) tOk hnt rfl ?_ (Lex.nil _)))))))) ?_
  · exact trivial
  · exact trivial
  · exact trivial
  · refine ⟨?_, Nat.le_of_ble_eq_true (by kernel_rfl), Nat.zero_le _⟩
    exact hr
  refine tr_le (s' := St.of [(2, .one (.ptr 2 0 0))] [(2, ⟨0, .box (.es (bE o)), 0⟩)]) (le_of (ad := []) ⟨⟨rfl, rfl, rfl, rfl, rfl⟩, trivial⟩ (memOk_boxE rfl rfl (Eq.trans (b := List.take 0 (bE z32) ++ bE o ++ List.drop (0 + 32) (bE z32)) (by kernel_rfl) (put_all2 _ _ 32 rfl)) trivial)) ?_
  refine tr_ret ⟨.inr rfl, _, _, rfl, ⟨Nat.le_of_eq hr.symm, trivial⟩, ?_⟩
  exact congrArg (fun l => D.agg (.es l)) (all_of _ 32 hr)
def endR (H : H8) (l : List UInt8) (n m : Int) : List UInt8 × Int := bif sOk l n m then (endF ⟨H, l.take n.toNat, m⟩, 0) else (z32, 11)
def rEnd (x : List UInt8 × Int) : D := .tup [(true, .es (bE x.1)), (false, .es [eI x.2])]
end Go.Proofs.YtphaholcndhonaaDoor
namespace Go.Proofs.YtphaholcndhonaaDoor
open Go Go.RowKit Go.Proofs.YtphaholcndhonaaDoor.Ab

theorem getB1 (l : List UInt8) {i : Nat} (h : i < l.length) : (bE l).getD (i * 1) E.dflt = eB (l.getD i 0) := by
  rw [Nat.mul_one]
  simp [bE, h]
theorem okB1 (l : List UInt8) {i : Nat} (h : i < l.length) : i * 1 < (Cs.es (bE l)).len ∧ D0.isA (.int .u8) ((Cs.es (bE l)).at (i * 1)) := by
  refine ⟨?_, ?_⟩
  · show i * 1 < (bE l).length
    simp [bE, h]
  · show E.as (.int .u8) ((bE l).getD (i * 1) E.dflt) = (bE l).getD (i * 1) E.dflt
    rw [getB1 l h]
    rfl
theorem bytesOf_chunks (l : List UInt8) (h : l.length = 64) : chunksE 1 64 (bE l) = eCells l := by
  apply List.ext_getElem
  · rw [chunksE_len, eCells_length, h]
  · intro i a b
    rw [chunksE_len] at a
    have hi : i < l.length := by omega
    have := (chunksE_get (List.getElem?_eq_getElem (l := chunksE 1 64 (bE l)) (i := i) (by rw [chunksE_len]; exact a))).2
    rw [this, Nat.mul_one]
    simp [bE, eCells, List.take_one, hi]
set_option maxRecDepth 10000 in
theorem heldOf_fn (H : H8) (l : List UInt8) (n m : Int) (hl : l.length = 64) (h0 : 0 ≤ n) (h1 : n ≤ 64) : FnD Tryd.prog 181 [.agg (.es (stE H l n m))] (.v (.string (strB (l.take n.toNat)))) := by
  refine fn_intro (T := tab) tOk Tryd.func181 rfl (by kernel_rfl) (by simp [Tryd.ntmps181]) ?_
  intro X hX
  have hnt : X.nt = 11 := hX
  clear hX
  have hN : ((stE H l n m).getD (0 + 72) E.dflt).int = n := by
    rw [st_N _ _ hl]
    rfl
  have hb : (bE l).length = 64 := by simp [bE, hl]
  repeat' (first | refine tr_seq ?_ | refine tr_block ?_ | refine tr_skip ?_)
  refine reg (T := tab) tOk hnt rfl (by (dsimp only [AllP]; (repeat' first | exact trivial | assumption | exact Nat.le_of_ble_eq_true rfl | apply And.intro | intro _ | exact rfl))) ?_
  repeat' (first | refine tr_seq ?_ | refine tr_block ?_ | refine tr_skip ?_)
  refine reg (T := tab) tOk hnt rfl ?_ ?_
  · refine ⟨⟨?_, Nat.le_of_ble_eq_true (by kernel_rfl), Nat.zero_le _⟩, trivial, st_fit _ _ hl _ _ (by decide), trivial⟩
    show (List.take 64 (List.drop (0 + 8) (stE H l n m))).length = 64
    rw [st_Held H l hl, hb]
  refine tr_le (s' := St.of [(1, .one (.ptr 1 0 0)), (3, .one (.ptr 3 0 0))] [(1, ⟨0, .box (.es (stE H l n m)), 0⟩), (3, ⟨0, .box (.es (bE l)), 0⟩)]) (le_of (ad := []) ⟨⟨rfl, rfl, rfl, rfl, rfl⟩, ⟨rfl, rfl, rfl, rfl, rfl⟩, trivial⟩ (memOk_box rfl rfl rfl (memOk_boxE rfl rfl (Eq.trans (b := List.take 0 (bE zB) ++ List.take 64 (List.drop (0 + 8) (stE H l n m)) ++ List.drop (0 + 64) (bE zB)) (by kernel_rfl) ((put_all2 _ _ 64 rfl).trans (st_Held H l hl n m))) trivial))) ?_
  repeat' (first | refine tr_seq ?_ | refine tr_block ?_ | refine tr_skip ?_)
  have hch : chunksE 1 (((64 : Nat) : Int) - 0).toNat (List.drop (0 + Int.toNat 0 * 1) (bE l)) = eCells l := bytesOf_chunks l hl
  refine regD (T := tab) tOk mixedR hnt rfl (by decide +kernel) ?_ ?_
  · dsimp only [AllP]
    rw [hch, hN, strB_of, strB_size, hl]
    refine ⟨trivial, ⟨Int.le_refl _, h0, h1⟩, st_okN _ _ hl _ _, trivial, eCells_isByte l, Int.le_refl _, by decide, by decide, by decide, ?_, by decide, by decide⟩
    show 0 + 64 * 1 ≤ (bE l).length
    omega
  refine tr_ret ⟨.inr rfl, _, _, rfl, by trivial, ?_⟩
  refine Eq.trans (b := D.v (.string ((bytesOf (chunksE 1 (((64 : Nat) : Int) - 0).toNat (List.drop (0 + Int.toNat 0 * 1) (bE l)))).extract (Int.toNat 0) ((stE H l n m).getD (0 + 72) E.dflt).int.toNat))) rfl ?_
  rw [hch, hN, strB_of, strB_extract, show Int.toNat 0 = 0 from rfl, List.drop_zero]
set_option maxRecDepth 10000 in
theorem blocks_fn (H : H8) (l : List UInt8) (hl : l.length ≤ 4611686018427387904) : FnD Tryd.prog 182 [.agg (.es (hE H)), .v (.string (strB l))] (.agg (.es (hE (blks H l)))) := by
  refine fn_intro (T := tab) tOk Tryd.func182 rfl (by kernel_rfl) (by simp [Tryd.ntmps182]) ?_
  intro X hX
  have hnt : X.nt = 15 := hX
  clear hX
  repeat' (first | refine tr_seq ?_ | refine reg (T := tab) tOk hnt rfl ?_ ?_ | refine regD (T := tab) tOk mixedR hnt rfl (by decide +kernel) ?_ ?_ | refine tr_block ?_ | refine tr_skip ?_)
  · (dsimp only [AllP]; (repeat' first | exact trivial | apply And.intro | exact Nat.le_of_ble_eq_true (by kernel_rfl) | decide | kernel_rfl | exact rfl))
  refine tr_loop (σ := H8 × List UInt8) (fun x => St.of [(1, .v (.string (strB x.2))), (2, .one (.ptr 2 0 0)), (4, .one (.ptr 4 0 0))] [(2, ⟨0, .box (.es (hE x.1)), 0⟩), (4, ⟨0, .box (.es (hE hZ)), 0⟩)]) (fun x => blks x.1 x.2 = blks H l ∧ x.2.length ≤ l.length) (fun x => x.2.length) (H, l) (le_of (ad := []) ⟨rfl, ⟨rfl, rfl, rfl, rfl, rfl⟩, ⟨rfl, rfl, rfl, rfl, rfl⟩, trivial⟩ (memOk_box rfl rfl rfl (memOk_boxE rfl rfl (by kernel_rfl) trivial))) ⟨rfl, Nat.le_refl _⟩ ?_
  rintro ⟨K, r⟩ ⟨j1, j2⟩
  dsimp only at j1 j2 ⊢
  have j1 : Hd (blks K r = blks H l) := ⟨j1⟩
  repeat' (first | refine tr_seq ?_ | refine tr_block ?_ | refine tr_skip ?_)
  refine reg (T := tab) tOk hnt rfl (by (dsimp only [AllP]; (repeat' first | exact trivial | assumption | exact Nat.le_of_ble_eq_true rfl | apply And.intro | intro _ | exact rfl))) ?_
  rw [strB_size]
  refine tr_cond rfl (fun hc => ?_) (fun hc => ?_)
  · have hc := of_decide_eq_true hc
    have h64 : 64 ≤ r.length := by omega
    have htl : (r.take 64).length = 64 := by
      rw [List.length_take]
      omega
    have hbl : FnD Tryd.prog 194 [.agg (.es (List.take 8 (List.drop 0 (hE K)))), .v (.string ((strB r).extract (Int.toNat 0) (Int.toNat 64)))] (.agg (.es (hE (comp K (r.take 64))))) := by
      rw [all_of (hE K) 8 rfl, strB_extract, show Int.toNat 0 = 0 from rfl, List.drop_zero, show Int.toNat 64 = 64 from rfl]
      have := block_fn K (strB (r.take 64)) (by rw [strB_size, htl]; decide) (by rw [strB_size, htl]; decide)
      rw [strB_list] at this
      exact this
    have hnext : Hd (blks (comp K (r.take 64)) (r.drop 64) = blks H l) := ⟨by
      have e := blks_one K (r.take 64) (r.drop 64) htl
      rw [List.take_append_drop] at e
      rw [← j1.out, e]⟩
    generalize comp K (r.take 64) = K2 at hbl hnext
    repeat' (first | refine tr_seq ?_ | refine tr_block ?_ | refine tr_skip ?_)
    refine tr_draw (T := tab) tOk hnt mixedR (lexD (T := tab) rfl ?_ (callD rfl rfl rfl rfl rfl rfl rfl rfl hbl (lexD (T := tab) rfl ?_ (.nil _)))) (by decide +kernel) ?_
    · refine ⟨⟨Int.le_refl _, by decide, ?_⟩, trivial, Nat.le_of_ble_eq_true rfl⟩
      rw [strB_size]
      omega
    · exact ⟨rfl, Nat.le_of_ble_eq_true rfl, Nat.zero_le _⟩
    have hex : (strB r).extract (Int.toNat 64) (((strB r).size : Nat) : Int).toNat = strB (r.drop 64) := by
      rw [strB_extract, Int.toNat_natCast, strB_size, List.take_length]
      rfl
    repeat' (first | refine tr_seq ?_ | refine tr_block ?_ | refine tr_skip ?_)
    refine reg (T := tab) tOk hnt rfl ?_ ?_
    · refine ⟨trivial, ⟨by decide, ?_, Int.le_refl _⟩, trivial⟩
      rw [strB_size]
      omega
    rw [hex]
    refine ⟨(K2, r.drop 64), ⟨hnext.out, by dsimp only; rw [List.length_drop]; omega⟩, by dsimp only; rw [List.length_drop]; omega, le_of (ad := []) ⟨rfl, ⟨rfl, rfl, rfl, rfl, rfl⟩, ⟨rfl, rfl, rfl, rfl, rfl⟩, trivial⟩ (memOk_boxE rfl rfl (put_all2 (hE K) (hE K2) 8 rfl) (memOk_box rfl rfl rfl trivial))⟩
  have hc := of_decide_eq_false hc
  have hKl : Hd (blks H l = K) := ⟨by rw [← j1.out, blks_few K r (by omega)]⟩
  rw [hKl.out]
  refine tr_exit ?_
  repeat' (first | refine tr_seq ?_ | refine tr_block ?_ | refine tr_skip ?_)
  refine reg (T := tab) tOk hnt rfl ?_ ?_
  · exact ⟨⟨Nat.le_antisymm (Nat.le_of_ble_eq_true rfl) (Nat.le_of_ble_eq_true rfl), Nat.le_of_ble_eq_true rfl, Nat.zero_le _⟩, Nat.le_of_ble_eq_true rfl⟩
  refine tr_le (s' := St.of [(4, .one (.ptr 4 0 0))] [(4, ⟨0, .box (.es (hE K)), 0⟩)]) (le_of (ad := []) ⟨⟨rfl, rfl, rfl, rfl, rfl⟩, trivial⟩ (memOk_boxE rfl rfl (put_all (hE hZ) (hE K) 8 rfl rfl) trivial)) ?_
  refine tr_ret ⟨.inr rfl, _, _, rfl, ⟨Nat.le_of_ble_eq_true rfl, trivial⟩, ?_⟩
  exact congrArg (fun l => D.agg (.es l)) (all_of _ 8 rfl)
/-- a constant's eight words, as hex digits -/
def chkF (s : ByteArray) : Bool := Nat.beq s.data.toList.length 64 && (List.range 8).all fun i => decide (hexF ((s.data.toList.take (8 * i + 8)).drop (8 * i)) = h0W.l.getD i 0)
theorem hexF_fn (s : ByteArray) (i : Nat) (hs : chkF s = true) (h : i < 8) : FnD Tryd.prog 183 [.v (.string s), .one (.e (eI i))] (dW (h0W.l.getD i 0)) := by
  unfold chkF at hs
  rw [Bool.and_eq_true] at hs
  have h1 : s.size = 64 := Nat.eq_of_beq_eq_true hs.1
  have h2 := of_decide_eq_true (List.all_eq_true.1 hs.2 i (List.mem_range.2 h))
  have := hexWord_fn s i (by omega) (by omega)
  rw [h2] at this
  exact this
def stL (ws : List W) : List E := wE ws ++ (bE zB ++ [eI 0, eI 0])
set_option maxRecDepth 10000 in
theorem Begun_fn : FnD Tryd.prog 167 [] (.agg (.es (smE s0))) := by
  refine fn_intro (T := tab) tOk Tryd.func167 rfl (by kernel_rfl) (by simp [Tryd.ntmps167]) ?_
  intro X hX
  have hnt : X.nt = 13 := hX
  clear hX
  repeat' (first | refine tr_seq ?_ | refine reg (T := tab) tOk hnt rfl ?_ ?_ | refine regD (T := tab) tOk mixedR hnt rfl (by decide +kernel) ?_ ?_ | refine tr_block ?_ | refine tr_skip ?_)
  · exact trivial
  · exact trivial
  · exact trivial
  refine tr_loop (σ := Nat) (fun i => St.of [(0, .one (.ptr 0 0 0)), (1, .one (.ptr 1 0 0)), (3, .v (.int .i64 i))] [(0, ⟨0, .box (.es (smE sZ)), 0⟩), (1, ⟨0, .box (.es (stL (h0W.l.take i ++ List.replicate (8 - i) 0))), 0⟩)]) (fun i => i ≤ 8) (fun i => 8 - i) 0 (le_of (ad := []) ⟨⟨rfl, rfl, rfl, rfl, rfl⟩, ⟨rfl, rfl, rfl, rfl, rfl⟩, rfl, trivial⟩ (memOk_boxE rfl rfl (by kernel_rfl) (memOk_boxE rfl rfl (by kernel_rfl) trivial))) (Nat.zero_le _) ?_
  intro i hi
  repeat' (first | refine tr_seq ?_ | refine reg (T := tab) tOk hnt rfl ?_ ?_ | refine regD (T := tab) tOk mixedR hnt rfl (by decide +kernel) ?_ ?_ | refine tr_block ?_ | refine tr_skip ?_)
  · (dsimp only [AllP]; (repeat' first | exact trivial | assumption | exact Nat.le_of_ble_eq_true rfl | apply And.intro | intro _ | exact rfl))
  refine tr_cond rfl (fun hc => ?_) (fun hc => ?_)
  · have hc := of_decide_eq_true hc
    have hi8 : i < 8 := by omega
    repeat' (first | refine tr_seq ?_ | refine tr_block ?_ | refine tr_skip ?_)
    refine reg (T := tab) tOk hnt rfl (by (dsimp only [AllP]; (repeat' first | exact trivial | assumption | exact Nat.le_of_ble_eq_true rfl | apply And.intro | intro _ | exact rfl))) ?_
    repeat' (first | refine tr_seq ?_ | refine tr_block ?_ | refine tr_skip ?_)
    refine tr_region (lex (T := tab) tOk hnt rfl ?_ (call rfl rfl rfl rfl rfl rfl rfl hnt (hexF_fn _ i (by decide +kernel) hi8) (lex (T := tab) tOk hnt rfl ?_ (Lex.nil _)))) ?_
    · exact ⟨trivial, trivial⟩
    · rcases (show i = 0 ∨ i = 1 ∨ i = 2 ∨ i = 3 ∨ i = 4 ∨ i = 5 ∨ i = 6 ∨ i = 7 by omega) with rfl | rfl | rfl | rfl | rfl | rfl | rfl | rfl <;> (dsimp only [AllP]; (repeat' first | exact trivial | apply And.intro | exact Nat.le_of_ble_eq_true (by kernel_rfl) | decide | kernel_rfl | exact rfl))
    repeat' (first | refine tr_seq ?_ | refine reg (T := tab) tOk hnt rfl ?_ ?_ | refine regD (T := tab) tOk mixedR hnt rfl (by decide +kernel) ?_ ?_ | refine tr_block ?_ | refine tr_skip ?_)
    · exact ⟨trivial, rfl⟩
    refine ⟨i + 1, hi8, by omega, le_of (ad := []) ⟨⟨rfl, rfl, rfl, rfl, rfl⟩, ⟨rfl, rfl, rfl, rfl, rfl⟩, congrArg (fun z : Int => E.v (.int .i64 z)) (wrap64_id (by omega) (by omega)), trivial⟩ (memOk_box rfl rfl rfl (memOk_boxE rfl rfl ?_ trivial))⟩
    rcases (show i = 0 ∨ i = 1 ∨ i = 2 ∨ i = 3 ∨ i = 4 ∨ i = 5 ∨ i = 6 ∨ i = 7 by omega) with rfl | rfl | rfl | rfl | rfl | rfl | rfl | rfl <;> kernel_rfl
  have hc := of_decide_eq_false hc
  have hi : i = 8 := by omega
  subst hi
  refine tr_exit ?_
  repeat' (first | refine tr_seq ?_ | refine reg (T := tab) tOk hnt rfl ?_ ?_ | refine regD (T := tab) tOk mixedR hnt rfl (by decide +kernel) ?_ ?_ | refine tr_block ?_ | refine tr_skip ?_)
  · (dsimp only [AllP]; (repeat' first | exact trivial | apply And.intro | exact Nat.le_of_ble_eq_true (by kernel_rfl) | decide | kernel_rfl | exact rfl))
  refine tr_ret ⟨.inr rfl, _, _, rfl, ⟨Nat.le_of_ble_eq_true (by kernel_rfl), trivial⟩, by kernel_rfl⟩
set_option maxRecDepth 10000 in
theorem bad_fn (H : H8) (l : List UInt8) (n m : Int) (hl : l.length = 64) : FnD Tryd.prog 180 [.agg (.es (stE H l n m))] (.v (.bool (!sOk l n m))) := by
  refine fn_intro (T := tab) tOk Tryd.func180 rfl (by kernel_rfl) (by simp [Tryd.ntmps180]) ?_
  intro X hX
  have hnt : X.nt = 36 := hX
  clear hX
  have hN : ((stE H l n m).getD (0 + 72) E.dflt).int = n := by
    rw [st_N _ _ hl]
    rfl
  have hM : ((stE H l n m).getD (0 + 73) E.dflt).int = m := by
    rw [st_L _ _ hl]
    rfl
  repeat' (first | refine tr_seq ?_ | refine reg (T := tab) tOk hnt rfl ?_ ?_ | refine regD (T := tab) tOk mixedR hnt rfl (by decide +kernel) ?_ ?_ | refine tr_block ?_ | refine tr_skip ?_)
  · (dsimp only [AllP]; (repeat' first | exact trivial | assumption | exact Nat.le_of_ble_eq_true rfl | apply And.intro | intro _ | exact rfl))
  · (dsimp only [AllP]; (repeat' first | exact trivial | exact rfl | exact (st_okN H l hl n m) | exact (st_okL H l hl n m) | apply And.intro | exact (show (64 : Int) ≠ 0 by decide) | intro _ | assumption | decide))
  rw [hM, hN]
  refine tr_cond rfl (fun hc => ?_) (fun hc => ?_)
  · have hc := (condB n m).symm.trans hc
    have hbad : sOk l n m = false := by
      cases hq : sOk l n m with
      | false => rfl
      | true =>
        obtain ⟨h0, h1, h2, _⟩ := sOk_of hq
        rw [decide_eq_true h0, decide_eq_true h1, decide_eq_true h2] at hc
        cases hc
    repeat' (first | refine tr_seq ?_ | refine reg (T := tab) tOk hnt rfl ?_ ?_ | refine regD (T := tab) tOk mixedR hnt rfl (by decide +kernel) ?_ ?_ | refine tr_block ?_ | refine tr_skip ?_)
    · exact trivial
    refine tr_ret ⟨.inr rfl, _, _, rfl, by trivial, ?_⟩
    rw [hbad]
    rfl
  have hc := (condB n m).symm.trans hc
  simp only [Bool.not_eq_false', Bool.and_eq_true, decide_eq_true_eq] at hc
  obtain ⟨h0, h1, h2⟩ := hc
  obtain ⟨n0, n1⟩ := sOk_mod h0 h1 h2
  repeat' (first | refine tr_seq ?_ | refine tr_block ?_ | refine tr_skip ?_)
  refine reg (T := tab) tOk hnt rfl ?_ ?_
  · exact ⟨trivial, st_fit _ _ hl _ _ (by decide), trivial⟩
  rw [st_Held H l hl]
  repeat' (first | refine tr_seq ?_ | refine tr_block ?_ | refine tr_skip ?_)
  refine tr_loop (σ := Nat) (fun i => St.of [(1, .one (.ptr 1 0 0)), (22, .agg (.es (bE l))), (23, .v (.int .i64 i))] [(1, ⟨0, .box (.es (stE H l n m)), 0⟩)]) (fun i => i ≤ 64 ∧ ∀ j, n.toNat ≤ j → j < i → l.getD j 0 = 0) (fun i => 64 - i) 0 (le_of (ad := []) ⟨⟨rfl, rfl, rfl, rfl, rfl⟩, rfl, rfl, trivial⟩ (memOk_box rfl rfl rfl trivial)) ⟨Nat.zero_le _, fun j a b => by omega⟩ ?_
  rintro i ⟨j2, j3⟩
  repeat' (first | refine tr_seq ?_ | refine reg (T := tab) tOk hnt rfl ?_ ?_ | refine regD (T := tab) tOk mixedR hnt rfl (by decide +kernel) ?_ ?_ | refine tr_block ?_ | refine tr_skip ?_)
  · (dsimp only [AllP]; (repeat' first | exact trivial | assumption | exact Nat.le_of_ble_eq_true rfl | apply And.intro | intro _ | exact rfl))
  refine tr_cond rfl (fun hc => ?_) (fun hc => ?_)
  · have hc := of_decide_eq_true hc
    have hi : i < 64 := by omega
    have hv : ((bE l).getD (i * 1) E.dflt).int = ((l.getD i 0).toNat : Int) := by
      rw [getB1 l (by omega)]
      rfl
    repeat' (first | refine tr_seq ?_ | refine reg (T := tab) tOk hnt rfl ?_ ?_ | refine regD (T := tab) tOk mixedR hnt rfl (by decide +kernel) ?_ ?_ | refine tr_block ?_ | refine tr_skip ?_)
    · dsimp only [AllP]
      rw [Int.toNat_natCast]
      exact ⟨trivial, trivial, ⟨Int.natCast_nonneg _, by omega, okB1 l (by omega)⟩, trivial⟩
    · exact ⟨fun h => h, fun h => ⟨h, rfl⟩, fun _ => trivial, trivial, rfl, st_okN _ _ hl _ _, trivial, trivial⟩
    rw [Int.toNat_natCast, hv, hN]
    refine tr_cond rfl (fun hc => ?_) (fun hc => ?_)
    · have hc2 : n ≤ i ∧ ¬ (((l.getD i 0).toNat : Nat) : Int) = 0 := by
        by_cases a : n ≤ (i : Int)
        · rw [decide_eq_true a] at hc
          exact ⟨a, by simpa using hc⟩
        · rw [decide_eq_false a] at hc
          cases hc
      have hbad : sOk l n m = false := by
        cases hq : sOk l n m with
        | false => rfl
        | true =>
          obtain ⟨_, _, _, h4⟩ := sOk_of hq
          have := h4 i (by omega) (by omega)
          rw [this] at hc2
          exact absurd rfl hc2.2
      repeat' (first | refine tr_seq ?_ | refine reg (T := tab) tOk hnt rfl ?_ ?_ | refine regD (T := tab) tOk mixedR hnt rfl (by decide +kernel) ?_ ?_ | refine tr_block ?_ | refine tr_skip ?_)
      · exact trivial
      refine tr_ret ⟨.inr rfl, _, _, rfl, by trivial, ?_⟩
      rw [hbad]
      rfl
    · have hz : n ≤ i → l.getD i 0 = 0 := fun a => by
        rw [decide_eq_true a] at hc
        have hc : (((l.getD i 0).toNat : Nat) : Int) = 0 := by simpa using hc
        exact UInt8.toNat_inj.1 (by simpa using hc)
      repeat' (first | refine tr_seq ?_ | refine reg (T := tab) tOk hnt rfl ?_ ?_ | refine regD (T := tab) tOk mixedR hnt rfl (by decide +kernel) ?_ ?_ | refine tr_block ?_ | refine tr_skip ?_)
      · (dsimp only [AllP]; (repeat' first | exact trivial | assumption | exact Nat.le_of_ble_eq_true rfl | apply And.intro | intro _ | exact rfl))
      refine ⟨i + 1, ⟨by omega, fun j a b => ?_⟩, by omega, le_of (ad := []) ⟨⟨rfl, rfl, rfl, rfl, rfl⟩, rfl, congrArg (fun z : Int => E.v (.int .i64 z)) (wrap64_id (by omega) (by omega)), trivial⟩ (memOk_box rfl rfl rfl trivial)⟩
      rcases Nat.lt_or_ge j i with h | h
      · exact j3 j a h
      · rw [show j = i by omega]
        exact hz (by omega)
  have hc := of_decide_eq_false hc
  have hgood : sOk l n m = true := sOk_mk h0 h1 h2 fun j a b => j3 j (by omega) (by omega)
  refine tr_exit ?_
  repeat' (first | refine tr_seq ?_ | refine reg (T := tab) tOk hnt rfl ?_ ?_ | refine regD (T := tab) tOk mixedR hnt rfl (by decide +kernel) ?_ ?_ | refine tr_block ?_ | refine tr_skip ?_)
  · exact trivial
  refine tr_ret ⟨.inr rfl, _, _, rfl, by trivial, ?_⟩
  rw [hgood]
  rfl
end Go.Proofs.YtphaholcndhonaaDoor
namespace Go.Proofs.YtphaholcndhonaaDoor
open Go Go.RowKit Go.Proofs.YtphaholcndhonaaDoor.Ab

theorem padB_step {r : List UInt8} (h : r.length < 64) {i : Nat} (hi : i < r.length) : (padB (r.take i)).set i (r.getD i 0) = padB (r.take (i + 1)) := by
  have hl : (r.take i).length = i := by
    rw [List.length_take]
    omega
  have := padB_set (l := r.take i) (by omega) (r.getD i 0)
  rw [hl, ← take_snocB r i hi] at this
  exact this
theorem feed_is (H : H8) (g : List UInt8) (m : Int) (b : List UInt8) (hg : g.length < 64) : feedF ⟨H, g, m⟩ b = ⟨blks H (g ++ b), (g ++ b).drop ((g ++ b).length - (g ++ b).length % 64), m + b.length⟩ := by
  have h := fold_law ⟨H, g, m + b.length⟩ b hg
  have hl := fold_len ⟨H, g, m + b.length⟩ b
  unfold feedF
  generalize (⟨H, g, m + b.length⟩ : Sm).fold b = t at h hl
  obtain ⟨a, c, d⟩ := t
  obtain ⟨h1, h2, _⟩ := h
  have h1 : a = blks H (g ++ b) := h1
  have h2 : c = (g ++ b).drop ((g ++ b).length - (g ++ b).length % 64) := h2
  have hl : d = m + b.length := hl
  rw [h1, h2, hl]
set_option maxRecDepth 10000 in
theorem Added_fn (H : H8) (l : List UInt8) (n m : Int) (hl : l.length = 64) (b : List UInt8) (hb : b.length ≤ 9223372036854775807) : FnD Tryd.prog 166 [.agg (.es (stE H l n m)), .one (.e (eBytes b))] (rAdd (addF H l n m b)) := by
  refine fn_intro (T := tab) tOk Tryd.func166 rfl (by kernel_rfl) (by simp [Tryd.ntmps166]) ?_
  intro X hX
  have hnt : X.nt = 59 := hX
  clear hX
  have hL := st_len H l hl n m
  have hfit := st_fit H l hl n m (k := 0 + 74) (by decide)
  have hck : FnD Tryd.prog 180 [.agg (.es (List.take 74 (List.drop 0 (stE H l n m))))] (.v (.bool (!sOk l n m))) := by
    rw [all_of _ _ hL]
    exact bad_fn H l n m hl
  have hM : ((stE H l n m).getD (0 + 73) E.dflt).int = m := by
    rw [st_L _ _ hl]
    rfl
  have hsub : IntKind.i64.wrap (1152921504606846976 - (b.length : Int)) = 1152921504606846976 - (b.length : Int) := wrap64_id (by omega) (by omega)
  repeat' (first | refine tr_seq ?_ | refine reg (T := tab) tOk hnt rfl ?_ ?_ | refine regD (T := tab) tOk mixedR hnt rfl (by decide +kernel) ?_ ?_ | refine tr_block ?_ | refine tr_skip ?_)
  · (dsimp only [AllP]; (repeat' first | exact trivial | apply And.intro | exact Nat.le_of_ble_eq_true (by kernel_rfl) | decide | kernel_rfl | exact rfl))
  refine tr_region (lex (T := tab) tOk hnt rfl ?_ (call rfl rfl rfl rfl rfl rfl rfl hnt hck (lex (T := tab) tOk hnt rfl ?_ (Lex.nil _)))) ?_
  · exact hfit
  · exact trivial
  cases hq : sOk l n m with
  | false =>
    refine tr_cond rfl (fun _ => ?_) (fun h => nomatch (show true = false from h))
    repeat' (first | refine tr_seq ?_ | refine reg (T := tab) tOk hnt rfl ?_ ?_ | refine regD (T := tab) tOk mixedR hnt rfl (by decide +kernel) ?_ ?_ | refine tr_block ?_ | refine tr_skip ?_)
    · (dsimp only [AllP]; (repeat' first | exact trivial | apply And.intro | exact Nat.le_of_ble_eq_true (by kernel_rfl) | decide | kernel_rfl | exact rfl))
    refine tr_ret ⟨.inr rfl, _, _, rfl, ⟨Nat.le_of_ble_eq_true (by kernel_rfl), trivial⟩, ?_⟩
    rw [addF, hq]
    kernel_rfl
  | true =>
    refine tr_cond rfl (fun h => nomatch (show false = true from h)) (fun _ => ?_)
    obtain ⟨e1, e2, e3, e4⟩ := sm_of hl hq H
    obtain ⟨_, _, h2, _⟩ := sOk_of hq
    obtain ⟨n0, n1⟩ := sOk_mod e3 e4 h2
    repeat' (first | refine tr_seq ?_ | refine tr_block ?_ | refine tr_skip ?_)
    refine reg (T := tab) tOk hnt rfl ?_ ?_
    · exact ⟨rfl, rfl, trivial, trivial, st_okL _ _ hl _ _, trivial⟩
    rw [hM, eCells_length, hsub]
    refine tr_cond rfl (fun hc => ?_) (fun hc => ?_)
    · have hc := of_decide_eq_true hc
      repeat' (first | refine tr_seq ?_ | refine reg (T := tab) tOk hnt rfl ?_ ?_ | refine regD (T := tab) tOk mixedR hnt rfl (by decide +kernel) ?_ ?_ | refine tr_block ?_ | refine tr_skip ?_)
      · (dsimp only [AllP]; (repeat' first | exact trivial | apply And.intro | exact Nat.le_of_ble_eq_true (by kernel_rfl) | decide | kernel_rfl | exact rfl))
      refine tr_ret ⟨.inr rfl, _, _, rfl, ⟨Nat.le_of_ble_eq_true (by kernel_rfl), trivial⟩, ?_⟩
      rw [addF, hq, cond_true, if_pos (by omega)]
      kernel_rfl
    have hc := of_decide_eq_false hc
    have hres : addF H l n m b = (feedF ⟨H, l.take n.toNat, m⟩ b, 0) := by rw [addF, hq, cond_true, if_neg (by omega)]
    rw [hres, feed_is H _ m b e2]
    clear hres hsub hck
    have hbl : b.length ≤ 1152921504606846976 := by omega
    have hh : FnD Tryd.prog 181 [.agg (.es (List.take 74 (List.drop 0 (stE H l n m))))] (.v (.string (strB (l.take n.toNat)))) := by
      rw [all_of _ _ hL]
      exact heldOf_fn H l n m hl n0 (by omega)
    repeat' (first | refine tr_seq ?_ | refine tr_block ?_ | refine tr_skip ?_)
    refine tr_draw (T := tab) tOk hnt mixedR (lexD (T := tab) rfl ?_ (callD rfl rfl rfl rfl rfl rfl rfl rfl hh (lexD (T := tab) rfl ?_ (.nil _)))) (by decide +kernel) ?_
    · exact hfit
    · dsimp only [AllP]
      refine ⟨trivial, ?_, eCells_isByte b, trivial⟩
      show (strB (l.take n.toNat)).size + (bytesOf (eCells b)).size ≤ maxLen
      rw [strB_of, strB_size, strB_size, maxLen]
      omega
    rw [strB_of, strB_app]
    generalize hgb : l.take n.toNat ++ b = a
    have hal : a.length ≤ 1152921504606847040 := by
      rw [← hgb, List.length_append]
      omega
    have hbk : FnD Tryd.prog 182 [.agg (.es (List.take 8 (List.drop (0 + 0) (stE H l n m)))), .v (.string (strB a))] (.agg (.es (hE (blks H a)))) := by
      rw [st_H H l hl]
      exact blocks_fn H a (by omega)
    generalize blks H a = K at hbk ⊢
    repeat' (first | refine tr_seq ?_ | refine tr_block ?_ | refine tr_skip ?_)
    refine tr_draw (T := tab) tOk hnt mixedR (lexD (T := tab) rfl ?_ (callD rfl rfl rfl rfl rfl rfl rfl rfl hbk (lexD (T := tab) rfl ?_ (.nil _)))) (by decide +kernel) ?_
    · exact ⟨trivial, st_fit _ _ hl _ _ (by decide), trivial⟩
    · (dsimp only [AllP]; (repeat' first | exact trivial | exact (st_okL H l hl n m) | apply And.intro | exact Nat.le_of_ble_eq_true (by kernel_rfl) | kernel_rfl))
    rw [hM, eCells_length]
    have hadd : IntKind.i64.wrap (m + (b.length : Int)) = m + (b.length : Int) := wrap64_id (by omega) (by omega)
    rw [hadd]
    generalize hM2 : m + (b.length : Int) = M
    refine tr_le (s' := St.of [(4, .one (.ptr 4 0 0)), (7, .one (.ptr 7 0 0)), (6, .v (.string (strB a)))] [(4, ⟨0, .box (.es (smE sZ)), 0⟩), (7, ⟨0, .box (.es (stE K zB 0 M)), 0⟩)]) (le_of (ad := []) ⟨⟨rfl, rfl, rfl, rfl, rfl⟩, ⟨rfl, rfl, rfl, rfl, rfl⟩, rfl, trivial⟩ (memOk_boxE rfl rfl (by kernel_rfl) (memOk_boxE rfl rfl (by kernel_rfl) trivial))) ?_
    clear hh hbk hM hadd e1 hfit hL
    have hL1 : Int.tmod (a.length : Int) 64 = ((a.length % 64 : Nat) : Int) := by
      rw [Int.tmod_eq_emod_of_nonneg (Int.natCast_nonneg _)]
      rfl
    have hL2 : IntKind.i64.wrap ((a.length : Int) - ((a.length % 64 : Nat) : Int)) = ((a.length - a.length % 64 : Nat) : Int) := by
      rw [wrap64_id (by omega) (by omega)]
      omega
    repeat' (first | refine tr_seq ?_ | refine tr_block ?_ | refine tr_skip ?_)
    refine reg (T := tab) tOk hnt rfl ?_ ?_
    · dsimp only [AllP]
      rw [strB_size, hL1, hL2]
      exact ⟨trivial, ⟨Int.natCast_nonneg _, by omega, Int.le_refl _⟩, rfl, ⟨rfl, by decide⟩, trivial, trivial, trivial, trivial, trivial⟩
    rw [strB_size, hL1, hL2, Int.toNat_natCast, Int.toNat_natCast, strB_extract, List.take_length]
    have hrl : (a.drop (a.length - a.length % 64)).length < 64 := by
      rw [List.length_drop]
      omega
    generalize a.drop (a.length - a.length % 64) = r at hrl ⊢
    have hzl : zB.length = 64 := rfl
    repeat' (first | refine tr_seq ?_ | refine tr_block ?_ | refine tr_skip ?_)
    refine reg (T := tab) tOk hnt rfl ?_ ?_
    · exact ⟨⟨rfl, st_fit _ _ hzl _ _ (by decide), Nat.zero_le _⟩, trivial, trivial, trivial⟩
    rw [strB_size]
    repeat' (first | refine tr_seq ?_ | refine reg (T := tab) tOk hnt rfl ?_ ?_ | refine regD (T := tab) tOk mixedR hnt rfl (by decide +kernel) ?_ ?_ | refine tr_block ?_ | refine tr_skip ?_)
    · exact trivial
    refine tr_loop (σ := Nat) (fun i => St.of [(4, .one (.ptr 4 0 0)), (7, .one (.ptr 7 0 0)), (8, .v (.string (strB r))), (9, .v (.int .i64 i))] [(4, ⟨0, .box (.es (smE sZ)), 0⟩), (7, ⟨0, .box (.es (stE K (padB (r.take i)) r.length M)), 0⟩)]) (fun i => i ≤ r.length) (fun i => r.length - i) 0 (le_of (ad := []) ⟨⟨rfl, rfl, rfl, rfl, rfl⟩, ⟨rfl, rfl, rfl, rfl, rfl⟩, rfl, rfl, trivial⟩ (memOk_box rfl rfl rfl (memOk_boxE rfl rfl (st_setN K zB hzl 0 M _) trivial))) (Nat.zero_le _) ?_
    intro i hi
    have hpl : (padB (r.take i)).length = 64 := padB_len (by rw [List.length_take]; omega)
    repeat' (first | refine tr_seq ?_ | refine tr_block ?_ | refine tr_skip ?_)
    refine reg (T := tab) tOk hnt rfl ?_ ?_
    · exact ⟨rfl, trivial, trivial, trivial⟩
    rw [strB_size]
    refine tr_cond rfl (fun hc => ?_) (fun hc => ?_)
    · have hc := of_decide_eq_true hc
      have hir : i < r.length := by omega
      repeat' (first | refine tr_seq ?_ | refine tr_block ?_ | refine tr_skip ?_)
      refine reg (T := tab) tOk hnt rfl ?_ ?_
      · dsimp only [AllP]
        rw [Int.toNat_natCast]
        rw [strB_size]
        exact ⟨⟨rfl, st_fit _ _ hpl _ _ (by omega), Nat.zero_le _⟩, ⟨Int.natCast_nonneg _, by omega⟩, trivial, ⟨Int.natCast_nonneg _, by omega⟩, trivial, trivial, trivial⟩
      rw [Int.toNat_natCast, strB_list]
      repeat' (first | refine tr_seq ?_ | refine reg (T := tab) tOk hnt rfl ?_ ?_ | refine regD (T := tab) tOk mixedR hnt rfl (by decide +kernel) ?_ ?_ | refine tr_block ?_ | refine tr_skip ?_)
      · (dsimp only [AllP]; (repeat' first | exact trivial | assumption | exact Nat.le_of_ble_eq_true rfl | apply And.intro | intro _ | exact rfl))
      refine ⟨i + 1, hir, by omega, le_of (ad := []) ⟨⟨rfl, rfl, rfl, rfl, rfl⟩, ⟨rfl, rfl, rfl, rfl, rfl⟩, rfl, congrArg (fun z : Int => E.v (.int .i64 z)) (wrap64_id (by omega) (by omega)), trivial⟩ (memOk_box rfl rfl rfl (memOk_boxE rfl rfl ?_ trivial))⟩
      exact (st_setHeld K (padB (r.take i)) hpl r.length M (by omega) (r.getD i 0)).trans (by rw [padB_step hrl hir])
    have hc := of_decide_eq_false hc
    have hi : i = r.length := by omega
    subst hi
    rw [List.take_length] at hpl ⊢
    have hl74 : (stE K (padB r) r.length M).length = 74 := st_len _ _ hpl _ _
    refine tr_exit ?_
    repeat' (first | refine tr_seq ?_ | refine tr_block ?_ | refine tr_skip ?_)
    refine reg (T := tab) tOk hnt rfl ?_ ?_
    · refine ⟨trivial, ⟨?_, Nat.le_of_ble_eq_true (by kernel_rfl), Nat.zero_le _⟩, st_fit _ _ hpl _ _ (by decide)⟩
      show (List.take 74 (List.drop 0 (stE K (padB r) r.length M))).length = 74
      rw [all_of _ _ hl74, hl74]
    refine tr_le (s' := St.of [(4, .one (.ptr 4 0 0)), (5, .v (.int .i64 0))] [(4, ⟨0, .box (.es (stE K (padB r) r.length M)), 0⟩)]) (le_of (ad := []) ⟨⟨rfl, rfl, rfl, rfl, rfl⟩, rfl, trivial⟩ (memOk_boxE rfl rfl (put_all _ _ 74 hl74 sZ_len) trivial)) ?_
    refine tr_ret ⟨.inr rfl, _, _, rfl, ⟨Nat.le_of_eq hl74.symm, trivial⟩, ?_⟩
    exact congrArg (fun l => D.tup [(true, .es l), (false, .es [eI 0])]) (all_of _ 74 hl74)
/-- the words' bytes, as the document joins them -/
def outB (H : H8) : List UInt8 := (H.l.map fun x => bigF x.toNat 4).flatten
theorem big4 (x : W) : bigF x.toNat 4 = [UInt8.ofNat ((x >>> 24).toNat), UInt8.ofNat ((x >>> 16).toNat), UInt8.ofNat ((x >>> 8).toNat), UInt8.ofNat ((x >>> 0).toNat)] := by
  simp only [BitVec.toNat_ushiftRight, Nat.shiftRight_eq_div_pow]
  show [UInt8.ofNat (x.toNat / 256 / 256 / 256), UInt8.ofNat (x.toNat / 256 / 256), UInt8.ofNat (x.toNat / 256), UInt8.ofNat x.toNat] = _
  simp [Nat.div_div_eq_div_mul]
theorem outB_eq (H : H8) : outB H = outW H := by
  unfold outB H8.l
  simp only [List.map_cons, List.map_nil, big4, List.flatten_cons, List.flatten_nil]
  rfl
theorem fold_H (s : Sm) (t : List UInt8) (hs : s.held.length < 64) : (s.fold t).H = blks s.H (s.held ++ t) := (fold_law s t hs).1
end Go.Proofs.YtphaholcndhonaaDoor
namespace Go.Proofs.YtphaholcndhonaaDoor
open Go Go.RowKit Go.Proofs.YtphaholcndhonaaDoor.Ab

def preB (K : H8) (i : Nat) : List UInt8 := ((K.l.take i).map fun x => bigF x.toNat 4).flatten
theorem preB_succ (K : H8) {i : Nat} (h : i < 8) : preB K (i + 1) = preB K i ++ bigF (K.l.getD i 0).toNat 4 := by
  have hl : i < K.l.length := h
  unfold preB
  have e : K.l.getD i 0 = K.l[i] := by simp [List.getD, hl]
  rw [List.take_succ_eq_append_getElem hl, e]
  simp only [List.map_append, List.map_cons, List.map_nil, List.flatten_append, List.flatten_cons, List.flatten_nil, List.append_nil]
theorem preB_len (K : H8) : ∀ i, i ≤ 8 → (preB K i).length = 4 * i
  | 0, _ => rfl
  | i + 1, h => by
    rw [preB_succ K (by omega), List.length_append, preB_len K i (by omega), bigF_len]
    omega
theorem preB_all (K : H8) : preB K 8 = outW K := (outB_eq K)
theorem getW1 (l : List W) {i : Nat} (h : i < l.length) : (wE l).getD (i * 1) E.dflt = eW (l.getD i 0) := by
  rw [Nat.mul_one]
  simp [wE, h]
theorem okW1 (l : List W) {i : Nat} (h : i < l.length) : i * 1 < (Cs.es (wE l)).len ∧ D0.isA (.int .u32) ((Cs.es (wE l)).at (i * 1)) := by
  refine ⟨?_, ?_⟩
  · show i * 1 < (wE l).length
    simp [wE, h]
  · show E.as (.int .u32) ((wE l).getD (i * 1) E.dflt) = (wE l).getD (i * 1) E.dflt
    rw [getW1 l h]
    rfl
theorem u64_w (x : W) : IntKind.u64.wrap (x.toNat : Int) = (x.toNat : Int) := by
  have := x.isLt
  unfold IntKind.wrap
  simp [IntKind.bits, IntKind.signed]
  omega
set_option maxRecDepth 10000 in
theorem ended_fn (s : Sm) (hs : s.held.length < 64) (h1 : 0 ≤ s.len) (h2 : s.len ≤ 1152921504606846976) : FnD Tryd.prog 168 [.agg (.es (smE s))] (.agg (.es (bE (endF s)))) := by
  refine fn_intro (T := tab) tOk Tryd.func168 rfl (by kernel_rfl) (by simp [Tryd.ntmps168]) ?_
  intro X hX
  have hnt : X.nt = 49 := hX
  clear hX
  have hp := padB_len (Nat.le_of_lt hs)
  have hL : (smE s).length = 74 := smE_len s hs
  have hfit := smE_fit s hs
  have hM : ((smE s).getD (0 + 73) E.dflt).int = s.len := by
    unfold smE
    rw [st_L _ _ hp]
    rfl
  have hh : FnD Tryd.prog 181 [.agg (.es (List.take 74 (List.drop 0 (smE s))))] (.v (.string (strB s.held))) := by
    rw [all_of _ _ hL]
    have := heldOf_fn s.H (padB s.held) s.held.length s.len hp (Int.natCast_nonneg _) (by omega)
    rw [Int.toNat_natCast] at this
    unfold padB at this
    rw [List.take_left' rfl] at this
    exact this
  repeat' (first | refine tr_seq ?_ | refine reg (T := tab) tOk hnt rfl ?_ ?_ | refine regD (T := tab) tOk mixedR hnt rfl (by decide +kernel) ?_ ?_ | refine tr_block ?_ | refine tr_skip ?_)
  · (dsimp only [AllP]; (repeat' first | exact trivial | apply And.intro | exact Nat.le_of_ble_eq_true (by kernel_rfl) | decide | kernel_rfl | exact rfl))
  refine tr_region (lex (T := tab) tOk hnt rfl ?_ (call rfl rfl rfl rfl rfl rfl rfl hnt hh (lex (T := tab) tOk hnt rfl ?_ (Lex.nil _)))) ?_
  · exact hfit
  · refine ⟨trivial, ?_⟩
    show (strB s.held).size + 1 ≤ maxLen
    rw [strB_size, maxLen]
    omega
  refine tr_le (s' := St.of [(1, .one (.ptr 1 0 0)), (2, .one (.ptr 2 0 0)), (3, .v (.string (strB (s.held ++ 128 :: List.replicate 0 0))))] [(1, ⟨0, .box (.es (smE s)), 0⟩), (2, ⟨0, .box (.es (bE z32)), 0⟩)]) (le_of (ad := []) ⟨⟨rfl, rfl, rfl, rfl, rfl⟩, ⟨rfl, rfl, rfl, rfl, rfl⟩, congrArg (fun z => E.v (.string z)) (strB_app s.held [128]), trivial⟩ (memOk_boxE rfl rfl rfl (memOk_boxE rfl rfl (by kernel_rfl) trivial))) ?_
  clear hh
  have hz := padZ_law (s.held.length + 1)
  repeat' (first | refine tr_seq ?_ | refine tr_block ?_ | refine tr_skip ?_)
  refine tr_loop (σ := Nat) (fun k => St.of [(1, .one (.ptr 1 0 0)), (2, .one (.ptr 2 0 0)), (3, .v (.string (strB (s.held ++ 128 :: List.replicate k 0))))] [(1, ⟨0, .box (.es (smE s)), 0⟩), (2, ⟨0, .box (.es (bE z32)), 0⟩)]) (fun k => k ≤ padZ (s.held.length + 1)) (fun k => padZ (s.held.length + 1) - k) 0 (le_of (ad := []) ⟨⟨rfl, rfl, rfl, rfl, rfl⟩, ⟨rfl, rfl, rfl, rfl, rfl⟩, rfl, trivial⟩ (memOk_box rfl rfl rfl (memOk_box rfl rfl rfl trivial))) (Nat.zero_le _) ?_
  intro k hk
  have hsz : (strB (s.held ++ 128 :: List.replicate k 0)).size = s.held.length + 1 + k := by
    rw [strB_size, List.length_append, List.length_cons, List.length_replicate]
    omega
  have hmod : Int.tmod ((s.held.length + 1 + k : Nat) : Int) 64 = (((s.held.length + 1 + k) % 64 : Nat) : Int) := by
    rw [Int.tmod_eq_emod_of_nonneg (Int.natCast_nonneg _)]
    rfl
  repeat' (first | refine tr_seq ?_ | refine tr_block ?_ | refine tr_skip ?_)
  refine reg (T := tab) tOk hnt rfl ?_ ?_
  · exact ⟨rfl, ⟨rfl, by decide⟩, trivial, trivial⟩
  rw [hsz, hmod]
  refine tr_cond rfl (fun hc => ?_) (fun hc => ?_)
  · have hc : ¬ (((s.held.length + 1 + k) % 64 : Nat) : Int) = 56 := by simpa using hc
    have hkz := padZ_more (s.held.length + 1) k (by omega) hk
    repeat' (first | refine tr_seq ?_ | refine reg (T := tab) tOk hnt rfl ?_ ?_ | refine regD (T := tab) tOk mixedR hnt rfl (by decide +kernel) ?_ ?_ | refine tr_block ?_ | refine tr_skip ?_)
    · refine ⟨trivial, ?_, trivial⟩
      show (strB (s.held ++ 128 :: List.replicate k 0)).size + 1 ≤ maxLen
      rw [hsz, maxLen]
      omega
    refine ⟨k + 1, hkz, by omega, le_of (ad := []) ⟨⟨rfl, rfl, rfl, rfl, rfl⟩, ⟨rfl, rfl, rfl, rfl, rfl⟩, ?_, trivial⟩ (memOk_box rfl rfl rfl (memOk_box rfl rfl rfl trivial))⟩
    refine congrArg (fun z => E.v (.string z)) ((strB_app _ [0]).trans ?_)
    rw [List.append_assoc, List.cons_append, ← List.replicate_succ']
  have hc : (((s.held.length + 1 + k) % 64 : Nat) : Int) = 56 := by simpa using hc
  have hkz := padZ_only (s.held.length + 1) k (by omega) hk
  subst hkz
  clear hmod hc hk
  refine tr_exit ?_
  have hbig : FnD Tryd.prog 133 [.v (.int .u64 (IntKind.u64.wrap (IntKind.u64.wrap ((smE s).getD (0 + 73) E.dflt).int * 8))), .one (.e (.v (.int .i64 8)))] (.v (.string (strB (bigF (8 * s.len.toNat) 8)))) := by
    rw [hM, u64_len s.len h1 h2]
    exact big_fn _ 8 (by decide)
  have hall : s.held ++ 128 :: List.replicate (padZ (s.held.length + 1)) 0 ++ bigF (8 * s.len.toNat) 8 = s.held ++ tailB s := by
    unfold tailB
    rw [List.append_assoc, List.cons_append]
  have hbl : FnD Tryd.prog 182 [.agg (.es (List.take 8 (List.drop (0 + 0) (smE s)))), .v (.string (strB (s.held ++ 128 :: List.replicate (padZ (s.held.length + 1)) 0) ++ strB (bigF (8 * s.len.toNat) 8)))] (.agg (.es (hE (s.fold (tailB s)).H))) := by
    rw [strB_app, hall, fold_H s _ hs]
    unfold smE
    rw [st_H _ _ hp]
    refine blocks_fn s.H _ ?_
    rw [← hall, List.length_append, bigF_len, List.length_append, List.length_cons, List.length_replicate]
    omega
  rw [show endF s = outW (s.fold (tailB s)).H from rfl]
  generalize (s.fold (tailB s)).H = K at hbl ⊢
  repeat' (first | refine tr_seq ?_ | refine tr_block ?_ | refine tr_skip ?_)
  refine tr_draw (T := tab) tOk hnt mixedR (lexD (T := tab) rfl ?_ (callD rfl rfl rfl rfl rfl rfl rfl rfl hbig (lexD (T := tab) rfl ?_ (callD rfl rfl rfl rfl rfl rfl rfl rfl hbl (lexD (T := tab) rfl ?_ (.nil _)))))) (by decide +kernel) ?_
  · exact ⟨rfl, trivial, st_okL _ _ hp _ _, trivial, trivial, st_fit _ _ hp _ _ (by decide), trivial⟩
  · show (strB (s.held ++ 128 :: List.replicate (padZ (s.held.length + 1)) 0)).size + (strB (bigF (8 * s.len.toNat) 8)).size ≤ maxLen
    rw [hsz, strB_size, bigF_len, maxLen]
    omega
  · (dsimp only [AllP]; (repeat' first | exact trivial | apply And.intro | exact Nat.le_of_ble_eq_true (by kernel_rfl) | decide | kernel_rfl | exact rfl))
  refine tr_le (s' := St.of [(1, .one (.ptr 1 0 0)), (2, .one (.ptr 2 0 0)), (4, .one (.ptr 4 0 0))] [(1, ⟨0, .box (.es (smE s)), 0⟩), (2, ⟨0, .box (.es (bE z32)), 0⟩), (4, ⟨0, .box (.es (hE K)), 0⟩)]) (le_of (ad := []) ⟨⟨rfl, rfl, rfl, rfl, rfl⟩, ⟨rfl, rfl, rfl, rfl, rfl⟩, ⟨rfl, rfl, rfl, rfl, rfl⟩, trivial⟩ (memOk_box rfl rfl rfl (memOk_box rfl rfl rfl (memOk_boxE rfl rfl (by kernel_rfl) trivial)))) ?_
  clear hsz hbig hall hbl hz
  repeat' (first | refine tr_seq ?_ | refine reg (T := tab) tOk hnt rfl ?_ ?_ | refine regD (T := tab) tOk mixedR hnt rfl (by decide +kernel) ?_ ?_ | refine tr_block ?_ | refine tr_skip ?_)
  · exact trivial
  · exact ⟨trivial, Nat.le_of_ble_eq_true rfl⟩
  refine tr_loop (σ := Nat) (fun i => St.of [(1, .one (.ptr 1 0 0)), (2, .one (.ptr 2 0 0)), (5, .v (.string (strB (preB K i)))), (29, .agg (.es (hE K))), (30, .v (.int .i64 i))] [(1, ⟨0, .box (.es (smE s)), 0⟩), (2, ⟨0, .box (.es (bE z32)), 0⟩)]) (fun i => i ≤ 8) (fun i => 8 - i) 0 (le_of (ad := []) ⟨⟨rfl, rfl, rfl, rfl, rfl⟩, ⟨rfl, rfl, rfl, rfl, rfl⟩, rfl, all_of (hE K) 8 rfl, rfl, trivial⟩ (memOk_box rfl rfl rfl (memOk_box rfl rfl rfl trivial))) (Nat.zero_le _) ?_
  intro i hi
  have hpl := preB_len K i hi
  repeat' (first | refine tr_seq ?_ | refine reg (T := tab) tOk hnt rfl ?_ ?_ | refine regD (T := tab) tOk mixedR hnt rfl (by decide +kernel) ?_ ?_ | refine tr_block ?_ | refine tr_skip ?_)
  · (dsimp only [AllP]; (repeat' first | exact trivial | assumption | exact Nat.le_of_ble_eq_true rfl | apply And.intro | intro _ | exact rfl))
  refine tr_cond rfl (fun hc => ?_) (fun hc => ?_)
  · have hc := of_decide_eq_true hc
    have hi8 : i < 8 := by omega
    have hw : ((hE K).getD (i * 1) E.dflt).int = ((K.l.getD i 0).toNat : Int) := by
      show ((wE K.l).getD (i * 1) E.dflt).int = _
      rw [getW1 K.l hi8]
      rfl
    have hb4 : FnD Tryd.prog 133 [.v (.int .u64 (IntKind.u64.wrap ((K.l.getD i 0).toNat : Int))), .one (.e (.v (.int .i64 4)))] (.v (.string (strB (bigF (K.l.getD i 0).toNat 4)))) := by
      rw [u64_w]
      exact big_fn _ 4 (by decide)
    repeat' (first | refine tr_seq ?_ | refine tr_block ?_ | refine tr_skip ?_)
    refine reg (T := tab) tOk hnt rfl ?_ ?_
    · dsimp only [AllP]
      rw [Int.toNat_natCast]
      exact ⟨trivial, Int.natCast_nonneg _, by omega, okW1 K.l hi8⟩
    rw [Int.toNat_natCast, hw]
    repeat' (first | refine tr_seq ?_ | refine tr_block ?_ | refine tr_skip ?_)
    refine tr_region (lex (T := tab) tOk hnt rfl ?_ (call rfl rfl rfl rfl rfl rfl rfl hnt hb4 (lex (T := tab) tOk hnt rfl ?_ (Lex.nil _)))) ?_
    · exact ⟨trivial, trivial, trivial⟩
    · refine ⟨trivial, ?_⟩
      show (strB (preB K i)).size + (strB (bigF (K.l.getD i 0).toNat 4)).size ≤ maxLen
      rw [strB_size, strB_size, bigF_len, hpl, maxLen]
      omega
    rw [strB_app, ← preB_succ K hi8]
    repeat' (first | refine tr_seq ?_ | refine reg (T := tab) tOk hnt rfl ?_ ?_ | refine regD (T := tab) tOk mixedR hnt rfl (by decide +kernel) ?_ ?_ | refine tr_block ?_ | refine tr_skip ?_)
    · (dsimp only [AllP]; (repeat' first | exact trivial | assumption | exact Nat.le_of_ble_eq_true rfl | apply And.intro | intro _ | exact rfl))
    exact ⟨i + 1, hi8, by omega, le_of (ad := []) ⟨⟨rfl, rfl, rfl, rfl, rfl⟩, ⟨rfl, rfl, rfl, rfl, rfl⟩, rfl, rfl, congrArg (fun z : Int => E.v (.int .i64 z)) (wrap64_id (by omega) (by omega)), trivial⟩ (memOk_box rfl rfl rfl (memOk_box rfl rfl rfl trivial))⟩
  have hc := of_decide_eq_false hc
  have hi : i = 8 := by omega
  subst hi
  rw [preB_all]
  clear hpl hc
  have hol := outW_len K
  generalize outW K = o at hol ⊢
  refine tr_exit ?_
  repeat' (first | refine tr_seq ?_ | refine reg (T := tab) tOk hnt rfl ?_ ?_ | refine regD (T := tab) tOk mixedR hnt rfl (by decide +kernel) ?_ ?_ | refine tr_block ?_ | refine tr_skip ?_)
  · exact trivial
  · exact trivial
  refine tr_loop (σ := Nat) (fun i => St.of [(1, .one (.ptr 1 0 0)), (2, .one (.ptr 2 0 0)), (5, .v (.string (strB o))), (8, .one (.ptr 8 0 0)), (39, .v (.int .i64 i))] [(1, ⟨0, .box (.es (smE s)), 0⟩), (2, ⟨0, .box (.es (bE z32)), 0⟩), (8, ⟨0, .box (.es (bE (pad32 (o.take i)))), 0⟩)]) (fun i => i ≤ 32) (fun i => 32 - i) 0 (le_of (ad := []) ⟨⟨rfl, rfl, rfl, rfl, rfl⟩, ⟨rfl, rfl, rfl, rfl, rfl⟩, rfl, ⟨rfl, rfl, rfl, rfl, rfl⟩, rfl, trivial⟩ (memOk_box rfl rfl rfl (memOk_box rfl rfl rfl (memOk_boxE rfl rfl (by kernel_rfl) trivial)))) (Nat.zero_le _) ?_
  intro i hi
  repeat' (first | refine tr_seq ?_ | refine reg (T := tab) tOk hnt rfl ?_ ?_ | refine regD (T := tab) tOk mixedR hnt rfl (by decide +kernel) ?_ ?_ | refine tr_block ?_ | refine tr_skip ?_)
  · (dsimp only [AllP]; (repeat' first | exact trivial | assumption | exact Nat.le_of_ble_eq_true rfl | apply And.intro | intro _ | exact rfl))
  refine tr_cond rfl (fun hc => ?_) (fun hc => ?_)
  · have hc := of_decide_eq_true hc
    have hi32 : i < 32 := by omega
    have htl : (o.take i).length = i := by
      rw [List.length_take]
      omega
    have hp32 := pad32_len (l := o.take i) (by omega)
    repeat' (first | refine tr_seq ?_ | refine tr_block ?_ | refine tr_skip ?_)
    refine reg (T := tab) tOk hnt rfl (by (dsimp only [AllP]; (repeat' first | exact trivial | assumption | exact Nat.le_of_ble_eq_true rfl | apply And.intro | intro _ | exact rfl))) ?_
    repeat' (first | refine tr_seq ?_ | refine tr_block ?_ | refine tr_skip ?_)
    refine reg (T := tab) tOk hnt rfl ?_ ?_
    · dsimp only [AllP]
      rw [Int.toNat_natCast, strB_size]
      exact ⟨⟨rfl, putB _ (by omega), Nat.zero_le _⟩, ⟨Int.natCast_nonneg _, by omega⟩, ⟨Int.natCast_nonneg _, by omega⟩, trivial, trivial, trivial⟩
    rw [Int.toNat_natCast, strB_list]
    repeat' (first | refine tr_seq ?_ | refine reg (T := tab) tOk hnt rfl ?_ ?_ | refine regD (T := tab) tOk mixedR hnt rfl (by decide +kernel) ?_ ?_ | refine tr_block ?_ | refine tr_skip ?_)
    · (dsimp only [AllP]; (repeat' first | exact trivial | assumption | exact Nat.le_of_ble_eq_true rfl | apply And.intro | intro _ | exact rfl))
    refine ⟨i + 1, hi32, by omega, le_of (ad := []) ⟨⟨rfl, rfl, rfl, rfl, rfl⟩, ⟨rfl, rfl, rfl, rfl, rfl⟩, rfl, ⟨rfl, rfl, rfl, rfl, rfl⟩, congrArg (fun z : Int => E.v (.int .i64 z)) (wrap64_id (by omega) (by omega)), trivial⟩ (memOk_box rfl rfl rfl (memOk_box rfl rfl rfl (memOk_boxE rfl rfl ?_ trivial)))⟩
    have e := pad32_step (o.take i) (by omega) (o.getD i 0)
    rw [htl, ← take_snocB o i (by omega)] at e
    exact e
  have hc := of_decide_eq_false hc
  have hi : i = 32 := by omega
  subst hi
  rw [List.take_of_length_le (Nat.le_of_eq hol), pad32_full hol]
  have hb32 : (bE o).length = 32 := by simp [bE, hol]
  have hz32 : (bE z32).length = 32 := rfl
  clear hc
  refine tr_exit ?_
  repeat' (first | refine tr_seq ?_ | refine tr_block ?_ | refine tr_skip ?_)
  refine reg (T := tab) tOk hnt rfl ?_ ?_
  · refine ⟨⟨?_, Nat.le_of_ble_eq_true rfl, Nat.zero_le _⟩, ?_⟩
    · show (List.take 32 (List.drop 0 (bE o))).length = 32
      rw [all_of _ _ hb32, hb32]
    · show 0 + 32 ≤ (bE o).length
      omega
  refine tr_le (s' := St.of [(2, .one (.ptr 2 0 0))] [(2, ⟨0, .box (.es (bE o)), 0⟩)]) (le_of (ad := []) ⟨⟨rfl, rfl, rfl, rfl, rfl⟩, trivial⟩ (memOk_boxE rfl rfl (put_all _ _ 32 hb32 hz32) trivial)) ?_
  refine tr_ret ⟨.inr rfl, _, _, rfl, ⟨?_, trivial⟩, ?_⟩
  · show 0 + 32 ≤ (bE o).length
    omega
  exact congrArg (fun l => D.agg (.es l)) (all_of _ 32 hb32)
end Go.Proofs.YtphaholcndhonaaDoor
namespace Go.Proofs.YtphaholcndhonaaDoor
open Go Go.RowKit Go.Proofs.YtphaholcndhonaaDoor.Ab

theorem loadB (o : List UInt8) {i : Nat} (h : i < o.length) : ((Cs.es (bE o)).load ⟨1, 1, .int .u8, [.int .u8 0]⟩ (i * 1)).1 ∧ ((Cs.es (bE o)).load ⟨1, 1, .int .u8, [.int .u8 0]⟩ (i * 1)).2 = .one (.e (eB (o.getD i 0))) := by
  refine ⟨okB1 o h, ?_⟩
  show D.one (.e (E.as (.int .u8) ((bE o).getD (i * 1) E.dflt))) = _
  rw [getB1 o h]
  rfl
theorem loadW (o : List W) {i : Nat} (h : i < o.length) : ((Cs.es (wE o)).load ⟨1, 4, .int .u32, [.int .u32 0]⟩ (i * 1)).1 ∧ ((Cs.es (wE o)).load ⟨1, 4, .int .u32, [.int .u32 0]⟩ (i * 1)).2 = .one (.e (eW (o.getD i 0))) := by
  refine ⟨okW1 o h, ?_⟩
  show D.one (.e (E.as (.int .u32) ((wE o).getD (i * 1) E.dflt))) = _
  rw [getW1 o h]
  rfl
theorem eqD_arr {t n e sz b : Nat} {z : List Value} {ti : TI} (d : Nat) (ht : tab t = some ⟨sz, b, .arr n e, z⟩) (he : tab e = some ti) (c c' : Cs) : eqD tab (d + 1) t (.agg c) (.agg c') = (∀ i, i < n → (c.load ti (i * ti.size)).1 ∧ (c'.load ti (i * ti.size)).1 ∧ (eqD tab d e (c.load ti (i * ti.size)).2 (c'.load ti (i * ti.size)).2).1,
    (List.range n).all fun i => (eqD tab d e (c.load ti (i * ti.size)).2 (c'.load ti (i * ti.size)).2).2) := by
  conv =>
    lhs
    unfold eqD
  rw [ht]
  dsimp only
  rw [he]
theorem eqArrB {t n sz b : Nat} {z : List Value} (d : Nat) (ht : tab t = some ⟨sz, b, .arr n 5, z⟩) (o : List UInt8) (ho : o.length = n) : (eqD tab (d + 2) t (.agg (.es (bE o))) (.agg (.es (bE o)))).1 ∧ (eqD tab (d + 2) t (.agg (.es (bE o))) (.agg (.es (bE o)))).2 = true := by
  have h5 : tab 5 = some ⟨1, 1, .int .u8, [.int .u8 0]⟩ := rfl
  have he : ∀ c : UInt8, eqD tab (d + 1) 5 (.one (.e (eB c))) (.one (.e (eB c))) = (IntKind.u8 = IntKind.u8, (c.toNat : Int) == (c.toNat : Int)) := fun c => rfl
  rw [eqD_arr (d + 1) ht h5]
  dsimp only
  refine ⟨fun i hi => ?_, ?_⟩
  · obtain ⟨k1, k2⟩ := loadB o (i := i) (by omega)
    refine ⟨k1, k1, ?_⟩
    rw [k2, he]
  · refine List.all_eq_true.2 fun i hi => ?_
    obtain ⟨k1, k2⟩ := loadB o (i := i) (by have := List.mem_range.1 hi; omega)
    rw [k2, he]
    exact beq_self_eq_true _
theorem eqArrW {t n sz b : Nat} {z : List Value} (d : Nat) (ht : tab t = some ⟨sz, b, .arr n 220, z⟩) (o : List W) (ho : o.length = n) : (eqD tab (d + 2) t (.agg (.es (wE o))) (.agg (.es (wE o)))).1 ∧ (eqD tab (d + 2) t (.agg (.es (wE o))) (.agg (.es (wE o)))).2 = true := by
  have h5 : tab 220 = some ⟨1, 4, .int .u32, [.int .u32 0]⟩ := rfl
  have he : ∀ c : W, eqD tab (d + 1) 220 (.one (.e (eW c))) (.one (.e (eW c))) = (IntKind.u32 = IntKind.u32, (c.toNat : Int) == (c.toNat : Int)) := fun c => rfl
  rw [eqD_arr (d + 1) ht h5]
  dsimp only
  refine ⟨fun i hi => ?_, ?_⟩
  · obtain ⟨k1, k2⟩ := loadW o (i := i) (by omega)
    refine ⟨k1, k1, ?_⟩
    rw [k2, he]
  · refine List.all_eq_true.2 fun i hi => ?_
    obtain ⟨k1, k2⟩ := loadW o (i := i) (by have := List.mem_range.1 hi; omega)
    rw [k2, he]
    exact beq_self_eq_true _
theorem eq23 (o : List UInt8) (ho : o.length = 32) : (eqD tab 9 188 (.agg (.es (List.take 32 (List.drop 0 (bE o))))) (.agg (.es (List.take 32 (List.drop 0 (bE o)))))).1 ∧ (eqD tab 9 188 (.agg (.es (List.take 32 (List.drop 0 (bE o))))) (.agg (.es (List.take 32 (List.drop 0 (bE o)))))).2 = true := by
  rw [all_of (bE o) 32 (by simp [bE, ho])]
  exact eqArrB 7 rfl o ho
theorem add_s0 (b : List UInt8) (hb : b.length ≤ 1152921504606846976) : addF h0W zB 0 0 b = (feedF s0 b, 0) := by
  unfold addF
  rw [show sOk zB 0 0 = true from by decide, cond_true, if_neg (by omega)]
  rfl
set_option maxRecDepth 10000 in
theorem Summed_fn (b : List UInt8) (hb : b.length ≤ 1152921504606846976) : FnD Tryd.prog 137 [.one (.e (eBytes b))] (.agg (.es (bE (sumF b)))) := by
  refine fn_intro (T := tab) tOk Tryd.func137 rfl (by kernel_rfl) (by simp [Tryd.ntmps137]) ?_
  intro X hX
  have hnt : X.nt = 13 := hX
  clear hX
  have hA : FnD Tryd.prog 166 [.agg (.es (smE s0)), .one (.e (eBytes b))] (.tup [(true, .es (smE (feedF s0 b))), (false, .es [eI 0])]) := by
    have := Added_fn h0W zB 0 0 rfl b (by omega)
    rw [add_s0 b hb] at this
    exact this
  have hlen : (feedF s0 b).len = (b.length : Int) := by
    unfold feedF
    rw [fold_len]
    exact Int.zero_add _
  have hl74 : (smE (feedF s0 b)).length = 74 := smE_len _ (fold_held _ _ (show (0 : Nat) < 64 by decide))
  have hE : FnD Tryd.prog 168 [.agg (.es (List.take 74 (List.drop 0 (smE (feedF s0 b)))))] (.agg (.es (bE (sumF b)))) := by
    rw [all_of _ _ hl74]
    exact ended_fn (feedF s0 b) (fold_held _ _ (show (0 : Nat) < 64 by decide)) (by rw [hlen]; omega) (by rw [hlen]; omega)
  have hr : (bE (sumF b)).length = 32 := by simp [bE, sumF, endF, outW_len]
  clear hlen
  generalize feedF s0 b = t at hA hE hl74
  generalize sumF b = o at hE hr ⊢
  repeat' (first | refine tr_seq ?_ | refine reg (T := tab) tOk hnt rfl ?_ ?_ | refine regD (T := tab) tOk mixedR hnt rfl (by decide +kernel) ?_ ?_ | refine tr_block ?_ | refine tr_skip ?_)
  · (dsimp only [AllP]; (repeat' first | exact trivial | apply And.intro | exact Nat.le_of_ble_eq_true (by kernel_rfl) | decide | kernel_rfl | exact rfl))
  refine tr_region (lex (T := tab) tOk hnt rfl ?_ (call rfl rfl rfl rfl rfl rfl rfl hnt Begun_fn (lex (T := tab) tOk hnt rfl ?_ (call rfl rfl rfl rfl rfl rfl rfl hnt hA (lex (T := tab) tOk hnt rfl ?_ (Lex.nil _)))))) ?_
  · exact trivial
  · exact trivial
  · refine ⟨trivial, ⟨?_, Nat.le_of_ble_eq_true (by kernel_rfl), Nat.zero_le _⟩, trivial, rfl, trivial, trivial⟩
    exact hl74
  repeat' (first | refine tr_seq ?_ | refine tr_block ?_ | refine tr_skip ?_)
  refine tr_le (s' := St.of [(2, .one (.ptr 2 0 0)), (3, .one (.ptr 3 0 0))] [(2, ⟨0, .box (.es (bE z32)), 0⟩), (3, ⟨0, .box (.es (smE t)), 0⟩)]) (le_of (ad := []) ⟨⟨rfl, rfl, rfl, rfl, rfl⟩, ⟨rfl, rfl, rfl, rfl, rfl⟩, trivial⟩ (memOk_boxE rfl rfl (by kernel_rfl) (memOk_boxE rfl rfl (Eq.trans (b := List.take 0 (smE sZ) ++ smE t ++ List.drop (0 + 74) (smE sZ)) (by kernel_rfl) (put_all2 _ _ 74 sZ_len)) trivial))) ?_
  refine tr_region (lex (T := tab) tOk hnt rfl ?_ (call rfl rfl rfl rfl rfl rfl rfl hnt hE (lex (T := tab) tOk hnt rfl ?_ (Lex.nil _)))) ?_
  · exact Nat.le_of_eq hl74.symm
  · refine ⟨?_, Nat.le_of_ble_eq_true (by kernel_rfl), Nat.zero_le _⟩
    exact hr
  refine tr_le (s' := St.of [(2, .one (.ptr 2 0 0))] [(2, ⟨0, .box (.es (bE o)), 0⟩)]) (le_of (ad := []) ⟨⟨rfl, rfl, rfl, rfl, rfl⟩, trivial⟩ (memOk_boxE rfl rfl (put_all2 _ _ 32 rfl) trivial)) ?_
  refine tr_ret ⟨.inr rfl, _, _, rfl, ⟨Nat.le_of_eq hr.symm, trivial⟩, ?_⟩
  exact congrArg (fun l => D.agg (.es l)) (all_of _ 32 hr)
end Go.Proofs.YtphaholcndhonaaDoor
namespace Go.Proofs.YtphaholcndhonaaDoor
open Go Go.RowKit Go.Proofs.YtphaholcndhonaaDoor.Ab

theorem steps_of {V : World} (h : ∀ i, i < 64 → V.cell? ⟨4, i, none⟩ = some (.int .u32 ((kW.map fun w => (w.toNat : Int)).getD i 0))) : ∀ x ∈ gK, RepD p0 (CI V anyI) V (.one (.eptr x.2)) (.pointer (some ⟨x.1, 0, none⟩)) := by
  intro x hx
  obtain rfl := List.mem_singleton.1 hx
  refine ⟨4, 0, rfl, fun j e he => ?_⟩
  have hj : j < 64 := (List.getElem?_eq_some_iff.1 he).1
  have hl : j < kW.length := hj
  refine ⟨_, ⟨by rw [Nat.zero_add]; exact h j hj, trivial⟩, ?_⟩
  unfold kE at he
  rw [List.getElem?_map, List.getElem?_eq_getElem hl] at he
  cases he
  have e1 : (kW.map fun w => (w.toNat : Int)).getD j 0 = (kW[j].toNat : Int) := by simp [List.getD, hl]
  rw [e1]
  exact RepE.v _ rfl
/-- a law that answers true, the table of words given -/
theorem law_trueG {P : Program} {f : Nat} {gs : List (Nat × List E)} {ds : List D} {vs : Array Value} (h : FnG P f gs ds (.v (.bool true))) {V : World} (hg : ∀ x ∈ gs, RepD p0 (CI V anyI) V (.one (.eptr x.2)) (.pointer (some ⟨x.1, 0, none⟩))) (ha : RepAs (CI V anyI) V ds vs.toList) : Calls P f vs V fun e W' => e = .returned (.bool true) ∧ Below V.heap.size V W' := by
  refine (h.2 V vs anyI hg ha).mono ?_
  rintro e w' ⟨v, rfl, hb, hv⟩
  refine ⟨?_, hb⟩
  have hv : RepE _ (.v (.bool true)) v := hv
  cases hv
  rfl
end Go.Proofs.YtphaholcndhonaaDoor
