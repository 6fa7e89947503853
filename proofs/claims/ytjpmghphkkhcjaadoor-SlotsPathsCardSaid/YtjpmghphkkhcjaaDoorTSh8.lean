/- SHA-256 as the program has it: streams are begun, checked, fed and ended; sums. No condition. -/
import Derived.Test.YtjpmghphkkhcjaaDoorTSh7
namespace Go.Proofs.YtjpmghphkkhcjaaDoor
open Go Go.RowKit Go.Proofs.YtjpmghphkkhcjaaDoor.Ab

def s0 : Sm := ⟨h0W, [], 0⟩
set_option maxRecDepth 10000 in
theorem Begin_fn : FnD Tryd.prog 91 [] (.agg (.es (smE s0))) := by
  refine fn_intro (T := tab) tOk Tryd.func91 rfl (by kernel_rfl) (by simp [Tryd.ntmps91]) ?_
  intro X hX
  have hnt : X.nt = 3 := hX
  clear hX
  repeat' (first | refine tr_seq ?_ | refine reg (T := tab) tOk hnt rfl ?_ ?_ | refine regD (T := tab) tOk mixedR hnt rfl (by decide +kernel) ?_ ?_ | refine tr_block ?_ | refine tr_skip ?_)
  · (dsimp only [AllP]; (repeat' first | exact trivial | apply And.intro | exact Nat.le_of_ble_eq_true (by kernel_rfl) | decide | kernel_rfl | exact rfl))
  · (dsimp only [AllP]; (repeat' first | exact trivial | apply And.intro | exact Nat.le_of_ble_eq_true (by kernel_rfl) | decide | kernel_rfl | exact rfl))
  refine tr_ret ⟨.inr rfl, _, _, rfl, ⟨Nat.le_of_ble_eq_true (by kernel_rfl), trivial⟩, by kernel_rfl⟩

/-- a stream is as a stream may be -/
def sOk (l : List UInt8) (n m : Int) : Bool := decide (0 ≤ m) && (decide (m ≤ 1152921504606846976) && (decide (n = Int.tmod m 64) && (l.drop n.toNat).all (fun c => decide (c = 0))))
theorem sOk_mod {n m : Int} (h0 : 0 ≤ m) (_h1 : m ≤ 1152921504606846976) (h2 : n = Int.tmod m 64) : 0 ≤ n ∧ n < 64 := by
  rw [h2, Int.tmod_eq_emod_of_nonneg h0]
  omega
theorem sOk_of {l : List UInt8} {n m : Int} (h : sOk l n m = true) : 0 ≤ m ∧ m ≤ 1152921504606846976 ∧ n = Int.tmod m 64 ∧ ∀ j, n.toNat ≤ j → j < l.length → l.getD j 0 = 0 := by
  simp only [sOk, Bool.and_eq_true, decide_eq_true_eq] at h
  obtain ⟨h0, h1, h2, h3⟩ := h
  refine ⟨h0, h1, h2, fun j hj hjl => ?_⟩
  have := List.all_eq_true.1 h3 (l.getD j 0) (by
    rw [List.mem_iff_getElem?]
    exact ⟨j - n.toNat, by rw [List.getElem?_drop, show n.toNat + (j - n.toNat) = j by omega]; simp [hjl]⟩)
  exact of_decide_eq_true this
theorem sOk_mk {l : List UInt8} {n m : Int} (h0 : 0 ≤ m) (h1 : m ≤ 1152921504606846976) (h2 : n = Int.tmod m 64) (h3 : ∀ j, n.toNat ≤ j → j < l.length → l.getD j 0 = 0) : sOk l n m = true := by
  simp only [sOk, Bool.and_eq_true, decide_eq_true_eq]
  refine ⟨h0, h1, h2, List.all_eq_true.2 fun c hc => ?_⟩
  obtain ⟨j, hj⟩ := List.mem_iff_getElem?.1 hc
  rw [List.getElem?_drop] at hj
  have hlt := (List.getElem?_eq_some_iff.1 hj).1
  have := h3 (n.toNat + j) (by omega) hlt
  rw [List.getD_eq_getElem?_getD, hj] at this
  exact decide_eq_true this
theorem condB (n m : Int) : (bif (bif decide (m < 0) then true else decide (1152921504606846976 < m)) then true else !decide (n = Int.tmod m 64)) = !(decide (0 ≤ m) && (decide (m ≤ 1152921504606846976) && decide (n = Int.tmod m 64))) := by
  by_cases h1 : m < 0 <;> by_cases h2 : 1152921504606846976 < m <;> by_cases h3 : n = Int.tmod m 64 <;> simp [h1, h2, h3, Int.not_le.2, Int.not_lt.1] <;> omega
theorem sm_of {l : List UInt8} {n m : Int} (hl : l.length = 64) (h : sOk l n m = true) (H : H8) : stE H l n m = smE ⟨H, l.take n.toNat, m⟩ ∧ (l.take n.toNat).length < 64 ∧ 0 ≤ m ∧ m ≤ 1152921504606846976 := by
  obtain ⟨h0, h1, h2, h3⟩ := sOk_of h
  obtain ⟨n0, n1⟩ := sOk_mod h0 h1 h2
  have hlen : (l.take n.toNat).length = n.toNat := by
    rw [List.length_take]
    omega
  have hpad : padB (l.take n.toNat) = l := by
    unfold padB
    rw [hlen]
    apply List.ext_getElem
    · simp
      omega
    · intro i a b
      rcases Nat.lt_or_ge i n.toNat with hi | hi
      · rw [List.getElem_append_left (by omega)]
        simp
      · rw [List.getElem_append_right (by omega)]
        have := h3 i hi b
        rw [List.getD_eq_getElem?_getD, List.getElem?_eq_getElem b] at this
        simp at this ⊢
        exact this.symm
  refine ⟨?_, by omega, h0, h1⟩
  unfold smE
  show stE H l n m = stE H (padB (l.take n.toNat)) ((l.take n.toNat).length : Int) m
  rw [hpad, hlen]
  congr 1
  omega
def sZ : Sm := ⟨hZ, [], 0⟩
theorem sZ_len : (smE sZ).length = 74 := rfl
def addF (H : H8) (l : List UInt8) (n m : Int) (b : List UInt8) : Sm × Int :=
  bif sOk l n m then (if 1152921504606846976 - m < (b.length : Int) then (sZ, 1) else (feedF ⟨H, l.take n.toNat, m⟩ b, 0)) else (sZ, 11)
def rAdd (x : Sm × Int) : D := .tup [(true, .es (smE x.1)), (false, .es [eI x.2])]
def sumF (b : List UInt8) : List UInt8 := endF (feedF s0 b)
set_option maxRecDepth 10000 in
theorem Sum_fn (b : List UInt8) (hb : b.length ≤ 1152921504606846976) : FnG Tryd.prog 82 gK [.one (.e (eBytes b))] (.agg (.es (bE (sumF b)))) := by
  refine fn_introG (T := tab) tOk Tryd.func82 rfl (by kernel_rfl) (by simp [Tryd.ntmps82]) ?_
  intro X hX
  have hnt : X.nt = 7 := hX
  clear hX
  have h1 := feed_fn s0 b (by decide) (by decide) (by decide) (by omega)
  have hlen : (feedF s0 b).len = (b.length : Int) := by
    unfold feedF
    rw [fold_len]
    exact Int.zero_add _
  have h2 := end_fn (feedF s0 b) (fold_held _ _ (show (0 : Nat) < 64 by decide)) (by rw [hlen]; omega) (by rw [hlen]; omega)
  rw [show endF (feedF s0 b) = sumF b from rfl] at h2
  have hr : (bE (sumF b)).length = 32 := by simp [bE, sumF, endF, outW_len]
  clear hlen
  generalize feedF s0 b = t at h1 h2
  generalize sumF b = o at h2 hr ⊢
  repeat' (first | refine tr_seq ?_ | refine reg (T := tab) tOk hnt rfl ?_ ?_ | refine regD (T := tab) tOk mixedR hnt rfl (by decide +kernel) ?_ ?_ | refine tr_block ?_ | refine tr_skip ?_)
  · (dsimp only [AllP]; (repeat' first | exact trivial | apply And.intro | exact Nat.le_of_ble_eq_true (by kernel_rfl) | decide | kernel_rfl | exact rfl))
  refine tr_region (lex (T := tab) tOk hnt rfl ?_ (call rfl rfl rfl rfl rfl rfl rfl hnt Begin_fn (lex (T := tab) tOk hnt rfl ?_ (callV rfl rfl rfl rfl rfl rfl rfl hnt rfl h1 (lex (T := tab) tOk hnt rfl ?_ (callV rfl rfl rfl rfl rfl rfl rfl hnt rfl h2 (lex (T := tab) tOk hnt rfl ?_ (Lex.nil _)))))))) ?_
  · exact trivial
  · exact trivial
  · exact trivial
  · refine ⟨?_, Nat.le_of_ble_eq_true (by kernel_rfl), Nat.zero_le _⟩
    exact hr
  refine tr_le (s' := St.of [(2, .one (.ptr 2 0 0))] [(2, ⟨0, .box (.es (bE o)), 0⟩)]) (le_of (ad := []) ⟨⟨rfl, rfl, rfl, rfl, rfl⟩, trivial⟩ (memOk_boxE rfl rfl (Eq.trans (b := List.take 0 (bE z32) ++ bE o ++ List.drop (0 + 32) (bE z32)) (by kernel_rfl) (put_all2 _ _ 32 rfl)) trivial)) ?_
  refine tr_ret ⟨.inr rfl, _, _, rfl, ⟨Nat.le_of_eq hr.symm, trivial⟩, ?_⟩
  exact congrArg (fun l => D.agg (.es l)) (all_of _ 32 hr)
def endR (H : H8) (l : List UInt8) (n m : Int) : List UInt8 × Int := bif sOk l n m then (endF ⟨H, l.take n.toNat, m⟩, 0) else (z32, 11)
def rEnd (x : List UInt8 × Int) : D := .tup [(true, .es (bE x.1)), (false, .es [eI x.2])]
end Go.Proofs.YtjpmghphkkhcjaaDoor
