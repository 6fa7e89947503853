/- deed.Check. No condition. -/
import Derived.Test.YtphaholcndhonaaDoorTDd2
namespace Go.Proofs.YtphaholcndhonaaDoor
open Go Go.RowKit Go.Proofs.YtphaholcndhonaaDoor.Ab
set_option linter.unusedSimpArgs false
set_option linter.unusedVariables false

theorem tbC (t : Tbl) : (bif (bif ((eTab t).getD (0 + 0) E.dflt).bool then !decide (tabF t = 0) else false) then true else (bif !((eTab t).getD (0 + 0) E.dflt).bool then !blF t else false)) = !tbB t := by
  rw [eTab0]
  unfold tbB
  cases t.th <;> cases blF t <;> cases decide (tabF t = 0) <;> rfl
theorem dupC (t u : Tbl) : (bif (bif ((eTab t).getD (0 + 0) E.dflt).bool then ((eTab u).getD (0 + 0) E.dflt).bool else false) then strEq ((eTab u).getD (0 + 1) E.dflt).str ((eTab t).getD (0 + 1) E.dflt).str else false) = dup t u := by
  rw [eTab0, eTab0, eTab1, eTab1, strEq_B]
  unfold dup
  cases t.th <;> cases u.th <;> rfl
theorem quo2 (q : Nat) (h : q < 12) : IntKind.i64.wrap ((q : Int).tdiv 2) = ((q / 2 : Nat) : Int) := by
  rw [show (q : Int).tdiv 2 = ((q / 2 : Nat) : Int) from rfl]
  exact wrap64_id (by omega) (by omega)
theorem rem2 (q : Nat) (h : q < 12) : (q : Int).tmod 2 = ((q % 2 : Nat) : Int) := rfl
theorem getD_sub {α : Type} (l : List α) (o n k : Nat) (d : α) (h : k < n) : l.getD (o + k) d = ((l.drop o).take n).getD k d := by
  rw [List.getD_eq_getElem?_getD, List.getD_eq_getElem?_getD, List.getElem?_take_of_lt h, List.getElem?_drop]
theorem staTh {s : Sta} (h : s.ok) {a b : Nat} (ha : a < 3) (hb : b < 2) : (eSta s).getD (0 + 0 + a * 38 + b * 19 + 0) E.dflt = eBl ((s.t.getD a []).getD b tb0).th := by
  have h1 := tsLen h
  have h2 := tsGet h ha
  have hm : s.t.getD a [] ∈ s.t := getD_mem (by rw [h.t3]; exact ha)
  have h3 := lstGet h hm hb
  unfold eSta
  rw [show 0 + 0 + a * 38 + b * 19 + 0 = a * 38 + b * 19 by omega, List.getD_eq_getElem?_getD, List.getElem?_append_left (by omega), ← List.getD_eq_getElem?_getD, getD_sub _ (a * 38) 38 (b * 19) _ (by omega), h2, show b * 19 = b * 19 + 0 from rfl, getD_sub _ (b * 19) 19 0 _ (by omega), h3]
  rfl
theorem askC (x : Int) : (bif decide (x < 0) then true else decide (12 < x)) = !askB x := by
  unfold askB
  by_cases h : x < 0
  · rw [decide_eq_true h, decide_eq_false (by omega : ¬ 0 ≤ x)]; rfl
  · rw [decide_eq_false h, decide_eq_true (by omega : 0 ≤ x)]
    by_cases h2 : 12 < x
    · rw [decide_eq_true h2, decide_eq_false (by omega : ¬ x ≤ 12)]; rfl
    · rw [decide_eq_false h2, decide_eq_true (by omega : x ≤ 12)]; rfl
theorem all_drop {α : Type} (f : α → Bool) (l : List α) (i : Nat) (h : l.length ≤ i) : (l.drop i).all f = true := by rw [List.drop_eq_nil_of_le h]; rfl
set_option maxRecDepth 10000 in
set_option maxHeartbeats 2000000 in
theorem deedCheck_fn (s : Sta) (h : s.ok) : FnG Tryd.prog 21 gK [.agg (.es (eSta s))] (.one (.e (eI (staF s)))) := by
  refine fn_introG (T := tab) tOk Tryd.func21 rfl (by kernel_rfl) (by simp [Tryd.ntmps21]) ?_
  intro X hX
  have hnt : X.nt = 101 := hX
  clear hX
  have h118 := staLen h
  have f118 : 0 + 118 ≤ (Cs.es (eSta s)).len := by show 0 + 118 ≤ (eSta s).length; omega
  have f114 : 0 + 0 + 114 ≤ (Cs.es (eSta s)).len := by show 0 + 0 + 114 ≤ (eSta s).length; omega
  have hT := staT h
  have hA := staA h
  have hG := staG h
  have t3 := h.t3
  have hGa : D0.isA (K.slice 127) ((Cs.es (eSta s)).at (0 + 114)) := by
    show E.as (K.slice 127) ((eSta s).getD (0 + 114) E.dflt) = _
    rw [hG]
    rfl
  repeat' (first | refine tr_seq ?_ | refine tr_block ?_ | refine tr_skip ?_)
  first | refine reg (T := tab) tOk hnt rfl ?_ ?_ | refine regD (T := tab) tOk mixedR hnt rfl (by first | decide +kernel | kernel_rfl) ?_ ?_
  · (dsimp only [AllP]; (repeat' first | exact trivial | assumption | exact Nat.le_of_ble_eq_true rfl | apply And.intro | exact eCells_len1 _ _ ‹_› | exact eCells_isByte _ _ ‹_› | (intro hh_; have hg_ := hh_; (try simp only [condT_ff, condF_tt, notE_t, notE_f, Bool.and_eq_true, ne_eq, decide_eq_true_eq, decide_eq_false_iff_not] at hg_)) | intro _ | exact rfl | omega))
  repeat' (first | refine tr_seq ?_ | refine tr_block ?_ | refine tr_skip ?_)
  first | refine reg (T := tab) tOk hnt rfl ?_ ?_ | refine regD (T := tab) tOk mixedR hnt rfl (by first | decide +kernel | kernel_rfl) ?_ ?_
  · (dsimp only [AllP]; (repeat' first | exact trivial | assumption | exact Nat.le_of_ble_eq_true rfl | apply And.intro | exact eCells_len1 _ _ ‹_› | exact eCells_isByte _ _ ‹_› | (intro hh_; have hg_ := hh_; (try simp only [condT_ff, condF_tt, notE_t, notE_f, Bool.and_eq_true, ne_eq, decide_eq_true_eq, decide_eq_false_iff_not] at hg_)) | intro _ | exact rfl | omega))
  rw [hT]
  repeat' (first | refine tr_seq ?_ | refine tr_block ?_ | refine tr_skip ?_)
  refine tr_loop (σ := Nat) (fun i => St.of [(1, .one (.ptr 1 0 0)), (15, .agg (.es (eTs s.t))), (16, .one (.e (eI (i : Int)))), ((1000000 + 0), .one (.eptr fsE)), ((1000000 + 1), .one (.eptr acE))] [(1, ⟨0, .box (.es (eSta s)), 0⟩)]) (fun i => (s.t.drop i).all (lsG []) = s.t.all (lsG []) ∧ i ≤ s.t.length) (fun i => s.t.length - i) (0) (le_of (ad := []) (by refine ⟨?_, ?_, ?_, ?_, ?_, trivial⟩ <;> first | exact trivial | rfl | exact ⟨rfl, rfl⟩ | exact ⟨rfl, rfl, rfl⟩ | exact ⟨rfl, rfl, rfl, rfl⟩ | exact ⟨rfl, rfl, rfl, rfl, rfl⟩ | exact congrArg (fun z : Int => E.v (.int .i64 z)) (wrap64_id (by omega) (by omega)) | exact congrArg (fun z : Int => E.v (.int .u8 z)) (by assumption) | exact congrArg (fun z : ByteArray => E.v (.string z)) (by assumption) | (refine ⟨rfl, ?_⟩; repeat' first | exact trivial | rfl | apply And.intro)) (memOk_box rfl rfl rfl trivial)) ⟨rfl, Nat.zero_le _⟩ ?_
  rintro i ⟨hi, il⟩
  repeat' (first | refine tr_seq ?_ | refine reg (T := tab) tOk hnt rfl ?_ ?_ | refine regD (T := tab) tOk mixedR hnt rfl (by first | decide +kernel | kernel_rfl) ?_ ?_ | refine tr_block ?_ | refine tr_skip ?_)
  · (dsimp only [AllP]; (repeat' first | exact trivial | assumption | exact Nat.le_of_ble_eq_true rfl | apply And.intro | decide | intro _ | exact rfl))
  repeat' (first | refine tr_seq ?_ | refine tr_block ?_ | refine tr_skip ?_)
  refine tr_cond rfl (fun hc => ?_) (fun hc => ?_)
  · simp only [condT_tt, condT_ff, condF_tt, condF_ff, notE_t, notE_f, decide_eq_true_eq, decide_eq_false_iff_not] at hc
    have hlt : i < s.t.length := by omega
    rw [drop_getD (d := []) hlt, List.all_cons] at hi
    have hg : List.take 38 (List.drop ((i : Int).toNat * 38) (eTs s.t)) = eLst (s.t.getD i []) := tsGet h (by omega)
    have hlm : s.t.getD i [] ∈ s.t := getD_mem hlt
    have hl2 := h.l2 _ hlm
    have h38 := lstLen h hlm
    have e38 : (Cs.es (List.take 38 (List.drop ((i : Int).toNat * 38) (eTs s.t)))).len = 38 := by rw [hg]; exact h38
    have l38 : i * 38 + 38 ≤ (Cs.es (eTs s.t)).len := by show _ ≤ (eTs s.t).length; rw [tsLen h]; omega
    repeat' (first | refine tr_seq ?_ | refine tr_block ?_ | refine tr_skip ?_)
    first | refine reg (T := tab) tOk hnt rfl ?_ ?_ | refine regD (T := tab) tOk mixedR hnt rfl (by first | decide +kernel | kernel_rfl) ?_ ?_
    · (dsimp only [AllP]; (repeat' first | exact trivial | assumption | exact Nat.le_of_ble_eq_true rfl | apply And.intro | exact eCells_len1 _ _ ‹_› | exact eCells_isByte _ _ ‹_› | (intro hh_; have hg_ := hh_; (try simp only [condT_ff, condF_tt, notE_t, notE_f, Bool.and_eq_true, ne_eq, decide_eq_true_eq, decide_eq_false_iff_not] at hg_)) | intro _ | exact rfl | omega))
    rw [hg]
    have htb := h.tb _ hlm
    have hlg := fun {j : Nat} (hj : j < 2) => lstGet h hlm hj
    generalize s.t.getD i [] = l at *
    have f38 : 0 + 38 ≤ (Cs.es (eLst l)).len := by show 0 + 38 ≤ (eLst l).length; omega
    repeat' (first | refine tr_seq ?_ | refine tr_block ?_ | refine tr_skip ?_)
    first | refine reg (T := tab) tOk hnt rfl ?_ ?_ | refine regD (T := tab) tOk mixedR hnt rfl (by first | decide +kernel | kernel_rfl) ?_ ?_
    · (dsimp only [AllP]; (repeat' first | exact trivial | assumption | exact Nat.le_of_ble_eq_true rfl | apply And.intro | exact eCells_len1 _ _ ‹_› | exact eCells_isByte _ _ ‹_› | (intro hh_; have hg_ := hh_; (try simp only [condT_ff, condF_tt, notE_t, notE_f, Bool.and_eq_true, ne_eq, decide_eq_true_eq, decide_eq_false_iff_not] at hg_)) | intro _ | exact rfl | omega))
    rw [show List.take 38 (List.drop 0 (eLst l)) = eLst l from List.take_of_length_le (Nat.le_of_eq h38)]
    repeat' (first | refine tr_seq ?_ | refine tr_block ?_ | refine tr_skip ?_)
    refine tr_loop (σ := Nat) (fun j => St.of [(1, .one (.ptr 1 0 0)), (4, .one (.ptr 4 0 0)), (15, .agg (.es (eTs s.t))), (16, .one (.e (eI (i : Int)))), (19, .agg (.es (eLst l))), (20, .one (.e (eI (j : Int)))), ((1000000 + 0), .one (.eptr fsE)), ((1000000 + 1), .one (.eptr acE))] [(1, ⟨0, .box (.es (eSta s)), 0⟩), (4, ⟨0, .box (.es (eLst l)), 0⟩)]) (fun j => lsG (l.take j) (l.drop j) = lsG [] l ∧ j ≤ l.length) (fun j => l.length - j) (0) (le_of (ad := []) (by refine ⟨?_, ?_, ?_, ?_, ?_, ?_, ?_, ?_, trivial⟩ <;> first | exact trivial | rfl | exact ⟨rfl, rfl⟩ | exact ⟨rfl, rfl, rfl⟩ | exact ⟨rfl, rfl, rfl, rfl⟩ | exact ⟨rfl, rfl, rfl, rfl, rfl⟩ | exact congrArg (fun z : Int => E.v (.int .i64 z)) (wrap64_id (by omega) (by omega)) | exact congrArg (fun z : Int => E.v (.int .u8 z)) (by assumption) | exact congrArg (fun z : ByteArray => E.v (.string z)) (by assumption) | (refine ⟨rfl, ?_⟩; repeat' first | exact trivial | rfl | apply And.intro)) (memOk_box rfl rfl rfl (memOk_box rfl rfl rfl trivial))) ⟨rfl, Nat.zero_le _⟩ ?_
    rintro j ⟨hj, jl⟩
    repeat' (first | refine tr_seq ?_ | refine reg (T := tab) tOk hnt rfl ?_ ?_ | refine regD (T := tab) tOk mixedR hnt rfl (by first | decide +kernel | kernel_rfl) ?_ ?_ | refine tr_block ?_ | refine tr_skip ?_)
    · (dsimp only [AllP]; (repeat' first | exact trivial | assumption | exact Nat.le_of_ble_eq_true rfl | apply And.intro | decide | intro _ | exact rfl))
    repeat' (first | refine tr_seq ?_ | refine tr_block ?_ | refine tr_skip ?_)
    refine tr_cond rfl (fun hc => ?_) (fun hc => ?_)
    · simp only [condT_tt, condT_ff, condF_tt, condF_ff, notE_t, notE_f, decide_eq_true_eq, decide_eq_false_iff_not] at hc
      have hjt : j < l.length := by omega
      have htk : l.take (j + 1) = l.take j ++ [l.getD j tb0] := by rw [List.take_add_one]; simp [List.getD, hjt]
      rw [drop_getD (d := tb0) hjt, lsG] at hj
      have hg2 : List.take 19 (List.drop ((j : Int).toNat * 19) (eLst l)) = eTab (l.getD j tb0) := hlg (by omega)
      have htm : l.getD j tb0 ∈ l := getD_mem hjt
      have htok := htb _ htm
      have h19 := tabLen htok
      have e19 : (Cs.es (List.take 19 (List.drop ((j : Int).toNat * 19) (eLst l)))).len = 19 := by rw [hg2]; exact h19
      have l19 : j * 19 + 19 ≤ (Cs.es (eLst l)).len := by show _ ≤ (eLst l).length; rw [h38]; omega
      repeat' (first | refine tr_seq ?_ | refine tr_block ?_ | refine tr_skip ?_)
      first | refine reg (T := tab) tOk hnt rfl ?_ ?_ | refine regD (T := tab) tOk mixedR hnt rfl (by first | decide +kernel | kernel_rfl) ?_ ?_
      · (dsimp only [AllP]; (repeat' first | exact trivial | assumption | exact Nat.le_of_ble_eq_true rfl | apply And.intro | exact eCells_len1 _ _ ‹_› | exact eCells_isByte _ _ ‹_› | (intro hh_; have hg_ := hh_; (try simp only [condT_ff, condF_tt, notE_t, notE_f, Bool.and_eq_true, ne_eq, decide_eq_true_eq, decide_eq_false_iff_not] at hg_)) | intro _ | exact rfl | omega))
      rw [hg2]
      generalize l.getD j tb0 = t at *
      have f19 : 0 + 19 ≤ (Cs.es (eTab t)).len := by show 0 + 19 ≤ (eTab t).length; omega
      have h1 := tabCheck_fn t htok
      have h2 := blank_fn t htok
      rw [← show List.take 19 (List.drop 0 (eTab t)) = eTab t from List.take_of_length_le (Nat.le_of_eq h19)] at h1 h2
      repeat' (first | refine tr_seq ?_ | refine tr_block ?_ | refine tr_skip ?_)
      refine tr_region (lex (T := tab) tOk hnt rfl ?_ (callVG rfl rfl rfl rfl rfl rfl hnt rfl (fun hq => ?_) rfl (fun hq => h1) (lex (T := tab) tOk hnt rfl ?_ (callG rfl rfl rfl rfl rfl rfl hnt rfl (fun hq => ?_) (fun hq => h2) (lex (T := tab) tOk hnt rfl ?_ (Lex.nil _)))))) ?_
      · (dsimp only [AllP]; (repeat' first | exact trivial | assumption | exact Nat.le_of_ble_eq_true rfl | apply And.intro | exact eCells_len1 _ _ ‹_› | exact eCells_isByte _ _ ‹_› | (intro hh_; have hg_ := hh_; (try simp only [condT_ff, condF_tt, notE_t, notE_f, Bool.and_eq_true, ne_eq, decide_eq_true_eq, decide_eq_false_iff_not] at hg_)) | intro _ | exact rfl | omega))
      · (dsimp only [AllP]; (repeat' first | exact trivial | assumption | exact Nat.le_of_ble_eq_true rfl | apply And.intro | exact eCells_len1 _ _ ‹_› | exact eCells_isByte _ _ ‹_› | (intro hh_; have hg_ := hh_; (try simp only [condT_ff, condF_tt, notE_t, notE_f, Bool.and_eq_true, ne_eq, decide_eq_true_eq, decide_eq_false_iff_not] at hg_)) | intro _ | exact rfl | omega))
      · (dsimp only [AllP]; (repeat' first | exact trivial | assumption | exact Nat.le_of_ble_eq_true rfl | apply And.intro | exact eCells_len1 _ _ ‹_› | exact eCells_isByte _ _ ‹_› | (intro hh_; have hg_ := hh_; (try simp only [condT_ff, condF_tt, notE_t, notE_f, Bool.and_eq_true, ne_eq, decide_eq_true_eq, decide_eq_false_iff_not] at hg_)) | intro _ | exact rfl | omega))
      · (dsimp only [AllP]; (repeat' first | exact trivial | assumption | exact Nat.le_of_ble_eq_true rfl | apply And.intro | exact eCells_len1 _ _ ‹_› | exact eCells_isByte _ _ ‹_› | (intro hh_; have hg_ := hh_; (try simp only [condT_ff, condF_tt, notE_t, notE_f, Bool.and_eq_true, ne_eq, decide_eq_true_eq, decide_eq_false_iff_not] at hg_)) | intro _ | exact rfl | omega))
      · (dsimp only [AllP]; (repeat' first | exact trivial | assumption | exact Nat.le_of_ble_eq_true rfl | apply And.intro | exact eCells_len1 _ _ ‹_› | exact eCells_isByte _ _ ‹_› | (intro hh_; have hg_ := hh_; (try simp only [condT_ff, condF_tt, notE_t, notE_f, Bool.and_eq_true, ne_eq, decide_eq_true_eq, decide_eq_false_iff_not] at hg_)) | intro _ | exact rfl | omega))
      clear h1 h2
      repeat' (first | refine tr_seq ?_ | refine tr_block ?_ | refine tr_skip ?_)
      refine tr_cond rfl (fun hc => ?_) (fun hc => ?_)
      · have hc : (!tbB t) = true := (tbC t).symm.trans hc
        rw [Bool.not_eq_true'] at hc
        rw [hc] at hj
        have hj : false = lsG [] l := hj
        rw [← hj] at hi
        rw [stG_t hi.symm]
        repeat' (first | refine tr_seq ?_ | refine reg (T := tab) tOk hnt rfl ?_ ?_ | refine regD (T := tab) tOk mixedR hnt rfl (by first | decide +kernel | kernel_rfl) ?_ ?_ | refine tr_block ?_ | refine tr_skip ?_)
        · (dsimp only [AllP]; (repeat' first | exact trivial | assumption | exact Nat.le_of_ble_eq_true rfl | apply And.intro | decide | intro _ | exact rfl))
        exact tr_ret ⟨.inr rfl, _, _, rfl, trivial, rfl⟩
      have hc : (!tbB t) = false := (tbC t).symm.trans hc
      rw [Bool.not_eq_false'] at hc
      rw [hc, Bool.true_and] at hj
      have j0 : (0 : Int) ≤ (j : Int) := Int.natCast_nonneg _
      have fl : 0 + 2 * 19 ≤ (Cs.es (eLst l)).len := by show 0 + 2 * 19 ≤ (eLst l).length; omega
      have jj : (j : Int) ≤ 2 := by omega
      have jj2 : (0 : Int) < 2 := by decide
      repeat' (first | refine tr_seq ?_ | refine tr_block ?_ | refine tr_skip ?_)
      first | refine reg (T := tab) tOk hnt rfl ?_ ?_ | refine regD (T := tab) tOk mixedR hnt rfl (by first | decide +kernel | kernel_rfl) ?_ ?_
      · (dsimp only [AllP]; (repeat' first | exact trivial | assumption | exact Nat.le_of_ble_eq_true rfl | apply And.intro | exact eCells_len1 _ _ ‹_› | exact eCells_isByte _ _ ‹_› | (intro hh_; have hg_ := hh_; (try simp only [condT_ff, condF_tt, notE_t, notE_f, Bool.and_eq_true, ne_eq, decide_eq_true_eq, decide_eq_false_iff_not] at hg_)) | intro _ | exact rfl | omega))
      have hnl : ((j : Int) - 0).toNat = j := by omega
      repeat' (first | refine tr_seq ?_ | refine tr_block ?_ | refine tr_skip ?_)
      refine tr_loop (σ := Nat) (fun k => St.of [(1, .one (.ptr 1 0 0)), (4, .one (.ptr 4 0 0)), (6, .one (.ptr 6 0 0)), (15, .agg (.es (eTs s.t))), (16, .one (.e (eI (i : Int)))), (19, .agg (.es (eLst l))), (20, .one (.e (eI (j : Int)))), (42, .one (.bsl 4 0 0 19 ((j : Int) - 0).toNat)), (43, .one (.e (eI (((j : Int) - 0).toNat : Int)))), (44, .one (.e (eI (k : Int)))), ((1000000 + 0), .one (.eptr fsE)), ((1000000 + 1), .one (.eptr acE))] [(1, ⟨0, .box (.es (eSta s)), 0⟩), (4, ⟨0, .box (.es (eLst l)), 0⟩), (6, ⟨0, .box (.es (eTab t)), 0⟩)]) (fun k => ((l.take j).drop k).any (dup t) = (l.take j).any (dup t) ∧ k ≤ j) (fun k => j - k) (0) (le_of (ad := []) (by refine ⟨?_, ?_, ?_, ?_, ?_, ?_, ?_, ?_, ?_, ?_, ?_, ?_, trivial⟩ <;> first | exact trivial | rfl | exact ⟨rfl, rfl⟩ | exact ⟨rfl, rfl, rfl⟩ | exact ⟨rfl, rfl, rfl, rfl⟩ | exact ⟨rfl, rfl, rfl, rfl, rfl⟩ | exact congrArg (fun z : Int => E.v (.int .i64 z)) (wrap64_id (by omega) (by omega)) | exact congrArg (fun z : Int => E.v (.int .u8 z)) (by assumption) | exact congrArg (fun z : ByteArray => E.v (.string z)) (by assumption) | (refine ⟨rfl, ?_⟩; repeat' first | exact trivial | rfl | apply And.intro)) (memOk_box rfl rfl rfl (memOk_box rfl rfl rfl (memOk_box rfl rfl rfl trivial)))) ⟨rfl, Nat.zero_le _⟩ ?_
      rintro k ⟨hk, kl⟩
      repeat' (first | refine tr_seq ?_ | refine reg (T := tab) tOk hnt rfl ?_ ?_ | refine regD (T := tab) tOk mixedR hnt rfl (by first | decide +kernel | kernel_rfl) ?_ ?_ | refine tr_block ?_ | refine tr_skip ?_)
      · (dsimp only [AllP]; (repeat' first | exact trivial | assumption | exact Nat.le_of_ble_eq_true rfl | apply And.intro | decide | intro _ | exact rfl))
      repeat' (first | refine tr_seq ?_ | refine tr_block ?_ | refine tr_skip ?_)
      refine tr_cond rfl (fun hc => ?_) (fun hc => ?_)
      · simp only [condT_tt, condT_ff, condF_tt, condF_ff, notE_t, notE_f, decide_eq_true_eq, decide_eq_false_iff_not] at hc
        have hkt : k < (l.take j).length := by rw [List.length_take]; omega
        rw [drop_getD (d := tb0) hkt, List.any_cons] at hk
        have hgk : (l.take j).getD k tb0 = l.getD k tb0 := by
          rw [List.getD_eq_getElem?_getD, List.getElem?_take_of_lt (by omega), ← List.getD_eq_getElem?_getD]
        rw [hgk] at hk
        have hg3 : List.take 19 (List.drop (0 + (k : Int).toNat * 19) (eLst l)) = eTab (l.getD k tb0) := by rw [Nat.zero_add]; exact hlg (by omega)
        have hum : l.getD k tb0 ∈ l := getD_mem (by omega)
        have h19u := tabLen (htb _ hum)
        have e19u : (Cs.es (List.take 19 (List.drop (0 + (k : Int).toNat * 19) (eLst l)))).len = 19 := by rw [hg3]; exact h19u
        have l19u : 0 + (k : Int).toNat * 19 + 19 ≤ (Cs.es (eLst l)).len := by show _ ≤ (eLst l).length; rw [h38]; omega
        repeat' (first | refine tr_seq ?_ | refine tr_block ?_ | refine tr_skip ?_)
        first | refine reg (T := tab) tOk hnt rfl ?_ ?_ | refine regD (T := tab) tOk mixedR hnt rfl (by first | decide +kernel | kernel_rfl) ?_ ?_
        · (dsimp only [AllP]; (repeat' first | exact trivial | assumption | exact Nat.le_of_ble_eq_true rfl | apply And.intro | exact eCells_len1 _ _ ‹_› | exact eCells_isByte _ _ ‹_› | (intro hh_; have hg_ := hh_; (try simp only [condT_ff, condF_tt, notE_t, notE_f, Bool.and_eq_true, ne_eq, decide_eq_true_eq, decide_eq_false_iff_not] at hg_)) | intro _ | exact rfl | omega))
        rw [hg3]
        generalize l.getD k tb0 = u at *
        have f19u : 0 + 19 ≤ (Cs.es (eTab u)).len := by show 0 + 19 ≤ (eTab u).length; omega
        repeat' (first | refine tr_seq ?_ | refine tr_block ?_ | refine tr_skip ?_)
        first | refine reg (T := tab) tOk hnt rfl ?_ ?_ | refine regD (T := tab) tOk mixedR hnt rfl (by first | decide +kernel | kernel_rfl) ?_ ?_
        · (dsimp only [AllP]; (repeat' first | exact trivial | assumption | exact Nat.le_of_ble_eq_true rfl | apply And.intro | exact eCells_len1 _ _ ‹_› | exact eCells_isByte _ _ ‹_› | (intro hh_; have hg_ := hh_; (try simp only [condT_ff, condF_tt, notE_t, notE_f, Bool.and_eq_true, ne_eq, decide_eq_true_eq, decide_eq_false_iff_not] at hg_)) | intro _ | exact rfl | omega))
        repeat' (first | refine tr_seq ?_ | refine tr_block ?_ | refine tr_skip ?_)
        refine tr_cond rfl (fun hc => ?_) (fun hc => ?_)
        · have hc : dup t u = true := (dupC t u).symm.trans hc
          rw [hc, Bool.true_or] at hk
          rw [← hk] at hj
          have hj : false = lsG [] l := hj
          rw [← hj] at hi
          rw [stG_t hi.symm]
          repeat' (first | refine tr_seq ?_ | refine reg (T := tab) tOk hnt rfl ?_ ?_ | refine regD (T := tab) tOk mixedR hnt rfl (by first | decide +kernel | kernel_rfl) ?_ ?_ | refine tr_block ?_ | refine tr_skip ?_)
          · (dsimp only [AllP]; (repeat' first | exact trivial | assumption | exact Nat.le_of_ble_eq_true rfl | apply And.intro | decide | intro _ | exact rfl))
          exact tr_ret ⟨.inr rfl, _, _, rfl, trivial, rfl⟩
        have hc : dup t u = false := (dupC t u).symm.trans hc
        rw [hc, Bool.false_or] at hk
        repeat' (first | refine tr_seq ?_ | refine reg (T := tab) tOk hnt rfl ?_ ?_ | refine regD (T := tab) tOk mixedR hnt rfl (by first | decide +kernel | kernel_rfl) ?_ ?_ | refine tr_block ?_ | refine tr_skip ?_)
        · (dsimp only [AllP]; (repeat' first | exact trivial | assumption | exact Nat.le_of_ble_eq_true rfl | apply And.intro | decide | intro _ | exact rfl))
        refine ⟨k + 1, ⟨hk, by omega⟩, by omega, le_of (ad := []) (by refine ⟨?_, ?_, ?_, ?_, ?_, ?_, ?_, ?_, ?_, ?_, ?_, ?_, trivial⟩ <;> first | exact trivial | rfl | exact ⟨rfl, rfl⟩ | exact ⟨rfl, rfl, rfl⟩ | exact ⟨rfl, rfl, rfl, rfl⟩ | exact ⟨rfl, rfl, rfl, rfl, rfl⟩ | exact congrArg (fun z : Int => E.v (.int .i64 z)) (wrap64_id (by omega) (by omega)) | exact congrArg (fun z : Int => E.v (.int .u8 z)) (by assumption) | exact congrArg (fun z : ByteArray => E.v (.string z)) (by assumption) | (refine ⟨rfl, ?_⟩; repeat' first | exact trivial | rfl | apply And.intro)) (memOk_box rfl rfl rfl (memOk_box rfl rfl rfl (memOk_box rfl rfl rfl trivial)))⟩
      simp only [condT_tt, condT_ff, condF_tt, condF_ff, notE_t, notE_f, decide_eq_true_eq, decide_eq_false_iff_not] at hc
      refine tr_exit ?_
      rw [List.drop_eq_nil_of_le (by rw [List.length_take]; omega), List.any_nil] at hk
      rw [← hk, ← htk, Bool.not_false, Bool.true_and] at hj
      repeat' (first | refine tr_seq ?_ | refine reg (T := tab) tOk hnt rfl ?_ ?_ | refine regD (T := tab) tOk mixedR hnt rfl (by first | decide +kernel | kernel_rfl) ?_ ?_ | refine tr_block ?_ | refine tr_skip ?_)
      · (dsimp only [AllP]; (repeat' first | exact trivial | assumption | exact Nat.le_of_ble_eq_true rfl | apply And.intro | decide | intro _ | exact rfl))
      refine ⟨j + 1, ⟨hj, by omega⟩, by omega, le_of (ad := []) (by refine ⟨?_, ?_, ?_, ?_, ?_, ?_, ?_, ?_, trivial⟩ <;> first | exact trivial | rfl | exact ⟨rfl, rfl⟩ | exact ⟨rfl, rfl, rfl⟩ | exact ⟨rfl, rfl, rfl, rfl⟩ | exact ⟨rfl, rfl, rfl, rfl, rfl⟩ | exact congrArg (fun z : Int => E.v (.int .i64 z)) (wrap64_id (by omega) (by omega)) | exact congrArg (fun z : Int => E.v (.int .u8 z)) (by assumption) | exact congrArg (fun z : ByteArray => E.v (.string z)) (by assumption) | (refine ⟨rfl, ?_⟩; repeat' first | exact trivial | rfl | apply And.intro)) (memOk_box rfl rfl rfl (memOk_box rfl rfl rfl trivial))⟩
    simp only [condT_tt, condT_ff, condF_tt, condF_ff, notE_t, notE_f, decide_eq_true_eq, decide_eq_false_iff_not] at hc
    refine tr_exit ?_
    rw [List.drop_eq_nil_of_le (by omega), lsG] at hj
    rw [← hj, Bool.true_and] at hi
    repeat' (first | refine tr_seq ?_ | refine reg (T := tab) tOk hnt rfl ?_ ?_ | refine regD (T := tab) tOk mixedR hnt rfl (by first | decide +kernel | kernel_rfl) ?_ ?_ | refine tr_block ?_ | refine tr_skip ?_)
    · (dsimp only [AllP]; (repeat' first | exact trivial | assumption | exact Nat.le_of_ble_eq_true rfl | apply And.intro | decide | intro _ | exact rfl))
    refine ⟨i + 1, ⟨hi, by omega⟩, by omega, le_of (ad := []) (by refine ⟨?_, ?_, ?_, ?_, ?_, trivial⟩ <;> first | exact trivial | rfl | exact ⟨rfl, rfl⟩ | exact ⟨rfl, rfl, rfl⟩ | exact ⟨rfl, rfl, rfl, rfl⟩ | exact ⟨rfl, rfl, rfl, rfl, rfl⟩ | exact congrArg (fun z : Int => E.v (.int .i64 z)) (wrap64_id (by omega) (by omega)) | exact congrArg (fun z : Int => E.v (.int .u8 z)) (by assumption) | exact congrArg (fun z : ByteArray => E.v (.string z)) (by assumption) | (refine ⟨rfl, ?_⟩; repeat' first | exact trivial | rfl | apply And.intro)) (memOk_box rfl rfl rfl trivial)⟩
  simp only [condT_tt, condT_ff, condF_tt, condF_ff, notE_t, notE_f, decide_eq_true_eq, decide_eq_false_iff_not] at hc
  refine tr_exit ?_
  rw [List.drop_eq_nil_of_le (by omega), List.all_nil] at hi
  have h3 := Check_fn s.g
  rw [show eGrs s.g = E.sl ((eSta s).getD (0 + 114) E.dflt).xs by rw [hG]; rfl] at h3
  repeat' (first | refine tr_seq ?_ | refine tr_block ?_ | refine tr_skip ?_)
  refine tr_region (lex (T := tab) tOk hnt rfl ?_ (call rfl rfl rfl rfl rfl rfl rfl hnt (h3) (lex (T := tab) tOk hnt rfl ?_ (Lex.nil _)))) ?_
  · (dsimp only [AllP]; (repeat' first | exact trivial | assumption | exact Nat.le_of_ble_eq_true rfl | apply And.intro | exact eCells_len1 _ _ ‹_› | exact eCells_isByte _ _ ‹_› | (intro hh_; have hg_ := hh_; (try simp only [condT_ff, condF_tt, notE_t, notE_f, Bool.and_eq_true, ne_eq, decide_eq_true_eq, decide_eq_false_iff_not] at hg_)) | intro _ | exact rfl | omega))
  · (dsimp only [AllP]; (repeat' first | exact trivial | assumption | exact Nat.le_of_ble_eq_true rfl | apply And.intro | exact eCells_len1 _ _ ‹_› | exact eCells_isByte _ _ ‹_› | (intro hh_; have hg_ := hh_; (try simp only [condT_ff, condF_tt, notE_t, notE_f, Bool.and_eq_true, ne_eq, decide_eq_true_eq, decide_eq_false_iff_not] at hg_)) | intro _ | exact rfl | omega))
  clear h3
  repeat' (first | refine tr_seq ?_ | refine tr_block ?_ | refine tr_skip ?_)
  refine tr_cond rfl (fun hc => ?_) (fun hc => ?_)
  · simp only [condT_tt, condT_ff, condF_tt, condF_ff, notE_t, notE_f, decide_eq_true_eq, decide_eq_false_iff_not] at hc
    rw [stG_g hc]
    repeat' (first | refine tr_seq ?_ | refine reg (T := tab) tOk hnt rfl ?_ ?_ | refine regD (T := tab) tOk mixedR hnt rfl (by first | decide +kernel | kernel_rfl) ?_ ?_ | refine tr_block ?_ | refine tr_skip ?_)
    · (dsimp only [AllP]; (repeat' first | exact trivial | assumption | exact Nat.le_of_ble_eq_true rfl | apply And.intro | decide | intro _ | exact rfl))
    exact tr_ret ⟨.inr rfl, _, _, rfl, trivial, rfl⟩
  simp only [condT_tt, condT_ff, condF_tt, condF_ff, notE_t, notE_f, decide_eq_true_eq, decide_eq_false_iff_not] at hc
  obtain ⟨gl, gok⟩ := gfault_ok hc
  repeat' (first | refine tr_seq ?_ | refine tr_block ?_ | refine tr_skip ?_)
  first | refine reg (T := tab) tOk hnt rfl ?_ ?_ | refine regD (T := tab) tOk mixedR hnt rfl (by first | decide +kernel | kernel_rfl) ?_ ?_
  · (dsimp only [AllP]; (repeat' first | exact trivial | assumption | exact Nat.le_of_ble_eq_true rfl | apply And.intro | exact eCells_len1 _ _ ‹_› | exact eCells_isByte _ _ ‹_› | (intro hh_; have hg_ := hh_; (try simp only [condT_ff, condF_tt, notE_t, notE_f, Bool.and_eq_true, ne_eq, decide_eq_true_eq, decide_eq_false_iff_not] at hg_)) | intro _ | exact rfl | omega))
  rw [hG]
  have ml : ((eGrs s.g).xs.length : Int) = (s.g.length : Int) := by show ((s.g.map eGr).length : Int) = _; rw [List.length_map]
  rw [ml]
  repeat' (first | refine tr_seq ?_ | refine tr_block ?_ | refine tr_skip ?_)
  refine tr_loop (σ := Nat) (fun m => St.of [(1, .one (.ptr 1 0 0)), (69, .one (.e (eGrs s.g))), (70, .one (.e (eI (s.g.length : Int)))), (71, .one (.e (eI (m : Int)))), ((1000000 + 0), .one (.eptr fsE)), ((1000000 + 1), .one (.eptr acE))] [(1, ⟨0, .box (.es (eSta s)), 0⟩)]) (fun m => (s.g.drop m).all (thA s) = s.g.all (thA s) ∧ m ≤ s.g.length) (fun m => s.g.length - m) (0) (le_of (ad := []) (by refine ⟨?_, ?_, ?_, ?_, ?_, ?_, trivial⟩ <;> first | exact trivial | rfl | exact ⟨rfl, rfl⟩ | exact ⟨rfl, rfl, rfl⟩ | exact ⟨rfl, rfl, rfl, rfl⟩ | exact ⟨rfl, rfl, rfl, rfl, rfl⟩ | exact congrArg (fun z : Int => E.v (.int .i64 z)) (wrap64_id (by omega) (by omega)) | exact congrArg (fun z : Int => E.v (.int .u8 z)) (by assumption) | exact congrArg (fun z : ByteArray => E.v (.string z)) (by assumption) | (refine ⟨rfl, ?_⟩; repeat' first | exact trivial | rfl | apply And.intro)) (memOk_box rfl rfl rfl trivial)) ⟨rfl, Nat.zero_le _⟩ ?_
  rintro m ⟨hm, ml2⟩
  repeat' (first | refine tr_seq ?_ | refine reg (T := tab) tOk hnt rfl ?_ ?_ | refine regD (T := tab) tOk mixedR hnt rfl (by first | decide +kernel | kernel_rfl) ?_ ?_ | refine tr_block ?_ | refine tr_skip ?_)
  · (dsimp only [AllP]; (repeat' first | exact trivial | assumption | exact Nat.le_of_ble_eq_true rfl | apply And.intro | decide | intro _ | exact rfl))
  repeat' (first | refine tr_seq ?_ | refine tr_block ?_ | refine tr_skip ?_)
  refine tr_cond rfl (fun hc => ?_) (fun hc => ?_)
  · simp only [condT_tt, condT_ff, condF_tt, condF_ff, notE_t, notE_f, decide_eq_true_eq, decide_eq_false_iff_not] at hc
    have hmt : m < s.g.length := by omega
    have hlen : ((List.map eGr s.g).getD (m : Int).toNat []).length = 5 := by rw [Int.toNat_natCast, grGet s.g hmt]; rfl
    have l5 : (Cs.es (List.take 5 (List.drop 0 ((List.map eGr s.g).getD (m : Int).toNat [])))).len = 5 := by
      show (List.take 5 (List.drop 0 _)).length = 5
      rw [List.length_take, List.length_drop, hlen]
      rfl
    have l5b : 0 + 5 ≤ (Cs.es ((List.map eGr s.g).getD (m : Int).toNat [])).len := Nat.le_of_eq hlen.symm
    have mm : (m : Int) < ((s.g.map eGr).length : Int) := by rw [List.length_map]; omega
    repeat' (first | refine tr_seq ?_ | refine tr_block ?_ | refine tr_skip ?_)
    first | refine reg (T := tab) tOk hnt rfl ?_ ?_ | refine regD (T := tab) tOk mixedR hnt rfl (by first | decide +kernel | kernel_rfl) ?_ ?_
    · (dsimp only [AllP]; (repeat' first | exact trivial | assumption | exact Nat.le_of_ble_eq_true rfl | apply And.intro | exact eCells_len1 _ _ ‹_› | exact eCells_isByte _ _ ‹_› | (intro hh_; have hg_ := hh_; (try simp only [condT_ff, condF_tt, notE_t, notE_f, Bool.and_eq_true, ne_eq, decide_eq_true_eq, decide_eq_false_iff_not] at hg_)) | intro _ | exact rfl | omega))
    rw [box_store]
    rotate_left
    · exact hlen
    · rfl
    rw [Int.toNat_natCast, grGet s.g hmt]
    rw [drop_getD (d := gz) hmt, List.all_cons] at hm
    have hgo := gok _ (getD_mem (d := gz) hmt)
    generalize s.g.getD m gz = g at *
    obtain ⟨fr, to, ob, rt, op, ⟨⟩⟩ := g
    repeat' (first | refine tr_seq ?_ | refine tr_block ?_ | refine tr_skip ?_)
    first | refine reg (T := tab) tOk hnt rfl ?_ ?_ | refine regD (T := tab) tOk mixedR hnt rfl (by first | decide +kernel | kernel_rfl) ?_ ?_
    · (dsimp only [AllP]; (repeat' first | exact trivial | assumption | exact Nat.le_of_ble_eq_true rfl | apply And.intro | exact eCells_len1 _ _ ‹_› | exact eCells_isByte _ _ ‹_› | (intro hh_; have hg_ := hh_; (try simp only [condT_ff, condF_tt, notE_t, notE_f, Bool.and_eq_true, ne_eq, decide_eq_true_eq, decide_eq_false_iff_not] at hg_)) | intro _ | exact rfl | omega))
    have ho1 : 0 ≤ ob := hgo.2.2.1
    have ho2 : ob < 12 := hgo.2.2.2
    obtain ⟨q, rfl⟩ := Int.eq_ofNat_of_zero_le ho1
    have hq : q < 12 := by omega
    rw [show E.v (Value.int .i64 (IntKind.i64.wrap (((eGr ((fr, to, (q : Int), rt, op, ()) : Gr)).getD (0 + 2) E.dflt).int.tdiv 2))) = eI ((q / 2 : Nat) : Int) from congrArg (fun z : Int => E.v (.int .i64 z)) (quo2 q hq)]
    have e1 : IntKind.i64.wrap (((q / 2 : Nat) : Int).tdiv 2) = ((q / 4 : Nat) : Int) := by
      rw [quo2 (q / 2) (by omega), Nat.div_div_eq_div_mul]
    have e2 : (((q / 2 : Nat) : Int).tmod 2) = ((q / 2 % 2 : Nat) : Int) := rfl
    have n1 : 0 + 0 + (IntKind.i64.wrap (((q / 2 : Nat) : Int).tdiv 2)).toNat * 38 + ((((q / 2 : Nat) : Int).tmod 2)).toNat * 19 + 0 < (Cs.es (eSta s)).len := by
      rw [e1, e2, Int.toNat_natCast, Int.toNat_natCast]
      show _ < (eSta s).length
      omega
    have hth : (eSta s).getD (0 + 0 + (IntKind.i64.wrap (((q / 2 : Nat) : Int).tdiv 2)).toNat * 38 + ((((q / 2 : Nat) : Int).tmod 2)).toNat * 19 + 0) E.dflt = eBl (thA s (fr, to, (q : Int), rt, op, ())) := by
      rw [e1, e2, Int.toNat_natCast, Int.toNat_natCast]
      exact staTh h (by omega) (by omega)
    have n2 : D0.isA K.bool ((Cs.es (eSta s)).at (0 + 0 + (IntKind.i64.wrap (((q / 2 : Nat) : Int).tdiv 2)).toNat * 38 + ((((q / 2 : Nat) : Int).tmod 2)).toNat * 19 + 0)) := by
      show E.as K.bool ((eSta s).getD _ E.dflt) = _
      rw [hth]
      rfl
    have n3 : 0 ≤ IntKind.i64.wrap (((q / 2 : Nat) : Int).tdiv 2) := by rw [e1]; omega
    have n4 : IntKind.i64.wrap (((q / 2 : Nat) : Int).tdiv 2) < 3 := by rw [e1]; omega
    have n5 : 0 ≤ (((q / 2 : Nat) : Int).tmod 2) := by rw [e2]; omega
    have n6 : (((q / 2 : Nat) : Int).tmod 2) < 2 := by rw [e2]; omega
    repeat' (first | refine tr_seq ?_ | refine tr_block ?_ | refine tr_skip ?_)
    first | refine reg (T := tab) tOk hnt rfl ?_ ?_ | refine regD (T := tab) tOk mixedR hnt rfl (by first | decide +kernel | kernel_rfl) ?_ ?_
    · (dsimp only [AllP]; (repeat' first | exact trivial | assumption | exact Nat.le_of_ble_eq_true rfl | apply And.intro | exact eCells_len1 _ _ ‹_› | exact eCells_isByte _ _ ‹_› | (intro hh_; have hg_ := hh_; (try simp only [condT_ff, condF_tt, notE_t, notE_f, Bool.and_eq_true, ne_eq, decide_eq_true_eq, decide_eq_false_iff_not] at hg_)) | intro _ | exact rfl | omega))
    repeat' (first | refine tr_seq ?_ | refine tr_block ?_ | refine tr_skip ?_)
    refine tr_cond rfl (fun hc => ?_) (fun hc => ?_)
    · have hc : (!((eSta s).getD (0 + 0 + (IntKind.i64.wrap (((q / 2 : Nat) : Int).tdiv 2)).toNat * 38 + ((((q / 2 : Nat) : Int).tmod 2)).toNat * 19 + 0) E.dflt).bool) = true := hc
      rw [hth] at hc
      rw [show thA s (fr, to, (q : Int), rt, op, PUnit.unit) = false by simpa [eBl, E.bool] using hc, Bool.false_and] at hm
      rw [stG_h hm.symm]
      repeat' (first | refine tr_seq ?_ | refine reg (T := tab) tOk hnt rfl ?_ ?_ | refine regD (T := tab) tOk mixedR hnt rfl (by first | decide +kernel | kernel_rfl) ?_ ?_ | refine tr_block ?_ | refine tr_skip ?_)
      · (dsimp only [AllP]; (repeat' first | exact trivial | assumption | exact Nat.le_of_ble_eq_true rfl | apply And.intro | decide | intro _ | exact rfl))
      exact tr_ret ⟨.inr rfl, _, _, rfl, trivial, rfl⟩
    have hc : (!((eSta s).getD (0 + 0 + (IntKind.i64.wrap (((q / 2 : Nat) : Int).tdiv 2)).toNat * 38 + ((((q / 2 : Nat) : Int).tmod 2)).toNat * 19 + 0) E.dflt).bool) = false := hc
    rw [hth] at hc
    rw [show thA s (fr, to, (q : Int), rt, op, PUnit.unit) = true by simpa [eBl, E.bool] using hc, Bool.true_and] at hm
    repeat' (first | refine tr_seq ?_ | refine reg (T := tab) tOk hnt rfl ?_ ?_ | refine regD (T := tab) tOk mixedR hnt rfl (by first | decide +kernel | kernel_rfl) ?_ ?_ | refine tr_block ?_ | refine tr_skip ?_)
    · (dsimp only [AllP]; (repeat' first | exact trivial | assumption | exact Nat.le_of_ble_eq_true rfl | apply And.intro | decide | intro _ | exact rfl))
    refine ⟨m + 1, ⟨hm, by omega⟩, by omega, le_of (ad := []) (by refine ⟨?_, ?_, ?_, ?_, ?_, ?_, trivial⟩ <;> first | exact trivial | rfl | exact ⟨rfl, rfl⟩ | exact ⟨rfl, rfl, rfl⟩ | exact ⟨rfl, rfl, rfl, rfl⟩ | exact ⟨rfl, rfl, rfl, rfl, rfl⟩ | exact congrArg (fun z : Int => E.v (.int .i64 z)) (wrap64_id (by omega) (by omega)) | exact congrArg (fun z : Int => E.v (.int .u8 z)) (by assumption) | exact congrArg (fun z : ByteArray => E.v (.string z)) (by assumption) | (refine ⟨rfl, ?_⟩; repeat' first | exact trivial | rfl | apply And.intro)) (memOk_box rfl rfl rfl trivial)⟩
  simp only [condT_tt, condT_ff, condF_tt, condF_ff, notE_t, notE_f, decide_eq_true_eq, decide_eq_false_iff_not] at hc
  refine tr_exit ?_
  rw [List.drop_eq_nil_of_le (by omega), List.all_nil] at hm
  have f115 : 0 + 115 + 3 ≤ (Cs.es (eSta s)).len := by show 0 + 115 + 3 ≤ (eSta s).length; omega
  repeat' (first | refine tr_seq ?_ | refine tr_block ?_ | refine tr_skip ?_)
  first | refine reg (T := tab) tOk hnt rfl ?_ ?_ | refine regD (T := tab) tOk mixedR hnt rfl (by first | decide +kernel | kernel_rfl) ?_ ?_
  · (dsimp only [AllP]; (repeat' first | exact trivial | assumption | exact Nat.le_of_ble_eq_true rfl | apply And.intro | exact eCells_len1 _ _ ‹_› | exact eCells_isByte _ _ ‹_› | (intro hh_; have hg_ := hh_; (try simp only [condT_ff, condF_tt, notE_t, notE_f, Bool.and_eq_true, ne_eq, decide_eq_true_eq, decide_eq_false_iff_not] at hg_)) | intro _ | exact rfl | omega))
  rw [hA]
  repeat' (first | refine tr_seq ?_ | refine tr_block ?_ | refine tr_skip ?_)
  refine tr_loop (σ := Nat) (fun n => St.of [(90, .agg (.es (s.a.map eI))), (91, .one (.e (eI (n : Int))))] []) (fun n => (s.a.drop n).all askB = s.a.all askB ∧ n ≤ s.a.length) (fun n => s.a.length - n) (0) (le_of (ad := []) (by refine ⟨?_, ?_, trivial⟩ <;> first | exact trivial | rfl | exact ⟨rfl, rfl⟩ | exact ⟨rfl, rfl, rfl⟩ | exact ⟨rfl, rfl, rfl, rfl⟩ | exact ⟨rfl, rfl, rfl, rfl, rfl⟩ | exact congrArg (fun z : Int => E.v (.int .i64 z)) (wrap64_id (by omega) (by omega)) | exact congrArg (fun z : Int => E.v (.int .u8 z)) (by assumption) | exact congrArg (fun z : ByteArray => E.v (.string z)) (by assumption) | (refine ⟨rfl, ?_⟩; repeat' first | exact trivial | rfl | apply And.intro)) trivial) ⟨rfl, Nat.zero_le _⟩ ?_
  rintro n ⟨hn, nl⟩
  have a3 := h.a3
  repeat' (first | refine tr_seq ?_ | refine reg (T := tab) tOk hnt rfl ?_ ?_ | refine regD (T := tab) tOk mixedR hnt rfl (by first | decide +kernel | kernel_rfl) ?_ ?_ | refine tr_block ?_ | refine tr_skip ?_)
  · (dsimp only [AllP]; (repeat' first | exact trivial | assumption | exact Nat.le_of_ble_eq_true rfl | apply And.intro | decide | intro _ | exact rfl))
  repeat' (first | refine tr_seq ?_ | refine tr_block ?_ | refine tr_skip ?_)
  refine tr_cond rfl (fun hc => ?_) (fun hc => ?_)
  · simp only [condT_tt, condT_ff, condF_tt, condF_ff, notE_t, notE_f, decide_eq_true_eq, decide_eq_false_iff_not] at hc
    have hnt2 : n < s.a.length := by omega
    rw [drop_getD (d := 0) hnt2, List.all_cons] at hn
    have hx : (s.a.map eI).getD ((n : Int).toNat * 1) E.dflt = eI (s.a.getD n 0) := by
      rw [Int.toNat_natCast, Nat.mul_one, List.getD_eq_getElem?_getD, List.getElem?_map, List.getD_eq_getElem?_getD, List.getElem?_eq_getElem hnt2]
      rfl
    have hx1 : D0.isA (K.int .i64) ((Cs.es (s.a.map eI)).at ((n : Int).toNat * 1)) := by
      show E.as (K.int .i64) ((s.a.map eI).getD ((n : Int).toNat * 1) E.dflt) = _
      rw [hx]
      rfl
    have hx2 : (n : Int).toNat * 1 < (Cs.es (s.a.map eI)).len := by show _ < (s.a.map eI).length; rw [List.length_map]; omega
    have hx3 : (n : Int).toNat * 1 + 1 ≤ (Cs.es (s.a.map eI)).len := hx2
    repeat' (first | refine tr_seq ?_ | refine tr_block ?_ | refine tr_skip ?_)
    first | refine reg (T := tab) tOk hnt rfl ?_ ?_ | refine regD (T := tab) tOk mixedR hnt rfl (by first | decide +kernel | kernel_rfl) ?_ ?_
    · (dsimp only [AllP]; (repeat' first | exact trivial | assumption | exact Nat.le_of_ble_eq_true rfl | apply And.intro | exact eCells_len1 _ _ ‹_› | exact eCells_isByte _ _ ‹_› | (intro hh_; have hg_ := hh_; (try simp only [condT_ff, condF_tt, notE_t, notE_f, Bool.and_eq_true, ne_eq, decide_eq_true_eq, decide_eq_false_iff_not] at hg_)) | intro _ | exact rfl | omega))
    repeat' (first | refine tr_seq ?_ | refine tr_block ?_ | refine tr_skip ?_)
    first | refine reg (T := tab) tOk hnt rfl ?_ ?_ | refine regD (T := tab) tOk mixedR hnt rfl (by first | decide +kernel | kernel_rfl) ?_ ?_
    · (dsimp only [AllP]; (repeat' first | exact trivial | assumption | exact Nat.le_of_ble_eq_true rfl | apply And.intro | exact eCells_len1 _ _ ‹_› | exact eCells_isByte _ _ ‹_› | (intro hh_; have hg_ := hh_; (try simp only [condT_ff, condF_tt, notE_t, notE_f, Bool.and_eq_true, ne_eq, decide_eq_true_eq, decide_eq_false_iff_not] at hg_)) | intro _ | exact rfl | omega))
    have hcx : (bif decide (((s.a.map eI).getD ((n : Int).toNat * 1) E.dflt).int < 0) then true else decide (12 < ((s.a.map eI).getD ((n : Int).toNat * 1) E.dflt).int)) = !askB (s.a.getD n 0) := by
      rw [hx]
      exact askC _
    repeat' (first | refine tr_seq ?_ | refine tr_block ?_ | refine tr_skip ?_)
    refine tr_cond rfl (fun hc => ?_) (fun hc => ?_)
    · have hc : (!askB (s.a.getD n 0)) = true := hcx.symm.trans hc
      rw [Bool.not_eq_true'] at hc
      rw [hc, Bool.false_and] at hn
      rw [stG_a hn.symm]
      repeat' (first | refine tr_seq ?_ | refine reg (T := tab) tOk hnt rfl ?_ ?_ | refine regD (T := tab) tOk mixedR hnt rfl (by first | decide +kernel | kernel_rfl) ?_ ?_ | refine tr_block ?_ | refine tr_skip ?_)
      · (dsimp only [AllP]; (repeat' first | exact trivial | assumption | exact Nat.le_of_ble_eq_true rfl | apply And.intro | decide | intro _ | exact rfl))
      exact tr_ret ⟨.inr rfl, _, _, rfl, trivial, rfl⟩
    have hc : (!askB (s.a.getD n 0)) = false := hcx.symm.trans hc
    rw [Bool.not_eq_false'] at hc
    rw [hc, Bool.true_and] at hn
    repeat' (first | refine tr_seq ?_ | refine reg (T := tab) tOk hnt rfl ?_ ?_ | refine regD (T := tab) tOk mixedR hnt rfl (by first | decide +kernel | kernel_rfl) ?_ ?_ | refine tr_block ?_ | refine tr_skip ?_)
    · (dsimp only [AllP]; (repeat' first | exact trivial | assumption | exact Nat.le_of_ble_eq_true rfl | apply And.intro | decide | intro _ | exact rfl))
    refine ⟨n + 1, ⟨hn, by omega⟩, by omega, le_of (ad := []) (by refine ⟨?_, ?_, trivial⟩ <;> first | exact trivial | rfl | exact ⟨rfl, rfl⟩ | exact ⟨rfl, rfl, rfl⟩ | exact ⟨rfl, rfl, rfl, rfl⟩ | exact ⟨rfl, rfl, rfl, rfl, rfl⟩ | exact congrArg (fun z : Int => E.v (.int .i64 z)) (wrap64_id (by omega) (by omega)) | exact congrArg (fun z : Int => E.v (.int .u8 z)) (by assumption) | exact congrArg (fun z : ByteArray => E.v (.string z)) (by assumption) | (refine ⟨rfl, ?_⟩; repeat' first | exact trivial | rfl | apply And.intro)) trivial⟩
  simp only [condT_tt, condT_ff, condF_tt, condF_ff, notE_t, notE_f, decide_eq_true_eq, decide_eq_false_iff_not] at hc
  refine tr_exit ?_
  rw [List.drop_eq_nil_of_le (by omega), List.all_nil] at hn
  rw [stG_0 hi.symm ‹gfaultF s.g = 0› hm.symm hn.symm]
  repeat' (first | refine tr_seq ?_ | refine reg (T := tab) tOk hnt rfl ?_ ?_ | refine regD (T := tab) tOk mixedR hnt rfl (by first | decide +kernel | kernel_rfl) ?_ ?_ | refine tr_block ?_ | refine tr_skip ?_)
  · (dsimp only [AllP]; (repeat' first | exact trivial | assumption | exact Nat.le_of_ble_eq_true rfl | apply And.intro | decide | intro _ | exact rfl))
  exact tr_ret ⟨.inr rfl, _, _, rfl, trivial, rfl⟩
end Go.Proofs.YtphaholcndhonaaDoor
