/- The document's StateFault. No condition. -/
import Derived.Test.YtphaholcndhonaaDoorTDd3
namespace Go.Proofs.YtphaholcndhonaaDoor
open Go Go.RowKit Go.Proofs.YtphaholcndhonaaDoor.Ab
set_option linter.unusedSimpArgs false
set_option linter.unusedVariables false

theorem strEq_iff (a b : ByteArray) : strEq a b = true ↔ a = b := by
  unfold strEq
  rw [bytes_list, bytes_list, beq_iff_eq]
  constructor
  · intro h
    obtain ⟨x⟩ := a
    obtain ⟨y⟩ := b
    exact congrArg ByteArray.mk (Array.toList_inj.1 h)
  · rintro rfl; rfl
theorem mGet_put (k k' : ByteArray) (v : Int) : ∀ m, mGet (mPut m k v) k' = bif strEq k' k then v else mGet m k'
  | [] => rfl
  | (a, x) :: r => by
    rw [mPut]
    cases h : strEq k a with
    | true =>
      have h := (strEq_iff _ _).1 h
      subst h
      rw [cond_true, mGet, mGet]
      cases strEq k' k <;> rfl
    | false =>
      rw [cond_false, mGet, mGet, mGet_put k k' v r]
      cases h2 : strEq k' a with
      | true =>
        have h2 := (strEq_iff _ _).1 h2
        subst h2
        cases h3 : strEq k' k with
        | true =>
          have h3 := (strEq_iff _ _).1 h3
          subst h3
          rw [(strEq_iff k' k').2 rfl] at h
          cases h
        | false => rfl
      | false => rfl
/-- how often a name is seen among tables that are there -/
def seen (pre : List Tbl) (n : Byt) : Nat := (pre.filter fun u => u.th && decide (u.n = n)).length
def mpS (m : List (ByteArray × Int)) (t : Tbl) : List (ByteArray × Int) := bif t.th then mPut m (strB t.n) (IntKind.i64.wrap (mGet m (strB t.n) + 1)) else m
def mpF (pre : List Tbl) : List (ByteArray × Int) := pre.foldl mpS []
theorem mpF_app (pre : List Tbl) (t : Tbl) : mpF (pre ++ [t]) = mpS (mpF pre) t := by unfold mpF; rw [List.foldl_append]; rfl
theorem seen_app (pre : List Tbl) (t : Tbl) (n : Byt) : seen (pre ++ [t]) n = seen pre n + if t.th = true ∧ t.n = n then 1 else 0 := by
  unfold seen
  rw [List.filter_append, List.length_append]
  by_cases h1 : t.th = true
  · by_cases h2 : t.n = n
    · simp [h1, h2]
    · simp [h2]
  · simp [h1]
theorem seen_le (pre : List Tbl) (n : Byt) : seen pre n ≤ pre.length := List.length_filter_le ..
theorem mpF_get (n : Byt) : ∀ (k : Nat) (pre : List Tbl), pre.length = k → k ≤ 1000 → mGet (mpF pre) (strB n) = (seen pre n : Int)
  | 0, [], _, _ => rfl
  | k + 1, pre, h, hk => by
    obtain ⟨p, t, rfl⟩ : ∃ p t, pre = p ++ [t] := ⟨pre.dropLast, pre.getLast (by rintro rfl; cases h), (List.dropLast_concat_getLast _).symm⟩
    have hp : p.length = k := by rw [List.length_append] at h; simpa using h
    have ih := fun n => mpF_get n k p hp (by omega)
    rw [mpF_app, seen_app]
    unfold mpS
    cases ht : t.th with
    | false => rw [cond_false, ih]; simp
    | true =>
      rw [cond_true, mGet_put, ih, strEq_B]
      by_cases hn : t.n = n
      · have := seen_le p t.n
        rw [decide_eq_true hn.symm, cond_true, if_pos ⟨rfl, hn⟩, wrap64_id (by omega) (by omega), hn]
        rfl
      · rw [decide_eq_false (fun e => hn e.symm), cond_false, if_neg (fun e => hn e.2), Nat.add_zero, ih]
theorem any_dup (t : Tbl) (ht : t.th = true) : ∀ pre : List Tbl, pre.any (dup t) = !decide (seen pre t.n = 0)
  | [] => rfl
  | u :: r => by
    rw [List.any_cons, any_dup t ht r]
    unfold dup seen
    rw [ht, List.filter_cons]
    cases u.th with
    | false => simp
    | true =>
      by_cases h : u.n = t.n
      · simp [h]
      · simp [h]
/-- what is known of the tables and counts from user i on -/
def restB (s : Sta) (i : Nat) : Bool := (s.t.drop i).all (lsG []) && (s.a.drop i).all askB
theorem mpNext (t : Tbl) (pre : List Tbl) (hp : pre.length ≤ 1000) (ht : t.th = true) : mPut (mpF pre) (strB t.n) (IntKind.i64.wrap (mGet (mpF pre) (strB t.n) + 1)) = mpF (pre ++ [t]) := by
  rw [mpF_app]
  unfold mpS
  rw [ht]
  rfl
theorem oneC (t : Tbl) (pre : List Tbl) (hp : pre.length ≤ 900) (ht : t.th = true) : decide (mGet (mpF (pre ++ [t])) (strB t.n) = 1) = !pre.any (dup t) := by
  rw [mpF_get t.n _ _ rfl (by rw [List.length_append, List.length_singleton]; omega) , seen_app, if_pos ⟨ht, rfl⟩, any_dup t ht, Bool.not_not]
  congr 1
  apply propext
  constructor <;> intro h <;> omega
theorem askD (o : Bool) (x : Int) : (bif (bif o then decide (x ≥ 0) else false) then decide (x ≤ 12) else false) = (o && askB x) := by
  unfold askB
  cases o <;> cases h : decide (0 ≤ x) <;> simp [h]
set_option maxRecDepth 10000 in
set_option maxHeartbeats 2000000 in
theorem stateFault_fn (s : Sta) (h : s.ok) : FnG Tryd.prog 22 gK [.agg (.es (eSta s))] (.one (.e (eI (staF s)))) := by
  refine fn_introG (T := tab) tOk Tryd.func22 rfl (by kernel_rfl) (by simp [Tryd.ntmps22]) ?_
  intro X hX
  have hnt : X.nt = 96 := hX
  clear hX
  have h118 := staLen h
  have f118 : 0 + 118 ≤ (Cs.es (eSta s)).len := by show 0 + 118 ≤ (eSta s).length; omega
  have f114 : 0 + 0 + 114 ≤ (Cs.es (eSta s)).len := by show 0 + 0 + 114 ≤ (eSta s).length; omega
  have hT := staT h
  have hA := staA h
  have hG := staG h
  have t3 := h.t3
  have a3 := h.a3
  have hGa : D0.isA (K.slice 127) ((Cs.es (eSta s)).at (0 + 114)) := by
    show E.as (K.slice 127) ((eSta s).getD (0 + 114) E.dflt) = _
    rw [hG]
    rfl
  repeat' (first | refine tr_seq ?_ | refine tr_block ?_ | refine tr_skip ?_)
  first | refine reg (T := tab) tOk hnt rfl ?_ ?_ | refine regD (T := tab) tOk mixedR hnt rfl (by first | decide +kernel | kernel_rfl) ?_ ?_
  · (dsimp only [AllP]; (repeat' first | exact trivial | assumption | exact Nat.le_of_ble_eq_true rfl | apply And.intro | exact eCells_len1 _ _ ‹_› | exact eCells_isByte _ _ ‹_› | (intro hh_; have hg_ := hh_; (try simp only [condT_ff, condF_tt, notE_t, notE_f, Bool.and_eq_true, ne_eq, decide_eq_true_eq, decide_eq_false_iff_not] at hg_)) | intro _ | exact rfl | omega))
  have h3 := gfault_fn s.g
  rw [show eGrs s.g = E.sl ((eSta s).getD (0 + 114) E.dflt).xs by rw [hG]; rfl] at h3
  repeat' (first | refine tr_seq ?_ | refine tr_block ?_ | refine tr_skip ?_)
  refine tr_region (lex (T := tab) tOk hnt rfl ?_ (call rfl rfl rfl rfl rfl rfl rfl hnt (h3) (lex (T := tab) tOk hnt rfl ?_ (Lex.nil _)))) ?_
  · (dsimp only [AllP]; (repeat' first | exact trivial | assumption | exact Nat.le_of_ble_eq_true rfl | apply And.intro | exact eCells_len1 _ _ ‹_› | exact eCells_isByte _ _ ‹_› | (intro hh_; have hg_ := hh_; (try simp only [condT_ff, condF_tt, notE_t, notE_f, Bool.and_eq_true, ne_eq, decide_eq_true_eq, decide_eq_false_iff_not] at hg_)) | intro _ | exact rfl | omega))
  · (dsimp only [AllP]; (repeat' first | exact trivial | assumption | exact Nat.le_of_ble_eq_true rfl | apply And.intro | exact eCells_len1 _ _ ‹_› | exact eCells_isByte _ _ ‹_› | (intro hh_; have hg_ := hh_; (try simp only [condT_ff, condF_tt, notE_t, notE_f, Bool.and_eq_true, ne_eq, decide_eq_true_eq, decide_eq_false_iff_not] at hg_)) | intro _ | exact rfl | omega))
  clear h3
  repeat' (first | refine tr_seq ?_ | refine tr_block ?_ | refine tr_skip ?_)
  first | refine reg (T := tab) tOk hnt rfl ?_ ?_ | refine regD (T := tab) tOk mixedR hnt rfl (by first | decide +kernel | kernel_rfl) ?_ ?_
  · (dsimp only [AllP]; (repeat' first | exact trivial | assumption | exact Nat.le_of_ble_eq_true rfl | apply And.intro | exact eCells_len1 _ _ ‹_› | exact eCells_isByte _ _ ‹_› | (intro hh_; have hg_ := hh_; (try simp only [condT_ff, condF_tt, notE_t, notE_f, Bool.and_eq_true, ne_eq, decide_eq_true_eq, decide_eq_false_iff_not] at hg_)) | intro _ | exact rfl | omega))
  rw [hT]
  have hdec : (eI (gfaultF s.g)) = eI (gfaultF s.g) := rfl
  clear hdec
  repeat' (first | refine tr_seq ?_ | refine tr_block ?_ | refine tr_skip ?_)
  refine tr_loop (σ := Nat × Bool) (fun x => St.of [(1, .one (.ptr 1 0 0)), (3, .one (.e (eBl x.2))), (17, .agg (.es (eTs s.t))), (18, .one (.e (eI (x.1 : Int)))), ((1000000 + 0), .one (.eptr fsE)), ((1000000 + 1), .one (.eptr acE))] [(1, ⟨0, .box (.es (eSta s)), 0⟩)]) (fun x => (x.2 && restB s x.1) = (decide (gfaultF s.g = 0) && restB s 0) ∧ x.1 ≤ 3 ∧ (x.2 = true → gfaultF s.g = 0)) (fun x => 3 - x.1) ((0, decide (gfaultF s.g = 0))) (le_of (ad := []) (by refine ⟨?_, ?_, ?_, ?_, ?_, ?_, trivial⟩ <;> first | exact trivial | rfl | exact ⟨rfl, rfl⟩ | exact ⟨rfl, rfl, rfl⟩ | exact ⟨rfl, rfl, rfl, rfl⟩ | exact ⟨rfl, rfl, rfl, rfl, rfl⟩ | exact congrArg (fun z : Int => E.v (.int .i64 z)) (wrap64_id (by omega) (by omega)) | exact congrArg (fun z : Int => E.v (.int .u8 z)) (by assumption) | exact congrArg (fun z : ByteArray => E.v (.string z)) (by assumption) | (refine ⟨rfl, ?_⟩; repeat' first | exact trivial | rfl | apply And.intro)) (memOk_box rfl rfl rfl trivial)) ⟨rfl, Nat.zero_le _, of_decide_eq_true⟩ ?_
  rintro ⟨i, ok⟩ ⟨hi, il, hgo⟩
  dsimp only at hi il hgo ⊢
  repeat' (first | refine tr_seq ?_ | refine reg (T := tab) tOk hnt rfl ?_ ?_ | refine regD (T := tab) tOk mixedR hnt rfl (by first | decide +kernel | kernel_rfl) ?_ ?_ | refine tr_block ?_ | refine tr_skip ?_)
  · (dsimp only [AllP]; (repeat' first | exact trivial | assumption | exact Nat.le_of_ble_eq_true rfl | apply And.intro | decide | intro _ | exact rfl))
  repeat' (first | refine tr_seq ?_ | refine tr_block ?_ | refine tr_skip ?_)
  refine tr_cond rfl (fun hc => ?_) (fun hc => ?_)
  · simp only [condT_tt, condT_ff, condF_tt, condF_ff, notE_t, notE_f, decide_eq_true_eq, decide_eq_false_iff_not] at hc
    have hlt : i < s.t.length := by omega
    have halt : i < s.a.length := by omega
    have hr : restB s i = (lsG [] (s.t.getD i []) && (askB (s.a.getD i 0) && restB s (i + 1))) := by
      unfold restB
      rw [drop_getD (d := []) hlt, drop_getD (d := 0) halt, List.all_cons, List.all_cons]
      cases lsG [] (s.t.getD i []) <;> cases askB (s.a.getD i 0) <;> simp
    rw [hr] at hi
    clear hr
    have hg : List.take 38 (List.drop ((i : Int).toNat * 38) (eTs s.t)) = eLst (s.t.getD i []) := tsGet h (by omega)
    have hlm : s.t.getD i [] ∈ s.t := getD_mem hlt
    have hl2 := h.l2 _ hlm
    have h38 := lstLen h hlm
    have e38 : (Cs.es (List.take 38 (List.drop ((i : Int).toNat * 38) (eTs s.t)))).len = 38 := by rw [hg]; exact h38
    have l38 : i * 38 + 38 ≤ (Cs.es (eTs s.t)).len := by show _ ≤ (eTs s.t).length; rw [tsLen h]; omega
    repeat' (first | refine tr_seq ?_ | refine tr_block ?_ | refine tr_skip ?_)
    first | refine reg (T := tab) tOk hnt rfl ?_ ?_ | refine regD (T := tab) tOk mixedR hnt rfl (by first | decide +kernel | kernel_rfl) ?_ ?_
    · (dsimp only [AllP]; (repeat' first | exact trivial | assumption | exact Nat.le_of_ble_eq_true rfl | apply And.intro | exact eCells_len1 _ _ ‹_› | exact eCells_isByte _ _ ‹_› | (intro hh_; have hg_ := hh_; (try simp only [condT_ff, condF_tt, notE_t, notE_f, Bool.and_eq_true, ne_eq, decide_eq_true_eq, decide_eq_false_iff_not] at hg_)) | intro _ | exact rfl | omega))
    rw [hg]
    have htb := h.tb _ hlm
    have hlg := fun {j : Nat} (hj : j < 2) => lstGet h hlm hj
    generalize s.t.getD i [] = l at *
    repeat' (first | refine tr_seq ?_ | refine tr_block ?_ | refine tr_skip ?_)
    first | refine reg (T := tab) tOk hnt rfl ?_ ?_ | refine regD (T := tab) tOk mixedR hnt rfl (by first | decide +kernel | kernel_rfl) ?_ ?_
    · (dsimp only [AllP]; (repeat' first | exact trivial | assumption | exact Nat.le_of_ble_eq_true rfl | apply And.intro | decide | intro _ | exact rfl))
    have f38 : 0 + 38 ≤ (Cs.es (eLst l)).len := by show 0 + 38 ≤ (eLst l).length; omega
    repeat' (first | refine tr_seq ?_ | refine tr_block ?_ | refine tr_skip ?_)
    first | refine reg (T := tab) tOk hnt rfl ?_ ?_ | refine regD (T := tab) tOk mixedR hnt rfl (by first | decide +kernel | kernel_rfl) ?_ ?_
    · (dsimp only [AllP]; (repeat' first | exact trivial | assumption | exact Nat.le_of_ble_eq_true rfl | apply And.intro | exact eCells_len1 _ _ ‹_› | exact eCells_isByte _ _ ‹_› | (intro hh_; have hg_ := hh_; (try simp only [condT_ff, condF_tt, notE_t, notE_f, Bool.and_eq_true, ne_eq, decide_eq_true_eq, decide_eq_false_iff_not] at hg_)) | intro _ | exact rfl | omega))
    rw [show List.take 38 (List.drop 0 (eLst l)) = eLst l from List.take_of_length_le (Nat.le_of_eq h38)]
    repeat' (first | refine tr_seq ?_ | refine tr_block ?_ | refine tr_skip ?_)
    refine tr_loop (σ := Nat × Bool) (fun x => St.of [(1, .one (.ptr 1 0 0)), (3, .one (.e (eBl x.2))), (4, .one (.e (eI (i : Int)))), (6, .one (.hnd 22 0)), (17, .agg (.es (eTs s.t))), (18, .one (.e (eI (i : Int)))), (23, .agg (.es (eLst l))), (24, .one (.e (eI (x.1 : Int)))), ((1000000 + 0), .one (.eptr fsE)), ((1000000 + 1), .one (.eptr acE))] [(1, ⟨0, .box (.es (eSta s)), 0⟩), (22, ⟨0, .raw (.smap (mpF (l.take x.1))), 0⟩)]) (fun x => (x.2 && lsG (l.take x.1) (l.drop x.1)) = (ok && lsG [] l) ∧ x.1 ≤ 2) (fun x => 2 - x.1) ((0, ok)) (le_of (ad := []) (by refine ⟨?_, ?_, ?_, ?_, ?_, ?_, ?_, ?_, ?_, ?_, trivial⟩ <;> first | exact trivial | rfl | exact ⟨rfl, rfl⟩ | exact ⟨rfl, rfl, rfl⟩ | exact ⟨rfl, rfl, rfl, rfl⟩ | exact ⟨rfl, rfl, rfl, rfl, rfl⟩ | exact congrArg (fun z : Int => E.v (.int .i64 z)) (wrap64_id (by omega) (by omega)) | exact congrArg (fun z : Int => E.v (.int .u8 z)) (by assumption) | exact congrArg (fun z : ByteArray => E.v (.string z)) (by assumption) | (refine ⟨rfl, ?_⟩; repeat' first | exact trivial | rfl | apply And.intro)) (memOk_box rfl rfl rfl (memOk_raw rfl rfl rfl trivial))) ⟨rfl, Nat.zero_le _⟩ ?_
    rintro ⟨j, ok2⟩ ⟨hj, jl⟩
    dsimp only at hj jl ⊢
    repeat' (first | refine tr_seq ?_ | refine reg (T := tab) tOk hnt rfl ?_ ?_ | refine regD (T := tab) tOk mixedR hnt rfl (by first | decide +kernel | kernel_rfl) ?_ ?_ | refine tr_block ?_ | refine tr_skip ?_)
    · (dsimp only [AllP]; (repeat' first | exact trivial | assumption | exact Nat.le_of_ble_eq_true rfl | apply And.intro | decide | intro _ | exact rfl))
    repeat' (first | refine tr_seq ?_ | refine tr_block ?_ | refine tr_skip ?_)
    refine tr_cond rfl (fun hc => ?_) (fun hc => ?_)
    · simp only [condT_tt, condT_ff, condF_tt, condF_ff, notE_t, notE_f, decide_eq_true_eq, decide_eq_false_iff_not] at hc
      have hjt : j < l.length := by omega
      have htk : l.take (j + 1) = l.take j ++ [l.getD j tb0] := by rw [List.take_add_one]; simp [List.getD, hjt]
      rw [drop_getD (d := tb0) hjt, lsG] at hj
      have hg2 : List.take 19 (List.drop ((j : Int).toNat * 19) (eLst l)) = eTab (l.getD j tb0) := hlg (by omega)
      have htm : l.getD j tb0 ∈ l := getD_mem hjt
      have htok := htb _ htm
      have h19 := tabLen htok
      have e19 : (Cs.es (List.take 19 (List.drop ((j : Int).toNat * 19) (eLst l)))).len = 19 := by rw [hg2]; exact h19
      have l19 : j * 19 + 19 ≤ (Cs.es (eLst l)).len := by show _ ≤ (eLst l).length; rw [h38]; omega
      repeat' (first | refine tr_seq ?_ | refine tr_block ?_ | refine tr_skip ?_)
      first | refine reg (T := tab) tOk hnt rfl ?_ ?_ | refine regD (T := tab) tOk mixedR hnt rfl (by first | decide +kernel | kernel_rfl) ?_ ?_
      · (dsimp only [AllP]; (repeat' first | exact trivial | assumption | exact Nat.le_of_ble_eq_true rfl | apply And.intro | exact eCells_len1 _ _ ‹_› | exact eCells_isByte _ _ ‹_› | (intro hh_; have hg_ := hh_; (try simp only [condT_ff, condF_tt, notE_t, notE_f, Bool.and_eq_true, ne_eq, decide_eq_true_eq, decide_eq_false_iff_not] at hg_)) | intro _ | exact rfl | omega))
      rw [hg2]
      have hpl : (l.take j).length ≤ 900 := by rw [List.length_take]; omega
      generalize l.getD j tb0 = t at *
      have f19 : 0 + 19 ≤ (Cs.es (eTab t)).len := by show 0 + 19 ≤ (eTab t).length; omega
      have h1 := tableFault_fn t htok
      have h2 := empty_fn t htok
      rw [← show List.take 19 (List.drop 0 (eTab t)) = eTab t from List.take_of_length_le (Nat.le_of_eq h19)] at h1 h2
      repeat' (first | refine tr_seq ?_ | refine tr_block ?_ | refine tr_skip ?_)
      first | refine reg (T := tab) tOk hnt rfl ?_ ?_ | refine regD (T := tab) tOk mixedR hnt rfl (by first | decide +kernel | kernel_rfl) ?_ ?_
      · (dsimp only [AllP]; (repeat' first | exact trivial | assumption | exact Nat.le_of_ble_eq_true rfl | apply And.intro | exact eCells_len1 _ _ ‹_› | exact eCells_isByte _ _ ‹_› | (intro hh_; have hg_ := hh_; (try simp only [condT_ff, condF_tt, notE_t, notE_f, Bool.and_eq_true, ne_eq, decide_eq_true_eq, decide_eq_false_iff_not] at hg_)) | intro _ | exact rfl | omega))
      repeat' (first | refine tr_seq ?_ | refine tr_block ?_ | refine tr_skip ?_)
      refine tr_cond rfl (fun hc => ?_) (fun hc => ?_)
      · have hc : (!t.th) = true := hc
        rw [Bool.not_eq_true'] at hc
        repeat' (first | refine tr_seq ?_ | refine tr_block ?_ | refine tr_skip ?_)
        refine tr_region (lex (T := tab) tOk hnt rfl ?_ (callG rfl rfl rfl rfl rfl rfl hnt rfl (fun hq => ?_) (fun hq => h2) (lex (T := tab) tOk hnt rfl ?_ (Lex.nil _)))) ?_
        · (dsimp only [AllP]; (repeat' first | exact trivial | assumption | exact Nat.le_of_ble_eq_true rfl | apply And.intro | exact eCells_len1 _ _ ‹_› | exact eCells_isByte _ _ ‹_› | (intro hh_; have hg_ := hh_; (try simp only [condT_ff, condF_tt, notE_t, notE_f, Bool.and_eq_true, ne_eq, decide_eq_true_eq, decide_eq_false_iff_not] at hg_)) | intro _ | exact rfl | omega))
        · (dsimp only [AllP]; (repeat' first | exact trivial | assumption | exact Nat.le_of_ble_eq_true rfl | apply And.intro | exact eCells_len1 _ _ ‹_› | exact eCells_isByte _ _ ‹_› | (intro hh_; have hg_ := hh_; (try simp only [condT_ff, condF_tt, notE_t, notE_f, Bool.and_eq_true, ne_eq, decide_eq_true_eq, decide_eq_false_iff_not] at hg_)) | intro _ | exact rfl | omega))
        · (dsimp only [AllP]; (repeat' first | exact trivial | assumption | exact Nat.le_of_ble_eq_true rfl | apply And.intro | exact eCells_len1 _ _ ‹_› | exact eCells_isByte _ _ ‹_› | (intro hh_; have hg_ := hh_; (try simp only [condT_ff, condF_tt, notE_t, notE_f, Bool.and_eq_true, ne_eq, decide_eq_true_eq, decide_eq_false_iff_not] at hg_)) | intro _ | exact rfl | omega))
        refine tr_exit ?_
        repeat' (first | refine tr_seq ?_ | refine reg (T := tab) tOk hnt rfl ?_ ?_ | refine regD (T := tab) tOk mixedR hnt rfl (by first | decide +kernel | kernel_rfl) ?_ ?_ | refine tr_block ?_ | refine tr_skip ?_)
        · (dsimp only [AllP]; (repeat' first | exact trivial | assumption | exact Nat.le_of_ble_eq_true rfl | apply And.intro | decide | intro _ | exact rfl))
        have hd0 : dup t = fun _ => false := by funext u; unfold dup; rw [hc]; rfl
        rw [hd0, show (l.take j).any (fun _ => false) = false by simp] at hj
        have htB : tbB t = blF t := by unfold tbB; rw [hc]; rfl
        rw [htB, ← htk] at hj
        refine ⟨(j + 1, (bif ok2 then blF t else false)), ⟨?_, by dsimp only; omega⟩, by dsimp only; omega, le_of (ad := []) (by
          refine ⟨?_, ?_, ?_, ?_, ?_, ?_, ?_, ?_, ?_, ?_, trivial⟩ <;> first | first | rfl | exact ⟨rfl, rfl⟩ | exact ⟨rfl, rfl, rfl⟩ | exact ⟨rfl, rfl, rfl, rfl⟩ | exact ⟨rfl, rfl, rfl, rfl, rfl⟩ | exact congrArg (fun z : Int => E.v (.int .i64 z)) (wrap64_id (by omega) (by omega))) (memOk_box rfl rfl rfl (memOk_raw rfl rfl ?_ trivial))⟩
        · dsimp only
          rw [← hj]
          cases ok2 <;> cases blF t <;> rfl
        · dsimp only
          rw [htk, mpF_app]
          unfold mpS
          rw [hc]
          rfl
      have hc : (!t.th) = false := hc
      rw [Bool.not_eq_false'] at hc
      repeat' (first | refine tr_seq ?_ | refine tr_block ?_ | refine tr_skip ?_)
      first | refine reg (T := tab) tOk hnt rfl ?_ ?_ | refine regD (T := tab) tOk mixedR hnt rfl (by first | decide +kernel | kernel_rfl) ?_ ?_
      · (dsimp only [AllP]; (repeat' first | exact trivial | assumption | exact Nat.le_of_ble_eq_true rfl | apply And.intro | exact eCells_len1 _ _ ‹_› | exact eCells_isByte _ _ ‹_› | (intro hh_; have hg_ := hh_; (try simp only [condT_ff, condF_tt, notE_t, notE_f, Bool.and_eq_true, ne_eq, decide_eq_true_eq, decide_eq_false_iff_not] at hg_)) | intro _ | exact rfl | omega))
      have hmp := mpNext t (l.take j) (by omega) hc
      rw [← htk] at hmp
      rw [show mPut (mpF (l.take j)) ((eTab t).getD (0 + 1) E.dflt).str (IntKind.i64.wrap (mGet (mpF (l.take j)) ((eTab t).getD (0 + 1) E.dflt).str + 1)) = mpF (l.take (j + 1)) from hmp]
      repeat' (first | refine tr_seq ?_ | refine tr_block ?_ | refine tr_skip ?_)
      refine tr_region (lex (T := tab) tOk hnt rfl ?_ (callVG rfl rfl rfl rfl rfl rfl hnt rfl (fun hq => ?_) rfl (fun hq => h1) (lex (T := tab) tOk hnt rfl ?_ (Lex.nil _)))) ?_
      · (dsimp only [AllP]; (repeat' first | exact trivial | assumption | exact Nat.le_of_ble_eq_true rfl | apply And.intro | exact eCells_len1 _ _ ‹_› | exact eCells_isByte _ _ ‹_› | (intro hh_; have hg_ := hh_; (try simp only [condT_ff, condF_tt, notE_t, notE_f, Bool.and_eq_true, ne_eq, decide_eq_true_eq, decide_eq_false_iff_not] at hg_)) | intro _ | exact rfl | omega))
      · (dsimp only [AllP]; (repeat' first | exact trivial | assumption | exact Nat.le_of_ble_eq_true rfl | apply And.intro | exact eCells_len1 _ _ ‹_› | exact eCells_isByte _ _ ‹_› | (intro hh_; have hg_ := hh_; (try simp only [condT_ff, condF_tt, notE_t, notE_f, Bool.and_eq_true, ne_eq, decide_eq_true_eq, decide_eq_false_iff_not] at hg_)) | intro _ | exact rfl | omega))
      · (dsimp only [AllP]; (repeat' first | exact trivial | assumption | exact Nat.le_of_ble_eq_true rfl | apply And.intro | exact eCells_len1 _ _ ‹_› | exact eCells_isByte _ _ ‹_› | (intro hh_; have hg_ := hh_; (try simp only [condT_ff, condF_tt, notE_t, notE_f, Bool.and_eq_true, ne_eq, decide_eq_true_eq, decide_eq_false_iff_not] at hg_)) | intro _ | exact rfl | omega))
      have hone : decide (mGet (mpF (l.take (j + 1))) ((eTab t).getD (0 + 1) E.dflt).str = 1) = !(l.take j).any (dup t) := by
        rw [htk]
        exact oneC t (l.take j) hpl hc
      have htB : tbB t = decide (tabF t = 0) := by unfold tbB; rw [hc]; rfl
      rw [htB, ← htk] at hj
      repeat' (first | refine tr_seq ?_ | refine reg (T := tab) tOk hnt rfl ?_ ?_ | refine regD (T := tab) tOk mixedR hnt rfl (by first | decide +kernel | kernel_rfl) ?_ ?_ | refine tr_block ?_ | refine tr_skip ?_)
      · (dsimp only [AllP]; (repeat' first | exact trivial | assumption | exact Nat.le_of_ble_eq_true rfl | apply And.intro | decide | intro _ | exact rfl))
      refine ⟨(j + 1, (bif (bif ok2 then decide (tabF t = 0) else false) then decide (mGet (mpF (l.take (j + 1))) ((eTab t).getD (0 + 1) E.dflt).str = 1) else false)), ⟨?_, by dsimp only; omega⟩, by dsimp only; omega, le_of (ad := []) (by
        refine ⟨?_, ?_, ?_, ?_, ?_, ?_, ?_, ?_, ?_, ?_, trivial⟩ <;> first | first | rfl | exact ⟨rfl, rfl⟩ | exact ⟨rfl, rfl, rfl⟩ | exact ⟨rfl, rfl, rfl, rfl⟩ | exact ⟨rfl, rfl, rfl, rfl, rfl⟩ | exact congrArg (fun z : Int => E.v (.int .i64 z)) (wrap64_id (by omega) (by omega))) (memOk_box rfl rfl rfl (memOk_raw rfl rfl rfl trivial))⟩
      dsimp only
      rw [hone, ← hj]
      cases ok2 <;> cases decide (tabF t = 0) <;> cases (l.take j).any (dup t) <;> rfl
    simp only [condT_tt, condT_ff, condF_tt, condF_ff, notE_t, notE_f, decide_eq_true_eq, decide_eq_false_iff_not] at hc
    refine tr_exit ?_
    rw [List.drop_eq_nil_of_le (by omega), lsG, Bool.and_true] at hj
    have hxa : (eSta s).getD (0 + 115 + (i : Int).toNat * 1) E.dflt = eI (s.a.getD i 0) := by
      rw [Int.toNat_natCast, Nat.mul_one, getD_sub _ (0 + 115) 3 i _ (by omega), hA, List.getD_eq_getElem?_getD, List.getElem?_map, List.getD_eq_getElem?_getD, List.getElem?_eq_getElem halt]
      rfl
    have n1 : 0 + 115 + (i : Int).toNat * 1 < (Cs.es (eSta s)).len := by show _ < (eSta s).length; omega
    have n2 : D0.isA (K.int .i64) ((Cs.es (eSta s)).at (0 + 115 + (i : Int).toNat * 1)) := by
      show E.as (K.int .i64) ((eSta s).getD _ E.dflt) = _
      rw [hxa]
      rfl
    repeat' (first | refine tr_seq ?_ | refine tr_block ?_ | refine tr_skip ?_)
    first | refine reg (T := tab) tOk hnt rfl ?_ ?_ | refine regD (T := tab) tOk mixedR hnt rfl (by first | decide +kernel | kernel_rfl) ?_ ?_
    · (dsimp only [AllP]; (repeat' first | exact trivial | assumption | exact Nat.le_of_ble_eq_true rfl | apply And.intro | exact eCells_len1 _ _ ‹_› | exact eCells_isByte _ _ ‹_› | (intro hh_; have hg_ := hh_; (try simp only [condT_ff, condF_tt, notE_t, notE_f, Bool.and_eq_true, ne_eq, decide_eq_true_eq, decide_eq_false_iff_not] at hg_)) | intro _ | exact rfl | omega))
    repeat' (first | refine tr_seq ?_ | refine reg (T := tab) tOk hnt rfl ?_ ?_ | refine regD (T := tab) tOk mixedR hnt rfl (by first | decide +kernel | kernel_rfl) ?_ ?_ | refine tr_block ?_ | refine tr_skip ?_)
    · (dsimp only [AllP]; (repeat' first | exact trivial | assumption | exact Nat.le_of_ble_eq_true rfl | apply And.intro | decide | intro _ | exact rfl))
    have hcx : (bif (bif ok2 then decide (((eSta s).getD (0 + 115 + (i : Int).toNat * 1) E.dflt).int ≥ 0) else false) then decide (((eSta s).getD (0 + 115 + (i : Int).toNat * 1) E.dflt).int ≤ 12) else false) = (ok2 && askB (s.a.getD i 0)) := by
      rw [hxa]
      exact askD _ _
    refine ⟨(i + 1, (ok2 && askB (s.a.getD i 0))), ⟨?_, by dsimp only; omega, ?_⟩, by dsimp only; omega, le_of (ad := []) (by
      refine ⟨?_, ?_, ?_, ?_, ?_, ?_, trivial⟩ <;> first | first | rfl | exact ⟨rfl, rfl⟩ | exact ⟨rfl, rfl, rfl⟩ | exact ⟨rfl, rfl, rfl, rfl⟩ | exact ⟨rfl, rfl, rfl, rfl, rfl⟩ | exact congrArg (fun z : Int => E.v (.int .i64 z)) (wrap64_id (by omega) (by omega)) | exact congrArg (fun z : Bool => E.v (.bool z)) hcx) (memOk_box rfl rfl rfl trivial)⟩
    · dsimp only
      rw [← hi, ← Bool.and_assoc ok (lsG [] l), ← hj]
      cases ok2 <;> cases askB (s.a.getD i 0) <;> cases restB s (i + 1) <;> rfl
    · dsimp only
      intro ht
      refine hgo ?_
      rw [Bool.and_eq_true] at ht
      rw [ht.1] at hj
      cases ok with
      | true => rfl
      | false => exact absurd hj (by simp)
  simp only [condT_tt, condT_ff, condF_tt, condF_ff, notE_t, notE_f, decide_eq_true_eq, decide_eq_false_iff_not] at hc
  refine tr_exit ?_
  have hr3 : restB s i = true := by
    unfold restB
    rw [List.drop_eq_nil_of_le (by omega), List.drop_eq_nil_of_le (by omega)]
    rfl
  rw [hr3, Bool.and_true] at hi
  repeat' (first | refine tr_seq ?_ | refine reg (T := tab) tOk hnt rfl ?_ ?_ | refine regD (T := tab) tOk mixedR hnt rfl (by first | decide +kernel | kernel_rfl) ?_ ?_ | refine tr_block ?_ | refine tr_skip ?_)
  · (dsimp only [AllP]; (repeat' first | exact trivial | assumption | exact Nat.le_of_ble_eq_true rfl | apply And.intro | decide | intro _ | exact rfl))
  have hfin : staF s = if ok = true ∧ s.g.all (thA s) = true then 0 else 11 := by
    unfold staF
    congr 1
    unfold stG
    rw [show ok = (decide (gfaultF s.g = 0) && (s.t.all (lsG []) && s.a.all askB)) from hi]
    cases s.t.all (lsG []) <;> cases decide (gfaultF s.g = 0) <;> cases s.g.all (thA s) <;> cases s.a.all askB <;> simp
  first | refine tr_join (σ := Bool) (fun x => St.of [(3, .one (.e (eBl x)))] []) (fun x => (if x = true then (0 : Int) else 11) = staF s) ?_ ?_ | refine tr_seq (tr_join (σ := Bool) (fun x => St.of [(3, .one (.e (eBl x)))] []) (fun x => (if x = true then (0 : Int) else 11) = staF s) ?_ ?_)
  · repeat' (first | refine tr_seq ?_ | refine tr_block ?_ | refine tr_skip ?_)
    refine tr_cond rfl (fun hc => ?_) (fun hc => ?_)
    · have hc : ok = true := hc
      have hgf := hgo hc
      subst hc
      obtain ⟨gl, gok⟩ := gfault_ok hgf
      repeat' (first | refine tr_seq ?_ | refine tr_block ?_ | refine tr_skip ?_)
      first | refine reg (T := tab) tOk hnt rfl ?_ ?_ | refine regD (T := tab) tOk mixedR hnt rfl (by first | decide +kernel | kernel_rfl) ?_ ?_
      · (dsimp only [AllP]; (repeat' first | exact trivial | assumption | exact Nat.le_of_ble_eq_true rfl | apply And.intro | exact eCells_len1 _ _ ‹_› | exact eCells_isByte _ _ ‹_› | (intro hh_; have hg_ := hh_; (try simp only [condT_ff, condF_tt, notE_t, notE_f, Bool.and_eq_true, ne_eq, decide_eq_true_eq, decide_eq_false_iff_not] at hg_)) | intro _ | exact rfl | omega))
      rw [hG]
      have ml : ((eGrs s.g).xs.length : Int) = (s.g.length : Int) := by show ((s.g.map eGr).length : Int) = _; rw [List.length_map]
      rw [ml]
      repeat' (first | refine tr_seq ?_ | refine tr_block ?_ | refine tr_skip ?_)
      refine tr_loop (σ := Nat × Bool) (fun x => St.of [(1, .one (.ptr 1 0 0)), (3, .one (.e (eBl x.2))), (72, .one (.e (eGrs s.g))), (73, .one (.e (eI (s.g.length : Int)))), (74, .one (.e (eI (x.1 : Int))))] [(1, ⟨0, .box (.es (eSta s)), 0⟩)]) (fun x => (x.2 && (s.g.drop x.1).all (thA s)) = s.g.all (thA s) ∧ x.1 ≤ s.g.length) (fun x => s.g.length - x.1) ((0, true)) (le_of (ad := []) (by refine ⟨?_, ?_, ?_, ?_, ?_, trivial⟩ <;> first | exact trivial | rfl | exact ⟨rfl, rfl⟩ | exact ⟨rfl, rfl, rfl⟩ | exact ⟨rfl, rfl, rfl, rfl⟩ | exact ⟨rfl, rfl, rfl, rfl, rfl⟩ | exact congrArg (fun z : Int => E.v (.int .i64 z)) (wrap64_id (by omega) (by omega)) | exact congrArg (fun z : Int => E.v (.int .u8 z)) (by assumption) | exact congrArg (fun z : ByteArray => E.v (.string z)) (by assumption) | (refine ⟨rfl, ?_⟩; repeat' first | exact trivial | rfl | apply And.intro)) (memOk_box rfl rfl rfl trivial)) ⟨rfl, Nat.zero_le _⟩ ?_
      rintro ⟨m, ok2⟩ ⟨hm, ml2⟩
      dsimp only at hm ml2 ⊢
      repeat' (first | refine tr_seq ?_ | refine reg (T := tab) tOk hnt rfl ?_ ?_ | refine regD (T := tab) tOk mixedR hnt rfl (by first | decide +kernel | kernel_rfl) ?_ ?_ | refine tr_block ?_ | refine tr_skip ?_)
      · (dsimp only [AllP]; (repeat' first | exact trivial | assumption | exact Nat.le_of_ble_eq_true rfl | apply And.intro | decide | intro _ | exact rfl))
      repeat' (first | refine tr_seq ?_ | refine tr_block ?_ | refine tr_skip ?_)
      refine tr_cond rfl (fun hc => ?_) (fun hc => ?_)
      · simp only [condT_tt, condT_ff, condF_tt, condF_ff, notE_t, notE_f, decide_eq_true_eq, decide_eq_false_iff_not] at hc
        have hmt : m < s.g.length := by omega
        have hlen : ((List.map eGr s.g).getD (m : Int).toNat []).length = 5 := by rw [Int.toNat_natCast, grGet s.g hmt]; rfl
        have l5 : (Cs.es (List.take 5 (List.drop 0 ((List.map eGr s.g).getD (m : Int).toNat [])))).len = 5 := by
          show (List.take 5 (List.drop 0 _)).length = 5
          rw [List.length_take, List.length_drop, hlen]
          rfl
        have l5b : 0 + 5 ≤ (Cs.es ((List.map eGr s.g).getD (m : Int).toNat [])).len := Nat.le_of_eq hlen.symm
        have mm : (m : Int) < ((s.g.map eGr).length : Int) := by rw [List.length_map]; omega
        repeat' (first | refine tr_seq ?_ | refine tr_block ?_ | refine tr_skip ?_)
        first | refine reg (T := tab) tOk hnt rfl ?_ ?_ | refine regD (T := tab) tOk mixedR hnt rfl (by first | decide +kernel | kernel_rfl) ?_ ?_
        · (dsimp only [AllP]; (repeat' first | exact trivial | assumption | exact Nat.le_of_ble_eq_true rfl | apply And.intro | exact eCells_len1 _ _ ‹_› | exact eCells_isByte _ _ ‹_› | (intro hh_; have hg_ := hh_; (try simp only [condT_ff, condF_tt, notE_t, notE_f, Bool.and_eq_true, ne_eq, decide_eq_true_eq, decide_eq_false_iff_not] at hg_)) | intro _ | exact rfl | omega))
        rw [box_store]
        rotate_left
        · exact hlen
        · rfl
        rw [Int.toNat_natCast, grGet s.g hmt]
        rw [drop_getD (d := gz) hmt, List.all_cons] at hm
        have hgo := gok _ (getD_mem (d := gz) hmt)
        generalize s.g.getD m gz = g at *
        obtain ⟨fr, to, ob, rt, op, ⟨⟩⟩ := g
        repeat' (first | refine tr_seq ?_ | refine tr_block ?_ | refine tr_skip ?_)
        first | refine reg (T := tab) tOk hnt rfl ?_ ?_ | refine regD (T := tab) tOk mixedR hnt rfl (by first | decide +kernel | kernel_rfl) ?_ ?_
        · (dsimp only [AllP]; (repeat' first | exact trivial | assumption | exact Nat.le_of_ble_eq_true rfl | apply And.intro | exact eCells_len1 _ _ ‹_› | exact eCells_isByte _ _ ‹_› | (intro hh_; have hg_ := hh_; (try simp only [condT_ff, condF_tt, notE_t, notE_f, Bool.and_eq_true, ne_eq, decide_eq_true_eq, decide_eq_false_iff_not] at hg_)) | intro _ | exact rfl | omega))
        have ho1 : 0 ≤ ob := hgo.2.2.1
        have ho2 : ob < 12 := hgo.2.2.2
        obtain ⟨q, rfl⟩ := Int.eq_ofNat_of_zero_le ho1
        have hq : q < 12 := by omega
        rw [show E.v (Value.int .i64 (IntKind.i64.wrap (((eGr ((fr, to, (q : Int), rt, op, ()) : Gr)).getD (0 + 2) E.dflt).int.tdiv 2))) = eI ((q / 2 : Nat) : Int) from congrArg (fun z : Int => E.v (.int .i64 z)) (quo2 q hq)]
        have e1 : IntKind.i64.wrap (((q / 2 : Nat) : Int).tdiv 2) = ((q / 4 : Nat) : Int) := by
          rw [quo2 (q / 2) (by omega), Nat.div_div_eq_div_mul]
        have e2 : (((q / 2 : Nat) : Int).tmod 2) = ((q / 2 % 2 : Nat) : Int) := rfl
        have n1 : 0 + 0 + (IntKind.i64.wrap (((q / 2 : Nat) : Int).tdiv 2)).toNat * 38 + ((((q / 2 : Nat) : Int).tmod 2)).toNat * 19 + 0 < (Cs.es (eSta s)).len := by
          rw [e1, e2, Int.toNat_natCast, Int.toNat_natCast]
          show _ < (eSta s).length
          omega
        have hth : (eSta s).getD (0 + 0 + (IntKind.i64.wrap (((q / 2 : Nat) : Int).tdiv 2)).toNat * 38 + ((((q / 2 : Nat) : Int).tmod 2)).toNat * 19 + 0) E.dflt = eBl (thA s (fr, to, (q : Int), rt, op, ())) := by
          rw [e1, e2, Int.toNat_natCast, Int.toNat_natCast]
          exact staTh h (by omega) (by omega)
        have n2 : D0.isA K.bool ((Cs.es (eSta s)).at (0 + 0 + (IntKind.i64.wrap (((q / 2 : Nat) : Int).tdiv 2)).toNat * 38 + ((((q / 2 : Nat) : Int).tmod 2)).toNat * 19 + 0)) := by
          show E.as K.bool ((eSta s).getD _ E.dflt) = _
          rw [hth]
          rfl
        have n3 : 0 ≤ IntKind.i64.wrap (((q / 2 : Nat) : Int).tdiv 2) := by rw [e1]; omega
        have n4 : IntKind.i64.wrap (((q / 2 : Nat) : Int).tdiv 2) < 3 := by rw [e1]; omega
        have n5 : 0 ≤ (((q / 2 : Nat) : Int).tmod 2) := by rw [e2]; omega
        have n6 : (((q / 2 : Nat) : Int).tmod 2) < 2 := by rw [e2]; omega
        repeat' (first | refine tr_seq ?_ | refine tr_block ?_ | refine tr_skip ?_)
        first | refine reg (T := tab) tOk hnt rfl ?_ ?_ | refine regD (T := tab) tOk mixedR hnt rfl (by first | decide +kernel | kernel_rfl) ?_ ?_
        · (dsimp only [AllP]; (repeat' first | exact trivial | assumption | exact Nat.le_of_ble_eq_true rfl | apply And.intro | exact eCells_len1 _ _ ‹_› | exact eCells_isByte _ _ ‹_› | (intro hh_; have hg_ := hh_; (try simp only [condT_ff, condF_tt, notE_t, notE_f, Bool.and_eq_true, ne_eq, decide_eq_true_eq, decide_eq_false_iff_not] at hg_)) | intro _ | exact rfl | omega))
        repeat' (first | refine tr_seq ?_ | refine reg (T := tab) tOk hnt rfl ?_ ?_ | refine regD (T := tab) tOk mixedR hnt rfl (by first | decide +kernel | kernel_rfl) ?_ ?_ | refine tr_block ?_ | refine tr_skip ?_)
        · (dsimp only [AllP]; (repeat' first | exact trivial | assumption | exact Nat.le_of_ble_eq_true rfl | apply And.intro | decide | intro _ | exact rfl))
        have hcx : (bif ok2 then ((eSta s).getD (0 + 0 + (IntKind.i64.wrap (((q / 2 : Nat) : Int).tdiv 2)).toNat * 38 + ((((q / 2 : Nat) : Int).tmod 2)).toNat * 19 + 0) E.dflt).bool else false) = (ok2 && thA s (fr, to, (q : Int), rt, op, PUnit.unit)) := by
          rw [hth]
          cases ok2 <;> rfl
        refine ⟨(m + 1, (ok2 && thA s (fr, to, (q : Int), rt, op, PUnit.unit))), ⟨?_, by dsimp only; omega⟩, by dsimp only; omega, le_of (ad := []) (by
          refine ⟨?_, ?_, ?_, ?_, ?_, trivial⟩ <;> first | first | rfl | exact ⟨rfl, rfl⟩ | exact ⟨rfl, rfl, rfl⟩ | exact ⟨rfl, rfl, rfl, rfl⟩ | exact ⟨rfl, rfl, rfl, rfl, rfl⟩ | exact congrArg (fun z : Int => E.v (.int .i64 z)) (wrap64_id (by omega) (by omega)) | exact congrArg (fun z : Bool => E.v (.bool z)) hcx) (memOk_box rfl rfl rfl trivial)⟩
        dsimp only
        rw [← hm, Bool.and_assoc]
      simp only [condT_tt, condT_ff, condF_tt, condF_ff, notE_t, notE_f, decide_eq_true_eq, decide_eq_false_iff_not] at hc
      refine tr_exit ?_
      rw [List.drop_eq_nil_of_le (by omega), List.all_nil, Bool.and_true] at hm
      repeat' (first | refine tr_seq ?_ | refine tr_block ?_ | refine tr_skip ?_)
      refine ⟨ok2, (by rw [hfin, hm]; cases s.g.all (thA s) <;> rfl), le_of (ad := []) (by refine ⟨?_, trivial⟩ <;> first | exact trivial | rfl | exact ⟨rfl, rfl⟩ | exact ⟨rfl, rfl, rfl⟩ | exact ⟨rfl, rfl, rfl, rfl⟩ | exact ⟨rfl, rfl, rfl, rfl, rfl⟩ | exact congrArg (fun z : Int => E.v (.int .i64 z)) (wrap64_id (by omega) (by omega)) | exact congrArg (fun z : Int => E.v (.int .u8 z)) (by assumption) | exact congrArg (fun z : ByteArray => E.v (.string z)) (by assumption) | (refine ⟨rfl, ?_⟩; repeat' first | exact trivial | rfl | apply And.intro)) trivial⟩
    · have hc : ok = false := hc
      subst hc
      repeat' (first | refine tr_seq ?_ | refine tr_block ?_ | refine tr_skip ?_)
      refine ⟨false, (by rw [hfin]; rfl), le_of (ad := []) (by refine ⟨?_, trivial⟩ <;> first | exact trivial | rfl | exact ⟨rfl, rfl⟩ | exact ⟨rfl, rfl, rfl⟩ | exact ⟨rfl, rfl, rfl, rfl⟩ | exact ⟨rfl, rfl, rfl, rfl, rfl⟩ | exact congrArg (fun z : Int => E.v (.int .i64 z)) (wrap64_id (by omega) (by omega)) | exact congrArg (fun z : Int => E.v (.int .u8 z)) (by assumption) | exact congrArg (fun z : ByteArray => E.v (.string z)) (by assumption) | (refine ⟨rfl, ?_⟩; repeat' first | exact trivial | rfl | apply And.intro)) trivial⟩
  intro x hx
  rw [← hx]
  repeat' (first | refine tr_seq ?_ | refine reg (T := tab) tOk hnt rfl ?_ ?_ | refine regD (T := tab) tOk mixedR hnt rfl (by first | decide +kernel | kernel_rfl) ?_ ?_ | refine tr_block ?_ | refine tr_skip ?_)
  · (dsimp only [AllP]; (repeat' first | exact trivial | assumption | exact Nat.le_of_ble_eq_true rfl | apply And.intro | decide | intro _ | exact rfl))
  repeat' (first | refine tr_seq ?_ | refine tr_block ?_ | refine tr_skip ?_)
  refine tr_cond rfl (fun hc => ?_) (fun hc => ?_)
  · have hc : (!x) = true := hc
    rw [Bool.not_eq_true'] at hc
    rw [hc]
    repeat' (first | refine tr_seq ?_ | refine reg (T := tab) tOk hnt rfl ?_ ?_ | refine regD (T := tab) tOk mixedR hnt rfl (by first | decide +kernel | kernel_rfl) ?_ ?_ | refine tr_block ?_ | refine tr_skip ?_)
    · (dsimp only [AllP]; (repeat' first | exact trivial | assumption | exact Nat.le_of_ble_eq_true rfl | apply And.intro | decide | intro _ | exact rfl))
    exact tr_ret ⟨.inr rfl, _, _, rfl, trivial, rfl⟩
  have hc : (!x) = false := hc
  rw [Bool.not_eq_false'] at hc
  rw [hc]
  repeat' (first | refine tr_seq ?_ | refine reg (T := tab) tOk hnt rfl ?_ ?_ | refine regD (T := tab) tOk mixedR hnt rfl (by first | decide +kernel | kernel_rfl) ?_ ?_ | refine tr_block ?_ | refine tr_skip ?_)
  · (dsimp only [AllP]; (repeat' first | exact trivial | assumption | exact Nat.le_of_ble_eq_true rfl | apply And.intro | decide | intro _ | exact rfl))
  exact tr_ret ⟨.inr rfl, _, _, rfl, trivial, rfl⟩
end Go.Proofs.YtphaholcndhonaaDoor
