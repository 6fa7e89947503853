/- Expressions: the document's ExprFault. No condition. -/
import Derived.Test.YtcjeeoimjkhijaaDoorTEx2
namespace Go.Proofs.YtcjeeoimjkhijaaDoor
open Go Go.RowKit Go.Proofs.YtcjeeoimjkhijaaDoor.Ab
set_option linter.unusedSimpArgs false
set_option linter.unusedVariables false

theorem nodeF_zero {x : Ex} (h1 : 1 ≤ x.op) (h2 : x.op ≤ 20) : (nodeF x = 0 ∨ nodeF x = 3) ∧ (nodeF x = 0 ↔ (x.ar.length : Int) = wantF x.op ∧ (x.op = 2 ↔ x.n.length ≠ 0) ∧ (x.op = 1 ∨ zv x.v) ∧ (x.op = 2 → nmOk x.n) ∧ (x.op = 1 → chk x.v = 0 ∧ 0 ≤ x.v.i)) := by
  unfold nodeF
  rw [if_neg (by omega)]
  by_cases c1 : (x.ar.length : Int) = wantF x.op
  · rw [if_neg (not_not_intro c1)]
    by_cases c2 : ¬ (x.op = 2 ↔ x.n.length ≠ 0) ∨ (x.op ≠ 1 ∧ ¬ zv x.v)
    · rw [if_pos c2]
      refine ⟨.inr rfl, iff_of_false (by decide) ?_⟩
      rintro ⟨_, k2, k3, _⟩
      rcases c2 with c2 | c2
      · exact c2 k2
      · exact k3.elim c2.1 c2.2
    · rw [if_neg c2]
      by_cases c3 : x.op = 2 ∧ ¬ nmOk x.n
      · rw [if_pos c3]
        exact ⟨.inr rfl, iff_of_false (by decide) fun k => c3.2 (k.2.2.2.1 c3.1)⟩
      · rw [if_neg c3]
        by_cases c4 : x.op = 1 ∧ (chk x.v ≠ 0 ∨ x.v.i < 0)
        · rw [if_pos c4]
          refine ⟨.inr rfl, iff_of_false (by decide) fun k => ?_⟩
          have := k.2.2.2.2 c4.1
          omega
        · rw [if_neg c4]
          refine ⟨.inl rfl, iff_of_true rfl ⟨c1, Classical.byContradiction fun q => c2 (.inl q), Classical.byContradiction fun q => c2 (.inr ⟨fun e => q (.inl e), fun e => q (.inr e)⟩), fun e => Classical.byContradiction fun q => c3 ⟨e, q⟩, fun e => ?_⟩⟩
          omega
  · rw [if_pos c1]
    exact ⟨.inr rfl, iff_of_false (by decide) fun k => c1 k.1⟩
def wl : List Int := [0, 0, 0, 1, 1, 2, 2, 2, 2, 2, 2, 2, 2, 2, 2, 2, 2, 1, 1, 2, 2]
theorem wl_get {op : Int} (h1 : 1 ≤ op) (h2 : op ≤ 20) : (wl.map fun n => [eI n]).getD (Int.toNat op) [] = [eI (wantF op)] := by
  obtain ⟨k, rfl⟩ := Int.eq_ofNat_of_zero_le (show 0 ≤ op by omega)
  have h : ∀ k : Fin 21, 1 ≤ k.val → wl.getD k.val 0 = wantF (k.val : Int) := by decide
  have hk := h ⟨k, by omega⟩ (by show 1 ≤ k; omega)
  rw [Int.toNat_natCast]
  have hl : k < wl.length := by show k < 21; omega
  rw [List.getD_eq_getElem?_getD, List.getElem?_map, List.getElem?_eq_getElem hl]
  rw [List.getD_eq_getElem?_getD, List.getElem?_eq_getElem hl] at hk
  have hk : wl[k] = wantF (k : Int) := hk
  rw [Option.map_some, hk]
  rfl
theorem dec_iff {p : Prop} [Decidable p] {b : Bool} (h : b = true ↔ p) : b = decide p := by
  rw [Bool.eq_iff_iff, decide_eq_true_eq]
  exact h
set_option maxRecDepth 10000 in
set_option maxHeartbeats 2000000 in
theorem nodeFault_step (x : Ex) (hok : x.v.ok) (hL : x.ar.length ≤ maxLen) (hn : x.n.length ≤ maxLen) (ih : ∀ a ∈ x.ar, FnG Tryd.prog 37 gK [.agg (.es (eEx a))] (.one (.e (eI (ndF a))))) : FnG Tryd.prog 37 gK [.agg (.es (eEx x))] (.one (.e (eI (ndF x)))) := by
  refine fn_introG (T := tab) tOk Tryd.func37 rfl (by kernel_rfl) (by simp [Tryd.ntmps37]) ?_
  intro X hX
  have hnt : X.nt = 97 := hX
  clear hX
  have hml := exsLen x.ar
  have hln : (strB x.n).size = x.n.length := strB_size x.n
  unfold maxLen at hL
  rw [ndF_eq, eEx_eq]
  repeat' (first | refine tr_seq ?_ | refine reg (T := tab) tOk hnt rfl ?_ ?_ | refine regD (T := tab) tOk mixedR hnt rfl (by decide +kernel) ?_ ?_ | refine tr_block ?_ | refine tr_skip ?_)
  · (dsimp only [AllP]; (repeat' first | exact trivial | assumption | exact Nat.le_of_ble_eq_true rfl | apply And.intro | decide | intro _ | exact rfl))
  · (dsimp only [AllP]; (repeat' first | exact trivial | assumption | exact Nat.le_of_ble_eq_true rfl | apply And.intro | decide | intro _ | exact rfl))
  · (dsimp only [AllP]; (repeat' first | exact trivial | assumption | exact Nat.le_of_ble_eq_true rfl | apply And.intro | decide | intro _ | exact rfl))
  repeat' (first | refine tr_seq ?_ | refine tr_block ?_ | refine tr_skip ?_)
  refine tr_cond rfl (fun hc => ?_) (fun hc => ?_)
  · have hc : (bif decide (x.op < 1) then true else decide (21 ≤ x.op)) = true := hc
    simp only [condT_tt, condT_ff, condF_tt, condF_ff, notE_t, notE_f, decide_eq_true_eq, decide_eq_false_iff_not] at hc
    have h2 : nodeF x = 2 := by unfold nodeF; rw [if_pos (by omega)]
    rw [h2]
    repeat' (first | refine tr_seq ?_ | refine reg (T := tab) tOk hnt rfl ?_ ?_ | refine regD (T := tab) tOk mixedR hnt rfl (by decide +kernel) ?_ ?_ | refine tr_block ?_ | refine tr_skip ?_)
    · (dsimp only [AllP]; (repeat' first | exact trivial | assumption | exact Nat.le_of_ble_eq_true rfl | apply And.intro | decide | intro _ | exact rfl))
    exact tr_ret ⟨.inr rfl, _, _, rfl, trivial, rfl⟩
  have hc : (bif decide (x.op < 1) then true else decide (21 ≤ x.op)) = false := hc
  simp only [condT_tt, condT_ff, condF_tt, condF_ff, notE_t, notE_f, decide_eq_true_eq, decide_eq_false_iff_not] at hc
  obtain ⟨z1, z2⟩ := nodeF_zero (x := x) (by omega) (by omega)
  have hw : (wl.map fun n => [eI n]).getD (Int.toNat ([eI x.op, eI x.v.k, eI x.v.i, eQ x.v.b, eT x.v.t, eT x.n, .sl (eExs x.ar)].getD (0 + 0) E.dflt).int) [] = [eI (wantF x.op)] := wl_get (op := x.op) (by omega) (by omega)
  have hw1 : 0 ≤ ([eI x.op, eI x.v.k, eI x.v.i, eQ x.v.b, eT x.v.t, eT x.n, .sl (eExs x.ar)].getD (0 + 0) E.dflt).int := by show 0 ≤ x.op; omega
  have hw2 : ([eI x.op, eI x.v.k, eI x.v.i, eQ x.v.b, eT x.v.t, eT x.n, .sl (eExs x.ar)].getD (0 + 0) E.dflt).int < ((wl.map fun n => [eI n]).length : Int) := by show x.op < 21; omega
  have e1 := eqV1 x.v val0
  refine tr_le (s' := St.of [(1, .one (.ptr 1 0 0)), (3, .one (.own 8 0)), ((1000000 + 0), .one (.eptr fsE)), ((1000000 + 1), .one (.eptr acE))] [(1, ⟨0, .box (.es [eI x.op, eI x.v.k, eI x.v.i, eQ x.v.b, eT x.v.t, eT x.n, .sl (eExs x.ar)]), 0⟩), (8, ⟨0, .row 1 (wl.map fun n => [eI n]), 0⟩)]) (le_of (ad := []) (by refine ⟨?_, ?_, ?_, ?_, trivial⟩ <;> first | exact trivial | rfl | exact ⟨rfl, rfl⟩ | exact ⟨rfl, rfl, rfl⟩ | exact ⟨rfl, rfl, rfl, rfl⟩ | exact ⟨rfl, rfl, rfl, rfl, rfl⟩ | exact congrArg (fun z : Int => E.v (.int .i64 z)) (wrap64_id (by omega) (by omega))) (memOk_box rfl rfl rfl (memOk_row rfl rfl rfl trivial))) ?_
  repeat' (first | refine tr_seq ?_ | refine tr_block ?_ | refine tr_skip ?_)
  first | refine reg (T := tab) tOk hnt rfl ?_ ?_ | refine regD (T := tab) tOk mixedR hnt rfl (by decide +kernel) ?_ ?_
  · rw [hw]
    (dsimp only [AllP]; (repeat' first | exact trivial | assumption | exact Nat.le_of_ble_eq_true rfl | apply And.intro | exact eCells_len1 _ _ ‹_› | exact eCells_isByte _ _ ‹_› | (intro hh_; have hg_ := hh_; (try simp only [condT_ff, condF_tt, notE_t, notE_f, Bool.and_eq_true, ne_eq, decide_eq_true_eq, decide_eq_false_iff_not] at hg_)) | intro _ | exact rfl | omega))
  rw [hw]
  repeat' (first | refine tr_seq ?_ | refine tr_block ?_ | refine tr_skip ?_)
  first | refine reg (T := tab) tOk hnt rfl ?_ ?_ | refine regD (T := tab) tOk mixedR hnt rfl (by decide +kernel) ?_ ?_
  · (dsimp only [AllP]; (repeat' first | exact trivial | assumption | exact Nat.le_of_ble_eq_true rfl | apply And.intro | decide | intro _ | exact rfl))
  first | refine tr_join (σ := Bool) (fun y => St.of [(1, .one (.ptr 1 0 0)), (4, .v (.bool y)), ((1000000 + 0), .one (.eptr fsE)), ((1000000 + 1), .one (.eptr acE))] [(1, ⟨0, .box (.es [eI x.op, eI x.v.k, eI x.v.i, eQ x.v.b, eT x.v.t, eT x.n, .sl (eExs x.ar)]), 0⟩)]) (fun y => y = decide (nodeF x = 0)) ?_ ?_ | refine tr_seq (tr_join (σ := Bool) (fun y => St.of [(1, .one (.ptr 1 0 0)), (4, .v (.bool y)), ((1000000 + 0), .one (.eptr fsE)), ((1000000 + 1), .one (.eptr acE))] [(1, ⟨0, .box (.es [eI x.op, eI x.v.k, eI x.v.i, eQ x.v.b, eT x.v.t, eT x.n, .sl (eExs x.ar)]), 0⟩)]) (fun y => y = decide (nodeF x = 0)) ?_ ?_)
  · repeat' (first | refine tr_seq ?_ | refine reg (T := tab) tOk hnt rfl ?_ ?_ | refine regD (T := tab) tOk mixedR hnt rfl (by decide +kernel) ?_ ?_ | refine tr_block ?_ | refine tr_skip ?_)
    · (dsimp only [AllP]; (repeat' first | exact trivial | assumption | exact Nat.le_of_ble_eq_true rfl | apply And.intro | decide | intro _ | exact rfl))
    repeat' (first | refine tr_seq ?_ | refine tr_block ?_ | refine tr_skip ?_)
    refine tr_cond rfl (fun hc => ?_) (fun hc => ?_)
    · have h1 : x.op = 1 := of_decide_eq_true hc
      clear hc
      repeat' (first | refine tr_seq ?_ | refine tr_block ?_ | refine tr_skip ?_)
      refine tr_region (lex (T := tab) tOk hnt rfl ?_ (callVG rfl rfl rfl rfl rfl rfl hnt rfl (fun hq => ?_) rfl (fun hq => fault_fn x.v hok) (lex (T := tab) tOk hnt rfl ?_ (Lex.nil _)))) ?_
      · (dsimp only [AllP]; (repeat' first | exact trivial | assumption | exact Nat.le_of_ble_eq_true rfl | apply And.intro | exact eCells_len1 _ _ ‹_› | exact eCells_isByte _ _ ‹_› | (intro hh_; have hg_ := hh_; (try simp only [condT_ff, condF_tt, notE_t, notE_f, Bool.and_eq_true, ne_eq, decide_eq_true_eq, decide_eq_false_iff_not] at hg_)) | intro _ | exact rfl | omega))
      · (dsimp only [AllP]; (repeat' first | exact trivial | assumption | exact Nat.le_of_ble_eq_true rfl | apply And.intro | exact eCells_len1 _ _ ‹_› | exact eCells_isByte _ _ ‹_› | (intro hh_; have hg_ := hh_; (try simp only [condT_ff, condF_tt, notE_t, notE_f, Bool.and_eq_true, ne_eq, decide_eq_true_eq, decide_eq_false_iff_not] at hg_)) | intro _ | exact rfl | omega))
      · (dsimp only [AllP]; (repeat' first | exact trivial | assumption | exact Nat.le_of_ble_eq_true rfl | apply And.intro | exact eCells_len1 _ _ ‹_› | exact eCells_isByte _ _ ‹_› | (intro hh_; have hg_ := hh_; (try simp only [condT_ff, condF_tt, notE_t, notE_f, Bool.and_eq_true, ne_eq, decide_eq_true_eq, decide_eq_false_iff_not] at hg_)) | intro _ | exact rfl | omega))
      repeat' (first | refine tr_seq ?_ | refine tr_block ?_ | refine tr_skip ?_)
      refine ⟨decide (nodeF x = 0), rfl, le_of (ad := []) ⟨⟨rfl, rfl, rfl, rfl, rfl⟩, ?_, rfl, rfl, trivial⟩ (memOk_box rfl rfl rfl trivial)⟩
      refine congrArg (fun z : Bool => E.v (.bool z)) ?_
      show (bif bif bif decide (((eExs x.ar).length : Int) = wantF x.op) then strEq (strB x.n) ⟨#[]⟩ else false then decide (chk x.v = 0) else false then decide (0 ≤ x.v.i) else false) = _
      rw [strEq_nil, hml]
      refine dec_iff ?_
      simp only [condT_tt, condT_ff, condF_tt, condF_ff, notE_t, notE_f, decide_eq_true_eq, decide_eq_false_iff_not]
      rw [z2]
      have : ¬ x.op = 2 := by omega
      constructor
      · rintro ⟨⟨⟨k1, k2⟩, k3⟩, k4⟩
        exact ⟨k1, by omega, .inl h1, fun e => absurd e this, fun _ => ⟨k3, k4⟩⟩
      · rintro ⟨k1, k2, _, _, k5⟩
        exact ⟨⟨⟨k1, by omega⟩, (k5 h1).1⟩, (k5 h1).2⟩
    have h1 : ¬ x.op = 1 := of_decide_eq_false hc
    clear hc
    repeat' (first | refine tr_seq ?_ | refine reg (T := tab) tOk hnt rfl ?_ ?_ | refine regD (T := tab) tOk mixedR hnt rfl (by decide +kernel) ?_ ?_ | refine tr_block ?_ | refine tr_skip ?_)
    · (dsimp only [AllP]; (repeat' first | exact trivial | assumption | exact Nat.le_of_ble_eq_true rfl | apply And.intro | decide | intro _ | exact rfl))
    repeat' (first | refine tr_seq ?_ | refine tr_block ?_ | refine tr_skip ?_)
    refine tr_cond rfl (fun hc => ?_) (fun hc => ?_)
    · have h2 : x.op = 2 := of_decide_eq_true hc
      clear hc
      repeat' (first | refine tr_seq ?_ | refine tr_block ?_ | refine tr_skip ?_)
      refine tr_region (lex (T := tab) tOk hnt rfl ?_ (callG rfl rfl rfl rfl rfl rfl hnt rfl (fun hq => ?_) (fun hq => isName_fn x.n hn) (lex (T := tab) tOk hnt rfl ?_ (Lex.nil _)))) ?_
      · (dsimp only [AllP]; (repeat' first | exact trivial | assumption | exact Nat.le_of_ble_eq_true rfl | apply And.intro | exact eCells_len1 _ _ ‹_› | exact eCells_isByte _ _ ‹_› | (intro hh_; have hg_ := hh_; (try simp only [condT_ff, condF_tt, notE_t, notE_f, Bool.and_eq_true, ne_eq, decide_eq_true_eq, decide_eq_false_iff_not] at hg_)) | intro _ | exact rfl | omega))
      · (dsimp only [AllP]; (repeat' first | exact trivial | assumption | exact Nat.le_of_ble_eq_true rfl | apply And.intro | exact eCells_len1 _ _ ‹_› | exact eCells_isByte _ _ ‹_› | (intro hh_; have hg_ := hh_; (try simp only [condT_ff, condF_tt, notE_t, notE_f, Bool.and_eq_true, ne_eq, decide_eq_true_eq, decide_eq_false_iff_not] at hg_)) | intro _ | exact rfl | omega))
      · (dsimp only [AllP]; (repeat' first | exact trivial | assumption | exact Nat.le_of_ble_eq_true rfl | apply And.intro | exact eCells_len1 _ _ ‹_› | exact eCells_isByte _ _ ‹_› | (intro hh_; have hg_ := hh_; (try simp only [condT_ff, condF_tt, notE_t, notE_f, Bool.and_eq_true, ne_eq, decide_eq_true_eq, decide_eq_false_iff_not] at hg_)) | intro _ | exact rfl | omega))
      repeat' (first | refine tr_seq ?_ | refine tr_block ?_ | refine tr_skip ?_)
      refine ⟨decide (nodeF x = 0), rfl, le_of (ad := []) ⟨⟨rfl, rfl, rfl, rfl, rfl⟩, ?_, rfl, rfl, trivial⟩ (memOk_box rfl rfl rfl trivial)⟩
      refine congrArg (fun z : Bool => E.v (.bool z)) ?_
      show (bif bif bif decide (((eExs x.ar).length : Int) = wantF x.op) then zvB x.v else false then isNm x.n else false then decide (((strB x.n).size : Int) ≤ 8) else false) = _
      rw [zvB_eq, hml, hln]
      refine dec_iff ?_
      simp only [condT_tt, condT_ff, condF_tt, condF_ff, notE_t, notE_f, decide_eq_true_eq, decide_eq_false_iff_not]
      rw [z2]
      unfold nmOk
      constructor
      · rintro ⟨⟨⟨k1, k2⟩, k3⟩, k4⟩
        have hne : x.n.length ≠ 0 := fun e => by
          have : x.n = [] := List.length_eq_zero_iff.1 e
          rw [this] at k3
          exact absurd k3 (by decide)
        exact ⟨k1, iff_of_true h2 hne, .inr k2, fun _ => ⟨k3, by omega⟩, fun e => absurd e h1⟩
      · rintro ⟨k1, k2, k3, k4, _⟩
        exact ⟨⟨⟨k1, k3.resolve_left h1⟩, (k4 h2).1⟩, by have := (k4 h2).2; omega⟩
    have h2 : ¬ x.op = 2 := of_decide_eq_false hc
    clear hc
    repeat' (first | refine tr_seq ?_ | refine tr_block ?_ | refine tr_skip ?_)
    first | refine reg (T := tab) tOk hnt rfl ?_ ?_ | refine regD (T := tab) tOk mixedR hnt rfl (by decide +kernel) ?_ ?_
    · (dsimp only [AllP]; (repeat' first | exact trivial | assumption | exact Nat.le_of_ble_eq_true rfl | apply And.intro | exact eCells_len1 _ _ ‹_› | exact eCells_isByte _ _ ‹_› | (intro hh_; have hg_ := hh_; (try simp only [condT_ff, condF_tt, notE_t, notE_f, Bool.and_eq_true, ne_eq, decide_eq_true_eq, decide_eq_false_iff_not] at hg_)) | intro _ | exact rfl | omega))
    repeat' (first | refine tr_seq ?_ | refine tr_block ?_ | refine tr_skip ?_)
    refine ⟨decide (nodeF x = 0), rfl, le_of (ad := []) ⟨⟨rfl, rfl, rfl, rfl, rfl⟩, ?_, rfl, rfl, trivial⟩ (memOk_box rfl rfl rfl trivial)⟩
    refine congrArg (fun z : Bool => E.v (.bool z)) ?_
    show (bif bif decide (((eExs x.ar).length : Int) = wantF x.op) then strEq (strB x.n) ⟨#[]⟩ else false then zvB x.v else false) = _
    rw [strEq_nil, zvB_eq, hml]
    refine dec_iff ?_
    simp only [condT_tt, condT_ff, condF_tt, condF_ff, notE_t, notE_f, decide_eq_true_eq, decide_eq_false_iff_not]
    rw [z2]
    constructor
    · rintro ⟨⟨k1, k2⟩, k3⟩
      exact ⟨k1, by omega, .inr k3, fun e => absurd e h2, fun e => absurd e h1⟩
    · rintro ⟨k1, k2, k3, _, _⟩
      exact ⟨⟨k1, by omega⟩, k3.resolve_left h1⟩
  rintro y rfl
  clear hw hw1 hw2 e1 z2
  repeat' (first | refine tr_seq ?_ | refine reg (T := tab) tOk hnt rfl ?_ ?_ | refine regD (T := tab) tOk mixedR hnt rfl (by decide +kernel) ?_ ?_ | refine tr_block ?_ | refine tr_skip ?_)
  · (dsimp only [AllP]; (repeat' first | exact trivial | assumption | exact Nat.le_of_ble_eq_true rfl | apply And.intro | decide | intro _ | exact rfl))
  rcases z1 with z1 | z1
  case inr =>
    rw [z1]
    refine tr_cond rfl (fun _ => ?_) (fun h => nomatch (show true = false from h))
    repeat' (first | refine tr_seq ?_ | refine reg (T := tab) tOk hnt rfl ?_ ?_ | refine regD (T := tab) tOk mixedR hnt rfl (by decide +kernel) ?_ ?_ | refine tr_block ?_ | refine tr_skip ?_)
    · (dsimp only [AllP]; (repeat' first | exact trivial | assumption | exact Nat.le_of_ble_eq_true rfl | apply And.intro | decide | intro _ | exact rfl))
    exact tr_ret ⟨.inr rfl, _, _, rfl, trivial, rfl⟩
  rw [z1]
  refine tr_cond rfl (fun h => nomatch (show false = true from h)) (fun _ => ?_)
  rw [if_neg (by decide)]
  repeat' (first | refine tr_seq ?_ | refine tr_block ?_ | refine tr_skip ?_)
  first | refine reg (T := tab) tOk hnt rfl ?_ ?_ | refine regD (T := tab) tOk mixedR hnt rfl (by decide +kernel) ?_ ?_
  · (dsimp only [AllP]; (repeat' first | exact trivial | assumption | exact Nat.le_of_ble_eq_true rfl | apply And.intro | exact eCells_len1 _ _ ‹_› | exact eCells_isByte _ _ ‹_› | (intro hh_; have hg_ := hh_; (try simp only [condT_ff, condF_tt, notE_t, notE_f, Bool.and_eq_true, ne_eq, decide_eq_true_eq, decide_eq_false_iff_not] at hg_)) | intro _ | exact rfl | omega))
  repeat' (first | refine tr_seq ?_ | refine tr_block ?_ | refine tr_skip ?_)
  refine tr_loop (σ := Nat) (fun i => St.of [(85, .one (.e (.sl (eExs x.ar)))), (86, .one (.e (eI ((eExs x.ar).length : Int)))), (87, .one (.e (eI (i : Int)))), ((1000000 + 0), .one (.eptr fsE)), ((1000000 + 1), .one (.eptr acE))] []) (fun i => i ≤ x.ar.length ∧ ndL (x.ar.drop i) = ndL x.ar) (fun i => x.ar.length - i) (0) (le_of (ad := []) (by refine ⟨?_, ?_, ?_, ?_, ?_, trivial⟩ <;> first | exact trivial | rfl | exact ⟨rfl, rfl⟩ | exact ⟨rfl, rfl, rfl⟩ | exact ⟨rfl, rfl, rfl, rfl⟩ | exact ⟨rfl, rfl, rfl, rfl, rfl⟩ | exact congrArg (fun z : Int => E.v (.int .i64 z)) (wrap64_id (by omega) (by omega))) trivial) ⟨Nat.zero_le _, rfl⟩ ?_
  rintro i ⟨il, hi⟩
  repeat' (first | refine tr_seq ?_ | refine reg (T := tab) tOk hnt rfl ?_ ?_ | refine regD (T := tab) tOk mixedR hnt rfl (by decide +kernel) ?_ ?_ | refine tr_block ?_ | refine tr_skip ?_)
  · (dsimp only [AllP]; (repeat' first | exact trivial | assumption | exact Nat.le_of_ble_eq_true rfl | apply And.intro | decide | intro _ | exact rfl))
  repeat' (first | refine tr_seq ?_ | refine tr_block ?_ | refine tr_skip ?_)
  refine tr_cond rfl (fun hc => ?_) (fun hc => ?_)
  · simp only [condT_tt, condT_ff, condF_tt, condF_ff, notE_t, notE_f, decide_eq_true_eq, decide_eq_false_iff_not] at hc
    (try simp only [hml] at hc)
    (try simp only [condT_tt, condT_ff, condF_tt, condF_ff, notE_t, notE_f, decide_eq_true_eq, decide_eq_false_iff_not] at hc)
    have hlt : i < x.ar.length := by omega
    have hg := (exsGet x.ar i hlt).trans (eEx_eq _)
    have hf := ih _ (getD_mem (d := ex0) hlt)
    rw [drop_getD (d := ex0) hlt, ndL] at hi
    repeat' (first | refine tr_seq ?_ | refine tr_block ?_ | refine tr_skip ?_)
    first | refine reg (T := tab) tOk hnt rfl ?_ ?_ | refine regD (T := tab) tOk mixedR hnt rfl (by decide +kernel) ?_ ?_
    · rw [Int.toNat_natCast, hg, hml]
      (dsimp only [AllP]; (repeat' first | exact trivial | assumption | exact Nat.le_of_ble_eq_true rfl | apply And.intro | exact eCells_len1 _ _ ‹_› | exact eCells_isByte _ _ ‹_› | (intro hh_; have hg_ := hh_; (try simp only [condT_ff, condF_tt, notE_t, notE_f, Bool.and_eq_true, ne_eq, decide_eq_true_eq, decide_eq_false_iff_not] at hg_)) | intro _ | exact rfl | omega))
    rw [Int.toNat_natCast, hg]
    rw [eEx_eq] at hf
    generalize x.ar.getD i ex0 = a at *
    repeat' (first | refine tr_seq ?_ | refine tr_block ?_ | refine tr_skip ?_)
    refine tr_region (lex (T := tab) tOk hnt rfl ?_ (callV rfl rfl rfl rfl rfl rfl rfl hnt rfl (hf) (lex (T := tab) tOk hnt rfl ?_ (Lex.nil _)))) ?_
    · (dsimp only [AllP]; (repeat' first | exact trivial | assumption | exact Nat.le_of_ble_eq_true rfl | apply And.intro | decide | intro _ | exact rfl))
    · (dsimp only [AllP]; (repeat' first | exact trivial | assumption | exact Nat.le_of_ble_eq_true rfl | apply And.intro | decide | intro _ | exact rfl))
    repeat' (first | refine tr_seq ?_ | refine reg (T := tab) tOk hnt rfl ?_ ?_ | refine regD (T := tab) tOk mixedR hnt rfl (by decide +kernel) ?_ ?_ | refine tr_block ?_ | refine tr_skip ?_)
    · (dsimp only [AllP]; (repeat' first | exact trivial | assumption | exact Nat.le_of_ble_eq_true rfl | apply And.intro | decide | intro _ | exact rfl))
    repeat' (first | refine tr_seq ?_ | refine tr_block ?_ | refine tr_skip ?_)
    refine tr_cond rfl (fun hc => ?_) (fun hc => ?_)
    · simp only [condT_tt, condT_ff, condF_tt, condF_ff, notE_t, notE_f, decide_eq_true_eq, decide_eq_false_iff_not] at hc
      rw [if_pos hc] at hi
      rw [← hi]
      repeat' (first | refine tr_seq ?_ | refine reg (T := tab) tOk hnt rfl ?_ ?_ | refine regD (T := tab) tOk mixedR hnt rfl (by decide +kernel) ?_ ?_ | refine tr_block ?_ | refine tr_skip ?_)
      · (dsimp only [AllP]; (repeat' first | exact trivial | assumption | exact Nat.le_of_ble_eq_true rfl | apply And.intro | decide | intro _ | exact rfl))
      exact tr_ret ⟨.inr rfl, _, _, rfl, trivial, rfl⟩
    simp only [condT_tt, condT_ff, condF_tt, condF_ff, notE_t, notE_f, decide_eq_true_eq, decide_eq_false_iff_not] at hc
    rw [if_neg (not_not_intro hc)] at hi
    repeat' (first | refine tr_seq ?_ | refine reg (T := tab) tOk hnt rfl ?_ ?_ | refine regD (T := tab) tOk mixedR hnt rfl (by decide +kernel) ?_ ?_ | refine tr_block ?_ | refine tr_skip ?_)
    · (dsimp only [AllP]; (repeat' first | exact trivial | assumption | exact Nat.le_of_ble_eq_true rfl | apply And.intro | decide | intro _ | exact rfl))
    refine ⟨i + 1, ⟨by omega, hi⟩, by omega, le_of (ad := []) (by refine ⟨?_, ?_, ?_, ?_, ?_, trivial⟩ <;> first | exact trivial | rfl | exact ⟨rfl, rfl⟩ | exact ⟨rfl, rfl, rfl⟩ | exact ⟨rfl, rfl, rfl, rfl⟩ | exact ⟨rfl, rfl, rfl, rfl, rfl⟩ | exact congrArg (fun z : Int => E.v (.int .i64 z)) (wrap64_id (by omega) (by omega))) trivial⟩
  simp only [condT_tt, condT_ff, condF_tt, condF_ff, notE_t, notE_f, decide_eq_true_eq, decide_eq_false_iff_not] at hc
  (try simp only [hml] at hc)
  (try simp only [condT_tt, condT_ff, condF_tt, condF_ff, notE_t, notE_f, decide_eq_true_eq, decide_eq_false_iff_not] at hc)
  refine tr_exit ?_
  rw [← hi, List.drop_eq_nil_of_le (by omega), ndL]
  repeat' (first | refine tr_seq ?_ | refine reg (T := tab) tOk hnt rfl ?_ ?_ | refine regD (T := tab) tOk mixedR hnt rfl (by decide +kernel) ?_ ?_ | refine tr_block ?_ | refine tr_skip ?_)
  · (dsimp only [AllP]; (repeat' first | exact trivial | assumption | exact Nat.le_of_ble_eq_true rfl | apply And.intro | decide | intro _ | exact rfl))
  exact tr_ret ⟨.inr rfl, _, _, rfl, trivial, rfl⟩
theorem nodeFault_all : ∀ (m : Nat) (x : Ex), nodes x ≤ m → exOk x → FnG Tryd.prog 37 gK [.agg (.es (eEx x))] (.one (.e (eI (ndF x))))
  | 0, x, h, _ => absurd h (by have := nodes_pos x; omega)
  | m + 1, x, h, ho => nodeFault_step x (exOk_parts ho).1.1 (exOk_kids ho).1 (exOk_parts ho).2 fun a ha => nodeFault_all m a (kid_nodes h ha) ((exOk_kids ho).2 a ha)
set_option maxRecDepth 10000 in
set_option maxHeartbeats 2000000 in
theorem exprFault_fn (x : Ex) (h : exOk x) : FnG Tryd.prog 13 gK [.agg (.es (eEx x))] (.one (.e (eI (exF x)))) := by
  refine fn_introG (T := tab) tOk Tryd.func13 rfl (by kernel_rfl) (by simp [Tryd.ntmps13]) ?_
  intro X hX
  have hnt : X.nt = 8 := hX
  clear hX
  have h1 := within_fn x
  have h2 := nodeFault_all (nodes x) x (Nat.le_refl _) h
  unfold exF
  rw [← exAll x] at h1 h2
  have hx7 := ex7 x
  have f2 : 0 + 7 ≤ (Cs.es (eEx x)).len := by show 0 + 7 ≤ (eEx x).length; rw [hx7]; exact Nat.le_refl _
  repeat' (first | refine tr_seq ?_ | refine reg (T := tab) tOk hnt rfl ?_ ?_ | refine regD (T := tab) tOk mixedR hnt rfl (by decide +kernel) ?_ ?_ | refine tr_block ?_ | refine tr_skip ?_)
  · (dsimp only [AllP]; (repeat' first | exact trivial | assumption | exact Nat.le_of_ble_eq_true rfl | apply And.intro | decide | intro _ | exact rfl))
  by_cases hs : ht x ≤ 7 ∧ nodes x ≤ 40
  · rw [decide_eq_true hs] at h1
    rw [if_pos hs]
    repeat' (first | refine tr_seq ?_ | refine tr_block ?_ | refine tr_skip ?_)
    refine tr_region (lex (T := tab) tOk hnt rfl ?_ (call rfl rfl rfl rfl rfl rfl rfl hnt (h1) (lex (T := tab) tOk hnt rfl ?_ (Lex.nil _)))) ?_
    · (dsimp only [AllP]; (repeat' first | exact trivial | assumption | exact Nat.le_of_ble_eq_true rfl | apply And.intro | exact eCells_len1 _ _ ‹_› | exact eCells_isByte _ _ ‹_› | (intro hh_; have hg_ := hh_; (try simp only [condT_ff, condF_tt, notE_t, notE_f, Bool.and_eq_true, ne_eq, decide_eq_true_eq, decide_eq_false_iff_not] at hg_)) | intro _ | exact rfl | omega))
    · (dsimp only [AllP]; (repeat' first | exact trivial | assumption | exact Nat.le_of_ble_eq_true rfl | apply And.intro | decide | intro _ | exact rfl))
    refine tr_cond rfl (fun h => nomatch (show false = true from h)) (fun _ => ?_)
    repeat' (first | refine tr_seq ?_ | refine tr_block ?_ | refine tr_skip ?_)
    refine tr_region (lex (T := tab) tOk hnt rfl ?_ (callV rfl rfl rfl rfl rfl rfl rfl hnt rfl (h2) (lex (T := tab) tOk hnt rfl ?_ (Lex.nil _)))) ?_
    · (dsimp only [AllP]; (repeat' first | exact trivial | assumption | exact Nat.le_of_ble_eq_true rfl | apply And.intro | exact eCells_len1 _ _ ‹_› | exact eCells_isByte _ _ ‹_› | (intro hh_; have hg_ := hh_; (try simp only [condT_ff, condF_tt, notE_t, notE_f, Bool.and_eq_true, ne_eq, decide_eq_true_eq, decide_eq_false_iff_not] at hg_)) | intro _ | exact rfl | omega))
    · (dsimp only [AllP]; (repeat' first | exact trivial | assumption | exact Nat.le_of_ble_eq_true rfl | apply And.intro | decide | intro _ | exact rfl))
    exact tr_ret ⟨.inr rfl, _, _, rfl, trivial, rfl⟩
  · rw [decide_eq_false hs] at h1
    rw [if_neg hs]
    repeat' (first | refine tr_seq ?_ | refine tr_block ?_ | refine tr_skip ?_)
    refine tr_region (lex (T := tab) tOk hnt rfl ?_ (call rfl rfl rfl rfl rfl rfl rfl hnt (h1) (lex (T := tab) tOk hnt rfl ?_ (Lex.nil _)))) ?_
    · (dsimp only [AllP]; (repeat' first | exact trivial | assumption | exact Nat.le_of_ble_eq_true rfl | apply And.intro | exact eCells_len1 _ _ ‹_› | exact eCells_isByte _ _ ‹_› | (intro hh_; have hg_ := hh_; (try simp only [condT_ff, condF_tt, notE_t, notE_f, Bool.and_eq_true, ne_eq, decide_eq_true_eq, decide_eq_false_iff_not] at hg_)) | intro _ | exact rfl | omega))
    · (dsimp only [AllP]; (repeat' first | exact trivial | assumption | exact Nat.le_of_ble_eq_true rfl | apply And.intro | decide | intro _ | exact rfl))
    refine tr_cond rfl (fun _ => ?_) (fun h => nomatch (show true = false from h))
    repeat' (first | refine tr_seq ?_ | refine reg (T := tab) tOk hnt rfl ?_ ?_ | refine regD (T := tab) tOk mixedR hnt rfl (by decide +kernel) ?_ ?_ | refine tr_block ?_ | refine tr_skip ?_)
    · (dsimp only [AllP]; (repeat' first | exact trivial | assumption | exact Nat.le_of_ble_eq_true rfl | apply And.intro | decide | intro _ | exact rfl))
    exact tr_ret ⟨.inr rfl, _, _, rfl, trivial, rfl⟩
end Go.Proofs.YtcjeeoimjkhijaaDoor
