/- Expressions: their size and depth. No condition. -/
import Derived.Test.YtcjeeoimjkhijaaDoorAbZ
import Derived.Test.YtcjeeoimjkhijaaDoorTKi2
namespace Go.Proofs.YtcjeeoimjkhijaaDoor
open Go Go.RowKit Go.Proofs.YtcjeeoimjkhijaaDoor.Ab
set_option linter.unusedSimpArgs false
set_option linter.unusedVariables false

inductive Ex where
  | mk (op : Int) (v : Val) (n : Byt) (ar : List Ex)
def Ex.op : Ex → Int | .mk o _ _ _ => o
def Ex.v : Ex → Val | .mk _ v _ _ => v
def Ex.n : Ex → Byt | .mk _ _ n _ => n
def Ex.ar : Ex → List Ex | .mk _ _ _ a => a
def ex0 : Ex := .mk 0 val0 [] []
mutual
def eEx : Ex → List E
  | .mk op v n ar => [eI op, eI v.k, eI v.i, eQ v.b, eT v.t, eT n, .sl (eExs ar)]
def eExs : List Ex → List (List E)
  | [] => []
  | a :: r => eEx a :: eExs r
end
mutual
def nodes : Ex → Nat
  | .mk _ _ _ ar => 1 + nodesL ar
def nodesL : List Ex → Nat
  | [] => 0
  | a :: r => nodes a + nodesL r
end
mutual
def ht : Ex → Nat
  | .mk _ _ _ ar => 1 + htL ar
def htL : List Ex → Nat
  | [] => 0
  | a :: r => max (ht a) (htL r)
end
mutual
/-- numbers in their bounds, texts not too long -/
def exOk : Ex → Prop
  | .mk op v n ar => (-9223372036854775808 ≤ op ∧ op ≤ 9223372036854775807) ∧ v.fit ∧ n.length ≤ maxLen ∧ ar.length ≤ maxLen ∧ exOkL ar
def exOkL : List Ex → Prop
  | [] => True
  | a :: r => exOk a ∧ exOkL r
end
theorem eEx_eq (x : Ex) : eEx x = [eI x.op, eI x.v.k, eI x.v.i, eQ x.v.b, eT x.v.t, eT x.n, .sl (eExs x.ar)] := by cases x; rw [eEx]; rfl
theorem eExs_map : ∀ l : List Ex, eExs l = l.map eEx
  | [] => rfl
  | a :: r => by rw [eExs, eExs_map r]; rfl
theorem exsLen (l : List Ex) : (eExs l).length = l.length := by rw [eExs_map, List.length_map]
theorem exsGet (l : List Ex) (i : Nat) (h : i < l.length) : (eExs l).getD i [] = eEx (l.getD i ex0) := by
  rw [eExs_map, List.getD_eq_getElem?_getD, List.getElem?_map, List.getElem?_eq_getElem h, List.getD_eq_getElem?_getD, List.getElem?_eq_getElem h]
  rfl
theorem ex7 (x : Ex) : (eEx x).length = 7 := by rw [eEx_eq]; rfl
theorem exs7 (l : List Ex) : ∀ cs ∈ eExs l, cs.length = 7 := by
  intro cs h
  rw [eExs_map] at h
  obtain ⟨q, _, rfl⟩ := List.mem_map.1 h
  exact ex7 q
theorem nodes_eq (x : Ex) : nodes x = 1 + nodesL x.ar := by cases x; rw [nodes]; rfl
theorem ht_eq (x : Ex) : ht x = 1 + htL x.ar := by cases x; rw [ht]; rfl
theorem nodes_mem : ∀ {l : List Ex} {a : Ex}, a ∈ l → nodes a ≤ nodesL l
  | b :: r, a, h => by
    rw [nodesL]
    rcases List.mem_cons.1 h with rfl | h
    · omega
    · have := nodes_mem h
      omega
theorem ht_mem : ∀ {l : List Ex} {a : Ex}, a ∈ l → ht a ≤ htL l
  | b :: r, a, h => by
    rw [htL]
    rcases List.mem_cons.1 h with rfl | h
    · omega
    · have := ht_mem h
      omega
theorem nodesL_app : ∀ l r : List Ex, nodesL (l ++ r) = nodesL l + nodesL r
  | [], r => by rw [List.nil_append, nodesL]; omega
  | a :: l, r => by rw [List.cons_append, nodesL, nodesL_app l r, nodesL]; omega
theorem htL_app : ∀ l r : List Ex, htL (l ++ r) = max (htL l) (htL r)
  | [], r => by rw [List.nil_append, htL]; omega
  | a :: l, r => by rw [List.cons_append, htL, htL_app l r, htL]; omega
theorem exOk_eq (x : Ex) : exOk x ↔ (-9223372036854775808 ≤ x.op ∧ x.op ≤ 9223372036854775807) ∧ x.v.fit ∧ x.n.length ≤ maxLen ∧ x.ar.length ≤ maxLen ∧ exOkL x.ar := by cases x; rw [exOk]; exact Iff.rfl
theorem exOk_mem : ∀ {l : List Ex} {a : Ex}, exOkL l → a ∈ l → exOk a
  | b :: r, a, hl, h => by
    rw [exOkL] at hl
    rcases List.mem_cons.1 h with rfl | h
    · exact hl.1
    · exact exOk_mem hl.2 h
theorem getD_mem {α : Type} {l : List α} {i : Nat} {d : α} (h : i < l.length) : l.getD i d ∈ l := by
  rw [List.getD_eq_getElem?_getD, List.getElem?_eq_getElem h]
  exact List.getElem_mem h
theorem exBox (x : Ex) (z : List E) (hz : z.length = 7) : List.take 0 z ++ List.take 7 (List.drop 0 (eEx x)) ++ List.drop (0 + 7) z = eEx x := by
  have h1 : List.take 7 (List.drop 0 (eEx x)) = eEx x := by
    rw [List.drop_zero]
    exact List.take_of_length_le (by rw [ex7]; exact Nat.le_refl _)
  have h2 : List.drop (0 + 7) z = [] := List.drop_eq_nil_of_le (by omega)
  rw [h1, h2]
  simp
theorem exAll (x : Ex) : List.take 7 (List.drop 0 (eEx x)) = eEx x := by
  rw [List.drop_zero]
  exact List.take_of_length_le (by rw [ex7]; exact Nat.le_refl _)
def eBl2 (n : Nat) (b : Bool) : D := .tup [(false, .es [eI (n : Int)]), (false, .es [eBl b])]
def sizF (x : Ex) (d : Nat) : Nat × Bool := if d + ht x ≤ 8 ∧ nodes x ≤ 40 then (nodes x, true) else (0, false)
def rSz (r : Nat × Bool) : D := eBl2 r.1 r.2
set_option maxRecDepth 10000 in
set_option maxHeartbeats 2000000 in
theorem size_step (x : Ex) (d : Nat) (hL : x.ar.length ≤ maxLen) (ih : ∀ a ∈ x.ar, FnD Tryd.prog 34 [.agg (.es (eEx a)), .one (.e (eI ((d + 1 : Nat) : Int)))] (rSz (sizF a (d + 1)))) : FnD Tryd.prog 34 [.agg (.es (eEx x)), .one (.e (eI (d : Int)))] (rSz (sizF x d)) := by
  refine fn_intro (T := tab) tOk Tryd.func34 rfl (by kernel_rfl) (by simp [Tryd.ntmps34]) ?_
  intro X hX
  have hnt : X.nt = 38 := hX
  clear hX
  have hml := exsLen x.ar
  unfold sizF
  have hn := nodes_eq x
  have hh := ht_eq x
  unfold maxLen at hL
  rw [eEx_eq]
  repeat' (first | refine tr_seq ?_ | refine reg (T := tab) tOk hnt rfl ?_ ?_ | refine regD (T := tab) tOk mixedR hnt rfl (by decide +kernel) ?_ ?_ | refine tr_block ?_ | refine tr_skip ?_)
  · (dsimp only [AllP]; (repeat' first | exact trivial | assumption | exact Nat.le_of_ble_eq_true rfl | apply And.intro | decide | intro _ | exact rfl))
  · (dsimp only [AllP]; (repeat' first | exact trivial | assumption | exact Nat.le_of_ble_eq_true rfl | apply And.intro | decide | intro _ | exact rfl))
  repeat' (first | refine tr_seq ?_ | refine tr_block ?_ | refine tr_skip ?_)
  refine tr_cond rfl (fun hc => ?_) (fun hc => ?_)
  · simp only [condT_tt, condT_ff, condF_tt, condF_ff, notE_t, notE_f, decide_eq_true_eq, decide_eq_false_iff_not] at hc
    rw [if_neg (by omega)]
    repeat' (first | refine tr_seq ?_ | refine reg (T := tab) tOk hnt rfl ?_ ?_ | refine regD (T := tab) tOk mixedR hnt rfl (by decide +kernel) ?_ ?_ | refine tr_block ?_ | refine tr_skip ?_)
    · (dsimp only [AllP]; (repeat' first | exact trivial | assumption | exact Nat.le_of_ble_eq_true rfl | apply And.intro | decide | intro _ | exact rfl))
    exact tr_ret ⟨.inr rfl, _, _, rfl, trivial, rfl⟩
  simp only [condT_tt, condT_ff, condF_tt, condF_ff, notE_t, notE_f, decide_eq_true_eq, decide_eq_false_iff_not] at hc
  repeat' (first | refine tr_seq ?_ | refine reg (T := tab) tOk hnt rfl ?_ ?_ | refine regD (T := tab) tOk mixedR hnt rfl (by decide +kernel) ?_ ?_ | refine tr_block ?_ | refine tr_skip ?_)
  · (dsimp only [AllP]; (repeat' first | exact trivial | assumption | exact Nat.le_of_ble_eq_true rfl | apply And.intro | decide | intro _ | exact rfl))
  · (dsimp only [AllP]; (repeat' first | exact trivial | assumption | exact Nat.le_of_ble_eq_true rfl | apply And.intro | decide | intro _ | exact rfl))
  repeat' (first | refine tr_seq ?_ | refine tr_block ?_ | refine tr_skip ?_)
  refine tr_loop (σ := Nat) (fun i => St.of [(1, .one (.e (eI (d : Int)))), (6, .one (.e (eI ((1 + nodesL (x.ar.take i) : Nat) : Int)))), (14, .one (.e (.sl (eExs x.ar)))), (15, .one (.e (eI ((eExs x.ar).length : Int)))), (16, .one (.e (eI (i : Int))))] []) (fun i => i ≤ x.ar.length ∧ d + htL (x.ar.take i) ≤ 7 ∧ 1 + nodesL (x.ar.take i) ≤ 40) (fun i => x.ar.length - i) (0) (le_of (ad := []) (by refine ⟨?_, ?_, ?_, ?_, ?_, trivial⟩ <;> first | exact trivial | rfl | exact ⟨rfl, rfl⟩ | exact ⟨rfl, rfl, rfl⟩ | exact ⟨rfl, rfl, rfl, rfl⟩ | exact ⟨rfl, rfl, rfl, rfl, rfl⟩ | exact congrArg (fun z : Int => E.v (.int .i64 z)) (wrap64_id (by omega) (by omega))) trivial) ⟨Nat.zero_le _, by rw [List.take_zero, htL]; omega, by rw [List.take_zero, nodesL]; omega⟩ ?_
  rintro i ⟨il, ih1, ih2⟩
  repeat' (first | refine tr_seq ?_ | refine reg (T := tab) tOk hnt rfl ?_ ?_ | refine regD (T := tab) tOk mixedR hnt rfl (by decide +kernel) ?_ ?_ | refine tr_block ?_ | refine tr_skip ?_)
  · (dsimp only [AllP]; (repeat' first | exact trivial | assumption | exact Nat.le_of_ble_eq_true rfl | apply And.intro | decide | intro _ | exact rfl))
  repeat' (first | refine tr_seq ?_ | refine tr_block ?_ | refine tr_skip ?_)
  refine tr_cond rfl (fun hc => ?_) (fun hc => ?_)
  · simp only [condT_tt, condT_ff, condF_tt, condF_ff, notE_t, notE_f, decide_eq_true_eq, decide_eq_false_iff_not] at hc
    (try simp only [hml] at hc)
    (try simp only [condT_tt, condT_ff, condF_tt, condF_ff, notE_t, notE_f, decide_eq_true_eq, decide_eq_false_iff_not] at hc)
    have hlt : i < x.ar.length := by omega
    have hg := (exsGet x.ar i hlt).trans (eEx_eq _)
    have hmem := getD_mem (d := ex0) hlt
    have hf := ih _ hmem
    have t1 : htL (x.ar.take (i + 1)) = max (htL (x.ar.take i)) (ht (x.ar.getD i ex0)) := by
      rw [take_succ (d := ex0) hlt, htL_app, htL, htL]
      omega
    have t2 : nodesL (x.ar.take (i + 1)) = nodesL (x.ar.take i) + nodes (x.ar.getD i ex0) := by
      rw [take_succ (d := ex0) hlt, nodesL_app, nodesL, nodesL]
      omega
    have m1 := nodes_mem hmem
    have m2 := ht_mem hmem
    have m3 : nodesL (x.ar.take (i + 1)) ≤ nodesL x.ar := by
      have := nodesL_app (x.ar.take (i + 1)) (x.ar.drop (i + 1))
      rw [List.take_append_drop] at this
      omega
    repeat' (first | refine tr_seq ?_ | refine tr_block ?_ | refine tr_skip ?_)
    first | refine reg (T := tab) tOk hnt rfl ?_ ?_ | refine regD (T := tab) tOk mixedR hnt rfl (by decide +kernel) ?_ ?_
    · rw [Int.toNat_natCast, hg, hml]
      (dsimp only [AllP]; (repeat' first | exact trivial | assumption | exact Nat.le_of_ble_eq_true rfl | apply And.intro | exact eCells_len1 _ _ ‹_› | exact eCells_isByte _ _ ‹_› | (intro hh_; have hg_ := hh_; (try simp only [condT_ff, condF_tt, notE_t, notE_f, Bool.and_eq_true, ne_eq, decide_eq_true_eq, decide_eq_false_iff_not] at hg_)) | intro _ | exact rfl | omega))
    rw [Int.toNat_natCast, hg]
    have hw : IntKind.i64.wrap ((d : Int) + 1) = ((d + 1 : Nat) : Int) := by rw [wrap64_id (by omega) (by omega)]; rfl
    rw [← hw, eEx_eq] at hf
    generalize x.ar.getD i ex0 = a at *
    unfold sizF at hf
    by_cases hs : d + 1 + ht a ≤ 8 ∧ nodes a ≤ 40
    · rw [if_pos hs] at hf
      repeat' (first | refine tr_seq ?_ | refine tr_block ?_ | refine tr_skip ?_)
      refine tr_region (lex (T := tab) tOk hnt rfl ?_ (call rfl rfl rfl rfl rfl rfl rfl hnt (hf) (lex (T := tab) tOk hnt rfl ?_ (Lex.nil _)))) ?_
      · (dsimp only [AllP]; (repeat' first | exact trivial | assumption | exact Nat.le_of_ble_eq_true rfl | apply And.intro | decide | intro _ | exact rfl))
      · (dsimp only [AllP]; (repeat' first | exact trivial | assumption | exact Nat.le_of_ble_eq_true rfl | apply And.intro | decide | intro _ | exact rfl))
      have hw2 : IntKind.i64.wrap (((1 + nodesL (List.take i x.ar) : Nat) : Int) + (nodes a : Int)) = ((1 + nodesL (List.take (i + 1) x.ar) : Nat) : Int) := by rw [wrap64_id (by omega) (by omega)]; omega
      repeat' (first | refine tr_seq ?_ | refine tr_block ?_ | refine tr_skip ?_)
      first | refine reg (T := tab) tOk hnt rfl ?_ ?_ | refine regD (T := tab) tOk mixedR hnt rfl (by decide +kernel) ?_ ?_
      · (dsimp only [AllP]; (repeat' first | exact trivial | assumption | exact Nat.le_of_ble_eq_true rfl | apply And.intro | decide | intro _ | exact rfl))
      rw [hw2]
      repeat' (first | refine tr_seq ?_ | refine tr_block ?_ | refine tr_skip ?_)
      first | refine reg (T := tab) tOk hnt rfl ?_ ?_ | refine regD (T := tab) tOk mixedR hnt rfl (by decide +kernel) ?_ ?_
      · (dsimp only [AllP]; (repeat' first | exact trivial | assumption | exact Nat.le_of_ble_eq_true rfl | apply And.intro | decide | intro _ | exact rfl))
      repeat' (first | refine tr_seq ?_ | refine tr_block ?_ | refine tr_skip ?_)
      refine tr_cond rfl (fun hc => ?_) (fun hc => ?_)
      · simp only [condT_tt, condT_ff, condF_tt, condF_ff, notE_t, notE_f, decide_eq_true_eq, decide_eq_false_iff_not] at hc
        have hc : (40 : Int) < ((1 + nodesL (List.take (i + 1) x.ar) : Nat) : Int) := by rcases hc with h | h; cases h; exact h
        rw [if_neg (by omega)]
        repeat' (first | refine tr_seq ?_ | refine reg (T := tab) tOk hnt rfl ?_ ?_ | refine regD (T := tab) tOk mixedR hnt rfl (by decide +kernel) ?_ ?_ | refine tr_block ?_ | refine tr_skip ?_)
        · (dsimp only [AllP]; (repeat' first | exact trivial | assumption | exact Nat.le_of_ble_eq_true rfl | apply And.intro | decide | intro _ | exact rfl))
        exact tr_ret ⟨.inr rfl, _, _, rfl, trivial, rfl⟩
      simp only [condT_tt, condT_ff, condF_tt, condF_ff, notE_t, notE_f, decide_eq_true_eq, decide_eq_false_iff_not] at hc
      repeat' (first | refine tr_seq ?_ | refine reg (T := tab) tOk hnt rfl ?_ ?_ | refine regD (T := tab) tOk mixedR hnt rfl (by decide +kernel) ?_ ?_ | refine tr_block ?_ | refine tr_skip ?_)
      · (dsimp only [AllP]; (repeat' first | exact trivial | assumption | exact Nat.le_of_ble_eq_true rfl | apply And.intro | decide | intro _ | exact rfl))
      refine ⟨i + 1, ⟨by omega, by omega, by omega⟩, by omega, le_of (ad := []) (by refine ⟨?_, ?_, ?_, ?_, ?_, trivial⟩ <;> first | exact trivial | rfl | exact ⟨rfl, rfl⟩ | exact ⟨rfl, rfl, rfl⟩ | exact ⟨rfl, rfl, rfl, rfl⟩ | exact ⟨rfl, rfl, rfl, rfl, rfl⟩ | exact congrArg (fun z : Int => E.v (.int .i64 z)) (wrap64_id (by omega) (by omega))) trivial⟩
    · rw [if_neg hs] at hf
      repeat' (first | refine tr_seq ?_ | refine tr_block ?_ | refine tr_skip ?_)
      refine tr_region (lex (T := tab) tOk hnt rfl ?_ (call rfl rfl rfl rfl rfl rfl rfl hnt (hf) (lex (T := tab) tOk hnt rfl ?_ (Lex.nil _)))) ?_
      · (dsimp only [AllP]; (repeat' first | exact trivial | assumption | exact Nat.le_of_ble_eq_true rfl | apply And.intro | decide | intro _ | exact rfl))
      · (dsimp only [AllP]; (repeat' first | exact trivial | assumption | exact Nat.le_of_ble_eq_true rfl | apply And.intro | decide | intro _ | exact rfl))
      repeat' (first | refine tr_seq ?_ | refine reg (T := tab) tOk hnt rfl ?_ ?_ | refine regD (T := tab) tOk mixedR hnt rfl (by decide +kernel) ?_ ?_ | refine tr_block ?_ | refine tr_skip ?_)
      · (dsimp only [AllP]; (repeat' first | exact trivial | assumption | exact Nat.le_of_ble_eq_true rfl | apply And.intro | decide | intro _ | exact rfl))
      · (dsimp only [AllP]; (repeat' first | exact trivial | assumption | exact Nat.le_of_ble_eq_true rfl | apply And.intro | decide | intro _ | exact rfl))
      refine tr_cond rfl (fun _ => ?_) (fun h => nomatch (show true = false from h))
      rw [if_neg (by omega)]
      repeat' (first | refine tr_seq ?_ | refine reg (T := tab) tOk hnt rfl ?_ ?_ | refine regD (T := tab) tOk mixedR hnt rfl (by decide +kernel) ?_ ?_ | refine tr_block ?_ | refine tr_skip ?_)
      · (dsimp only [AllP]; (repeat' first | exact trivial | assumption | exact Nat.le_of_ble_eq_true rfl | apply And.intro | decide | intro _ | exact rfl))
      exact tr_ret ⟨.inr rfl, _, _, rfl, trivial, rfl⟩
  simp only [condT_tt, condT_ff, condF_tt, condF_ff, notE_t, notE_f, decide_eq_true_eq, decide_eq_false_iff_not] at hc
  (try simp only [hml] at hc)
  (try simp only [condT_tt, condT_ff, condF_tt, condF_ff, notE_t, notE_f, decide_eq_true_eq, decide_eq_false_iff_not] at hc)
  refine tr_exit ?_
  rw [List.take_of_length_le (by omega)] at *
  rw [if_pos ⟨by omega, by omega⟩, hn]
  repeat' (first | refine tr_seq ?_ | refine reg (T := tab) tOk hnt rfl ?_ ?_ | refine regD (T := tab) tOk mixedR hnt rfl (by decide +kernel) ?_ ?_ | refine tr_block ?_ | refine tr_skip ?_)
  · (dsimp only [AllP]; (repeat' first | exact trivial | assumption | exact Nat.le_of_ble_eq_true rfl | apply And.intro | decide | intro _ | exact rfl))
  exact tr_ret ⟨.inr rfl, _, _, rfl, trivial, rfl⟩
theorem exOk_kids {x : Ex} (h : exOk x) : x.ar.length ≤ maxLen ∧ ∀ a ∈ x.ar, exOk a := by
  rw [exOk_eq] at h
  exact ⟨h.2.2.2.1, fun a ha => exOk_mem h.2.2.2.2 ha⟩
theorem kid_nodes {x a : Ex} {m : Nat} (h : nodes x ≤ m + 1) (ha : a ∈ x.ar) : nodes a ≤ m := by
  have := nodes_mem ha
  rw [nodes_eq] at h
  omega
theorem nodes_pos (x : Ex) : 1 ≤ nodes x := by rw [nodes_eq]; omega
theorem size_all : ∀ (m : Nat) (x : Ex), nodes x ≤ m → exOk x → ∀ d : Nat, FnD Tryd.prog 34 [.agg (.es (eEx x)), .one (.e (eI (d : Int)))] (rSz (sizF x d))
  | 0, x, h, _, _ => absurd h (by have := nodes_pos x; omega)
  | m + 1, x, h, ho, d => size_step x d (exOk_kids ho).1 fun a ha => size_all m a (kid_nodes h ha) ((exOk_kids ho).2 a ha) (d + 1)
theorem size_fn (x : Ex) (h : exOk x) (d : Nat) : FnD Tryd.prog 34 [.agg (.es (eEx x)), .one (.e (eI (d : Int)))] (rSz (sizF x d)) := size_all (nodes x) x (Nat.le_refl _) h d
def nxt (l : List Ex) : List Ex := l.flatMap Ex.ar
theorem nxt_cons (a : Ex) (r : List Ex) : nxt (a :: r) = a.ar ++ nxt r := rfl
theorem nodesL_nxt : ∀ l : List Ex, nodesL l = l.length + nodesL (nxt l)
  | [] => rfl
  | a :: r => by rw [nodesL, nodesL_nxt r, nodes_eq, nxt_cons, nodesL_app, List.length_cons]; omega
theorem htL_nxt : ∀ l : List Ex, l ≠ [] → htL l = 1 + htL (nxt l)
  | [], h => absurd rfl h
  | [a], _ => by
    have : nxt [a] = a.ar := List.append_nil _
    rw [htL, htL, ht_eq, this]
    omega
  | a :: b :: r, _ => by rw [htL, htL_nxt (b :: r) (by simp), ht_eq, nxt_cons a (b :: r), htL_app]; omega
theorem nodesL_len : ∀ l : List Ex, l.length ≤ nodesL l := fun l => by rw [nodesL_nxt]; omega
theorem eExs_app : ∀ l r : List Ex, eExs (l ++ r) = eExs l ++ eExs r := fun l r => by rw [eExs_map, List.map_append, ← eExs_map, ← eExs_map]
set_option maxRecDepth 10000 in
set_option maxHeartbeats 2000000 in
theorem within_fn (x : Ex) : FnD Tryd.prog 36 [.agg (.es (eEx x))] (.v (.bool (decide (ht x ≤ 7 ∧ nodes x ≤ 40)))) := by
  refine fn_intro (T := tab) tOk Tryd.func36 rfl (by kernel_rfl) (by simp [Tryd.ntmps36]) ?_
  intro X hX
  have hnt : X.nt = 45 := hX
  clear hX
  have hx7 := ex7 x
  have f1 : (Cs.es (eEx x)).len = 7 := hx7
  have f2 : 0 + 7 ≤ (Cs.es (eEx x)).len := by rw [f1]; exact Nat.le_refl _
  have f3 : (List.take 7 (List.drop 0 (eEx x))).length = 7 := by rw [exAll]; exact hx7
  repeat' (first | refine tr_seq ?_ | refine tr_block ?_ | refine tr_skip ?_)
  first | refine reg (T := tab) tOk hnt rfl ?_ ?_ | refine regD (T := tab) tOk mixedR hnt rfl (by decide +kernel) ?_ ?_
  · (dsimp only [AllP]; (repeat' first | exact trivial | assumption | exact Nat.le_of_ble_eq_true rfl | apply And.intro | decide | intro _ | exact rfl))
  repeat' (first | refine tr_seq ?_ | refine tr_block ?_ | refine tr_skip ?_)
  first | refine reg (T := tab) tOk hnt rfl ?_ ?_ | refine regD (T := tab) tOk mixedR hnt rfl (by decide +kernel) ?_ ?_
  · (dsimp only [AllP]; (repeat' first | exact trivial | assumption | exact Nat.le_of_ble_eq_true rfl | apply And.intro | exact eCells_len1 _ _ ‹_› | exact eCells_isByte _ _ ‹_› | (intro hh_; have hg_ := hh_; (try simp only [condT_ff, condF_tt, notE_t, notE_f, Bool.and_eq_true, ne_eq, decide_eq_true_eq, decide_eq_false_iff_not] at hg_)) | intro _ | exact rfl | omega))
  rw [exAll]
  repeat' (first | refine tr_seq ?_ | refine tr_block ?_ | refine tr_skip ?_)
  first | refine reg (T := tab) tOk hnt rfl ?_ ?_ | refine regD (T := tab) tOk mixedR hnt rfl (by decide +kernel) ?_ ?_
  · (dsimp only [AllP]; (repeat' first | exact trivial | assumption | exact Nat.le_of_ble_eq_true rfl | apply And.intro | decide | intro _ | exact rfl))
  repeat' (first | refine tr_seq ?_ | refine tr_block ?_ | refine tr_skip ?_)
  first | refine reg (T := tab) tOk hnt rfl ?_ ?_ | refine regD (T := tab) tOk mixedR hnt rfl (by decide +kernel) ?_ ?_
  · (dsimp only [AllP]; (repeat' first | exact trivial | assumption | exact Nat.le_of_ble_eq_true rfl | apply And.intro | decide | intro _ | exact rfl))
  refine tr_le (le_frz 3 rfl rfl) ?_
  repeat' (first | refine tr_seq ?_ | refine tr_block ?_ | refine tr_skip ?_)
  refine tr_loop (σ := List Ex × Nat × Nat) (fun y => St.of [(3, .one (.e (.sl (eExs y.1)))), (4, .one (.e (eI (y.2.1 : Int)))), (5, .one (.e (eI (y.2.2 : Int))))] []) (fun y => y.2.1 + nodesL y.1 = nodes x ∧ y.2.2 + htL y.1 = ht x + 1 ∧ y.2.1 ≤ 40 ∧ y.2.2 ≤ 8 ∧ y.1.length ≤ 40) (fun y => nodesL y.1) (([x], 0, 1)) (le_of (ad := []) (by refine ⟨?_, ?_, ?_, trivial⟩ <;> first | exact trivial | rfl | exact ⟨rfl, rfl⟩ | exact ⟨rfl, rfl, rfl⟩ | exact ⟨rfl, rfl, rfl, rfl⟩ | exact ⟨rfl, rfl, rfl, rfl, rfl⟩ | exact congrArg (fun z : Int => E.v (.int .i64 z)) (wrap64_id (by omega) (by omega))) trivial) ⟨by simp [nodesL], by simp [htL]; omega, Nat.zero_le _, Nat.le_of_ble_eq_true rfl, Nat.le_of_ble_eq_true rfl⟩ ?_
  rintro ⟨row, all, deep⟩ ⟨j1, j2, j3, j4, j5⟩
  dsimp only at j1 j2 j3 j4 j5 ⊢
  have hrl := exsLen row
  have hpos := nodesL_nxt row
  repeat' (first | refine tr_seq ?_ | refine reg (T := tab) tOk hnt rfl ?_ ?_ | refine regD (T := tab) tOk mixedR hnt rfl (by decide +kernel) ?_ ?_ | refine tr_block ?_ | refine tr_skip ?_)
  · (dsimp only [AllP]; (repeat' first | exact trivial | assumption | exact Nat.le_of_ble_eq_true rfl | apply And.intro | decide | intro _ | exact rfl))
  repeat' (first | refine tr_seq ?_ | refine tr_block ?_ | refine tr_skip ?_)
  refine tr_cond rfl (fun hc => ?_) (fun hc => ?_)
  · simp only [condT_tt, condT_ff, condF_tt, condF_ff, notE_t, notE_f, decide_eq_true_eq, decide_eq_false_iff_not] at hc
    (try simp only [hrl] at hc)
    (try simp only [condT_tt, condT_ff, condF_tt, condF_ff, notE_t, notE_f, decide_eq_true_eq, decide_eq_false_iff_not] at hc)
    have hne : row ≠ [] := fun e => by rw [e] at hc; simp at hc
    have hht := htL_nxt row hne
    have hw : IntKind.i64.wrap ((all : Int) + ((eExs row).length : Int)) = ((all + row.length : Nat) : Int) := by rw [hrl, wrap64_id (by omega) (by omega)]; rfl
    repeat' (first | refine tr_seq ?_ | refine tr_block ?_ | refine tr_skip ?_)
    first | refine reg (T := tab) tOk hnt rfl ?_ ?_ | refine regD (T := tab) tOk mixedR hnt rfl (by decide +kernel) ?_ ?_
    · (dsimp only [AllP]; (repeat' first | exact trivial | assumption | exact Nat.le_of_ble_eq_true rfl | apply And.intro | decide | intro _ | exact rfl))
    rw [hw]
    repeat' (first | refine tr_seq ?_ | refine tr_block ?_ | refine tr_skip ?_)
    first | refine reg (T := tab) tOk hnt rfl ?_ ?_ | refine regD (T := tab) tOk mixedR hnt rfl (by decide +kernel) ?_ ?_
    · (dsimp only [AllP]; (repeat' first | exact trivial | assumption | exact Nat.le_of_ble_eq_true rfl | apply And.intro | decide | intro _ | exact rfl))
    repeat' (first | refine tr_seq ?_ | refine tr_block ?_ | refine tr_skip ?_)
    refine tr_cond rfl (fun hc => ?_) (fun hc => ?_)
    · simp only [condT_tt, condT_ff, condF_tt, condF_ff, notE_t, notE_f, decide_eq_true_eq, decide_eq_false_iff_not] at hc
      have : ¬ (ht x ≤ 7 ∧ nodes x ≤ 40) := by
        have := htL_nxt row hne
        omega
      rw [decide_eq_false this]
      repeat' (first | refine tr_seq ?_ | refine reg (T := tab) tOk hnt rfl ?_ ?_ | refine regD (T := tab) tOk mixedR hnt rfl (by decide +kernel) ?_ ?_ | refine tr_block ?_ | refine tr_skip ?_)
      · (dsimp only [AllP]; (repeat' first | exact trivial | assumption | exact Nat.le_of_ble_eq_true rfl | apply And.intro | decide | intro _ | exact rfl))
      exact tr_ret ⟨.inr rfl, _, _, rfl, trivial, rfl⟩
    simp only [condT_tt, condT_ff, condF_tt, condF_ff, notE_t, notE_f, decide_eq_true_eq, decide_eq_false_iff_not] at hc
    repeat' (first | refine tr_seq ?_ | refine reg (T := tab) tOk hnt rfl ?_ ?_ | refine regD (T := tab) tOk mixedR hnt rfl (by decide +kernel) ?_ ?_ | refine tr_block ?_ | refine tr_skip ?_)
    · (dsimp only [AllP]; (repeat' first | exact trivial | assumption | exact Nat.le_of_ble_eq_true rfl | apply And.intro | decide | intro _ | exact rfl))
    · (dsimp only [AllP]; (repeat' first | exact trivial | assumption | exact Nat.le_of_ble_eq_true rfl | apply And.intro | decide | intro _ | exact rfl))
    repeat' (first | refine tr_seq ?_ | refine tr_block ?_ | refine tr_skip ?_)
    refine tr_loop (σ := Nat) (fun i => St.of [(4, .one (.e (eI ((all + row.length : Nat) : Int)))), (5, .one (.e (eI (deep : Int)))), (6, .one (.own 91 0)), (26, .one (.e (.sl (eExs row)))), (27, .one (.e (eI ((eExs row).length : Int)))), (28, .one (.e (eI (i : Int))))] [(91, ⟨0, .row 7 (eExs (nxt (row.take i))), 0⟩)]) (fun i => i ≤ row.length ∧ (nxt (row.take i)).length ≤ 40) (fun i => row.length - i) (0) (le_of (ad := [91]) (by refine ⟨?_, ?_, ?_, ?_, ?_, ?_, trivial⟩ <;> first | exact trivial | rfl | exact ⟨rfl, rfl⟩ | exact ⟨rfl, rfl, rfl⟩ | exact ⟨rfl, rfl, rfl, rfl⟩ | exact ⟨rfl, rfl, rfl, rfl, rfl⟩ | exact congrArg (fun z : Int => E.v (.int .i64 z)) (wrap64_id (by omega) (by omega))) (memOk_new rfl (by decide) trivial)) ⟨Nat.zero_le _, Nat.zero_le _⟩ ?_
    rintro i ⟨il, inx⟩
    repeat' (first | refine tr_seq ?_ | refine reg (T := tab) tOk hnt rfl ?_ ?_ | refine regD (T := tab) tOk mixedR hnt rfl (by decide +kernel) ?_ ?_ | refine tr_block ?_ | refine tr_skip ?_)
    · (dsimp only [AllP]; (repeat' first | exact trivial | assumption | exact Nat.le_of_ble_eq_true rfl | apply And.intro | decide | intro _ | exact rfl))
    repeat' (first | refine tr_seq ?_ | refine tr_block ?_ | refine tr_skip ?_)
    refine tr_cond rfl (fun hc => ?_) (fun hc => ?_)
    · simp only [condT_tt, condT_ff, condF_tt, condF_ff, notE_t, notE_f, decide_eq_true_eq, decide_eq_false_iff_not] at hc
      (try simp only [hrl] at hc)
      (try simp only [condT_tt, condT_ff, condF_tt, condF_ff, notE_t, notE_f, decide_eq_true_eq, decide_eq_false_iff_not] at hc)
      have hlt : i < row.length := by omega
      have hg := (exsGet row i hlt).trans (eEx_eq _)
      have ht1 : nxt (row.take (i + 1)) = nxt (row.take i) ++ (row.getD i ex0).ar := by
        rw [take_succ (d := ex0) hlt]
        unfold nxt
        rw [List.flatMap_append]
        simp
      have hsub : (nxt (row.take (i + 1))).length ≤ nodesL (nxt row) := by
        have e : nxt row = nxt (row.take (i + 1)) ++ nxt (row.drop (i + 1)) := by
          unfold nxt
          rw [← List.flatMap_append, List.take_append_drop]
        rw [e, nodesL_app]
        have := nodesL_len (nxt (row.take (i + 1)))
        omega
      rw [ht1, List.length_append] at hsub
      repeat' (first | refine tr_seq ?_ | refine tr_block ?_ | refine tr_skip ?_)
      first | refine reg (T := tab) tOk hnt rfl ?_ ?_ | refine regD (T := tab) tOk mixedR hnt rfl (by decide +kernel) ?_ ?_
      · rw [Int.toNat_natCast, hg, hrl]
        (dsimp only [AllP]; (repeat' first | exact trivial | assumption | exact Nat.le_of_ble_eq_true rfl | apply And.intro | exact eCells_len1 _ _ ‹_› | exact eCells_isByte _ _ ‹_› | (intro hh_; have hg_ := hh_; (try simp only [condT_ff, condF_tt, notE_t, notE_f, Bool.and_eq_true, ne_eq, decide_eq_true_eq, decide_eq_false_iff_not] at hg_)) | intro _ | exact rfl | omega))
      rw [Int.toNat_natCast, hg]
      generalize row.getD i ex0 = a at *
      have hal := exsLen a.ar
      repeat' (first | refine tr_seq ?_ | refine tr_block ?_ | refine tr_skip ?_)
      first | refine reg (T := tab) tOk hnt rfl ?_ ?_ | refine regD (T := tab) tOk mixedR hnt rfl (by decide +kernel) ?_ ?_
      · (dsimp only [AllP]; (repeat' first | exact trivial | assumption | exact Nat.le_of_ble_eq_true rfl | apply And.intro | decide | intro _ | exact rfl))
      repeat' (first | refine tr_seq ?_ | refine tr_block ?_ | refine tr_skip ?_)
      refine tr_cond rfl (fun hc => ?_) (fun hc => ?_)
      · simp only [condT_tt, condT_ff, condF_tt, condF_ff, notE_t, notE_f, decide_eq_true_eq, decide_eq_false_iff_not] at hc
        have hc : (40 : Int) < ((eExs a.ar).length : Int) := hc
        have : ¬ (ht x ≤ 7 ∧ nodes x ≤ 40) := by omega
        rw [decide_eq_false this]
        repeat' (first | refine tr_seq ?_ | refine reg (T := tab) tOk hnt rfl ?_ ?_ | refine regD (T := tab) tOk mixedR hnt rfl (by decide +kernel) ?_ ?_ | refine tr_block ?_ | refine tr_skip ?_)
        · (dsimp only [AllP]; (repeat' first | exact trivial | assumption | exact Nat.le_of_ble_eq_true rfl | apply And.intro | decide | intro _ | exact rfl))
        exact tr_ret ⟨.inr rfl, _, _, rfl, trivial, rfl⟩
      simp only [condT_tt, condT_ff, condF_tt, condF_ff, notE_t, notE_f, decide_eq_true_eq, decide_eq_false_iff_not] at hc
      have hc : ¬ (40 : Int) < ((eExs a.ar).length : Int) := hc
      have e7 : ∀ cs ∈ eExs a.ar, cs.length = 7 := exs7 a.ar
      have hnl := exsLen (nxt (row.take i))
      have b1 : (eExs (nxt (row.take i))).length + (eExs a.ar).length ≤ maxLen := by unfold maxLen; omega
      have b2 : ((eExs (nxt (row.take i))).length + (eExs a.ar).length) * 88 ≤ 140737488355328 := by omega
      repeat' (first | refine tr_seq ?_ | refine tr_block ?_ | refine tr_skip ?_)
      first | refine reg (T := tab) tOk hnt rfl ?_ ?_ | refine regD (T := tab) tOk mixedR hnt rfl (by decide +kernel) ?_ ?_
      · (dsimp only [AllP]; (repeat' first | exact trivial | assumption | exact Nat.le_of_ble_eq_true rfl | apply And.intro | exact eCells_len1 _ _ ‹_› | exact eCells_isByte _ _ ‹_› | (intro hh_; have hg_ := hh_; (try simp only [condT_ff, condF_tt, notE_t, notE_f, Bool.and_eq_true, ne_eq, decide_eq_true_eq, decide_eq_false_iff_not] at hg_)) | intro _ | exact rfl | omega))
      repeat' (first | refine tr_seq ?_ | refine tr_block ?_ | refine tr_skip ?_)
      first | refine reg (T := tab) tOk hnt rfl ?_ ?_ | refine regD (T := tab) tOk mixedR hnt rfl (by decide +kernel) ?_ ?_
      · (dsimp only [AllP]; (repeat' first | exact trivial | assumption | exact Nat.le_of_ble_eq_true rfl | apply And.intro | decide | intro _ | exact rfl))
      have hap : eExs (nxt (row.take (i + 1))) = eExs (nxt (row.take i)) ++ eExs a.ar := by rw [ht1, eExs_app]
      have hnl1 := exsLen (nxt (row.take (i + 1)))
      rw [ht1, List.length_append] at hnl1
      repeat' (first | refine tr_seq ?_ | refine tr_block ?_ | refine tr_skip ?_)
      refine tr_cond rfl (fun hc => ?_) (fun hc => ?_)
      · have hc : decide ((40 : Int) < ((eExs (nxt (row.take i)) ++ eExs a.ar).length : Int)) = true := hc
        simp only [condT_tt, condT_ff, condF_tt, condF_ff, notE_t, notE_f, decide_eq_true_eq, decide_eq_false_iff_not] at hc
        rw [List.length_append] at hc
        have : ¬ (ht x ≤ 7 ∧ nodes x ≤ 40) := by omega
        rw [decide_eq_false this]
        repeat' (first | refine tr_seq ?_ | refine reg (T := tab) tOk hnt rfl ?_ ?_ | refine regD (T := tab) tOk mixedR hnt rfl (by decide +kernel) ?_ ?_ | refine tr_block ?_ | refine tr_skip ?_)
        · (dsimp only [AllP]; (repeat' first | exact trivial | assumption | exact Nat.le_of_ble_eq_true rfl | apply And.intro | decide | intro _ | exact rfl))
        exact tr_ret ⟨.inr rfl, _, _, rfl, trivial, rfl⟩
      have hc : decide ((40 : Int) < ((eExs (nxt (row.take i)) ++ eExs a.ar).length : Int)) = false := hc
      simp only [condT_tt, condT_ff, condF_tt, condF_ff, notE_t, notE_f, decide_eq_true_eq, decide_eq_false_iff_not] at hc
      rw [List.length_append] at hc
      repeat' (first | refine tr_seq ?_ | refine reg (T := tab) tOk hnt rfl ?_ ?_ | refine regD (T := tab) tOk mixedR hnt rfl (by decide +kernel) ?_ ?_ | refine tr_block ?_ | refine tr_skip ?_)
      · (dsimp only [AllP]; (repeat' first | exact trivial | assumption | exact Nat.le_of_ble_eq_true rfl | apply And.intro | decide | intro _ | exact rfl))
      refine ⟨i + 1, ⟨by omega, by rw [ht1, List.length_append]; omega⟩, by omega, le_of (ad := []) (by refine ⟨?_, ?_, ?_, ?_, ?_, ?_, trivial⟩ <;> first | exact trivial | rfl | exact ⟨rfl, rfl⟩ | exact ⟨rfl, rfl, rfl⟩ | exact ⟨rfl, rfl, rfl, rfl⟩ | exact ⟨rfl, rfl, rfl, rfl, rfl⟩ | exact congrArg (fun z : Int => E.v (.int .i64 z)) (wrap64_id (by omega) (by omega))) (memOk_row rfl rfl hap.symm trivial)⟩
    simp only [condT_tt, condT_ff, condF_tt, condF_ff, notE_t, notE_f, decide_eq_true_eq, decide_eq_false_iff_not] at hc
    (try simp only [hrl] at hc)
    (try simp only [condT_tt, condT_ff, condF_tt, condF_ff, notE_t, notE_f, decide_eq_true_eq, decide_eq_false_iff_not] at hc)
    refine tr_exit ?_
    have htk : row.take i = row := List.take_of_length_le (by omega)
    rw [htk] at inx ⊢
    repeat' (first | refine tr_seq ?_ | refine tr_block ?_ | refine tr_skip ?_)
    first | refine reg (T := tab) tOk hnt rfl ?_ ?_ | refine regD (T := tab) tOk mixedR hnt rfl (by decide +kernel) ?_ ?_
    · (dsimp only [AllP]; (repeat' first | exact trivial | assumption | exact Nat.le_of_ble_eq_true rfl | apply And.intro | decide | intro _ | exact rfl))
    repeat' (first | refine tr_seq ?_ | refine tr_block ?_ | refine tr_skip ?_)
    first | refine reg (T := tab) tOk hnt rfl ?_ ?_ | refine regD (T := tab) tOk mixedR hnt rfl (by decide +kernel) ?_ ?_
    · (dsimp only [AllP]; (repeat' first | exact trivial | assumption | exact Nat.le_of_ble_eq_true rfl | apply And.intro | decide | intro _ | exact rfl))
    have hw3 : IntKind.i64.wrap ((deep : Int) + 1) = ((deep + 1 : Nat) : Int) := by rw [wrap64_id (by omega) (by omega)]; rfl
    rw [hw3]
    repeat' (first | refine tr_seq ?_ | refine tr_block ?_ | refine tr_skip ?_)
    refine ⟨(nxt row, all + row.length, deep + 1), ⟨by dsimp only; omega, by dsimp only; omega, by dsimp only; omega, by dsimp only; omega, inx⟩, by dsimp only; omega, Le.trans (le_frz 3 rfl rfl) (le_of (ad := []) ⟨rfl, rfl, rfl, trivial⟩ trivial)⟩
  simp only [condT_tt, condT_ff, condF_tt, condF_ff, notE_t, notE_f, decide_eq_true_eq, decide_eq_false_iff_not] at hc
  (try simp only [hrl] at hc)
  (try simp only [condT_tt, condT_ff, condF_tt, condF_ff, notE_t, notE_f, decide_eq_true_eq, decide_eq_false_iff_not] at hc)
  refine tr_exit ?_
  obtain rfl : row = [] := List.eq_nil_of_length_eq_zero (by omega)
  have : ht x ≤ 7 ∧ nodes x ≤ 40 := by simp only [nodesL, htL] at j1 j2; omega
  rw [decide_eq_true this]
  repeat' (first | refine tr_seq ?_ | refine reg (T := tab) tOk hnt rfl ?_ ?_ | refine regD (T := tab) tOk mixedR hnt rfl (by decide +kernel) ?_ ?_ | refine tr_block ?_ | refine tr_skip ?_)
  · (dsimp only [AllP]; (repeat' first | exact trivial | assumption | exact Nat.le_of_ble_eq_true rfl | apply And.intro | decide | intro _ | exact rfl))
  exact tr_ret ⟨.inr rfl, _, _, rfl, trivial, rfl⟩
end Go.Proofs.YtcjeeoimjkhijaaDoor
