/- Rolls: two heads and their proof. No condition. -/
import Derived.Test.YtjpmghphkkhcjaaDoorTRoB
namespace Go.Proofs.YtjpmghphkkhcjaaDoor
open Go Go.RowKit Go.Proofs.YtjpmghphkkhcjaaDoor.Ab

def rBBB (r : Byt × Byt × Bool) : D := .tup [(false, .es [eBytes r.1]), (false, .es [eBytes r.2.1]), (false, .es [.v (.bool r.2.2)])]
def obE (r : Byt × Byt × Bool) : Option (Byt × Byt) := bif r.2.2 then some (r.1, r.2.1) else none
def lowF (mode : Int) (p : Byt) (r : Byt × Byt × Bool) : Byt × Byt × Bool := if r.2.2 = false then ([], [], false) else (r.1, (dgF mode 6 [r.2.1, p]).1, decide ((dgF mode 6 [r.2.1, p]).2 = 0))
def upF (mode : Int) (p : Byt) (r : Byt × Byt × Bool) : Byt × Byt × Bool := if r.2.2 = false then ([], [], false) else ((dgF mode 6 [p, r.1]).1, (dgF mode 6 [p, r.2.1]).1, decide ((dgF mode 6 [p, r.1]).2 = 0 ∧ (dgF mode 6 [p, r.2.1]).2 = 0))
def soleF : List Byt → Byt × Byt × Bool
  | [] => ([], [], false)
  | p :: ps => if ps = [] then (p, p, true) else ([], [], false)
def rootsF (mode : Int) (old : Byt) : Nat → Nat → Nat → Bool → List Byt → Byt × Byt × Bool
  | 0, _, _, _, _ => ([], [], false)
  | f + 1, m, n, kn, path => if m = n then (if kn = true then (old, old, decide (path = [])) else soleF path)
    else match path.getLast? with
      | none => ([], [], false)
      | some p => if m ≤ hf n then lowF mode p (rootsF mode old f m (hf n) kn path.dropLast) else upF mode p (rootsF mode old f (m - hf n) (n - hf n) false path.dropLast)
theorem low_st (mode : Int) (p : Byt) (r : Byt × Byt × Bool) : obE (lowF mode p r) = (obE r).bind (stX (pO mode) false p) := by
  obtain ⟨w, i, ok⟩ := r
  cases ok with
  | false => rfl
  | true =>
    rw [lowF, if_neg (by simp)]
    show _ = (dO mode 6 [i, p]).map fun c => (w, c)
    unfold dO
    generalize dgF mode 6 [i, p] = q
    obtain ⟨c, e⟩ := q
    by_cases he : e = 0 <;> simp [obE, he]
theorem up_st (mode : Int) (p : Byt) (r : Byt × Byt × Bool) : obE (upF mode p r) = (obE r).bind (stX (pO mode) true p) := by
  obtain ⟨w, i, ok⟩ := r
  cases ok with
  | false => rfl
  | true =>
    rw [upF, if_neg (by simp)]
    show _ = (dO mode 6 [p, w]).bind fun a => (dO mode 6 [p, i]).map fun c => (a, c)
    unfold dO
    generalize dgF mode 6 [p, i] = q
    obtain ⟨c, e⟩ := q
    generalize dgF mode 6 [p, w] = q
    obtain ⟨c', e'⟩ := q
    by_cases he : e = 0 <;> by_cases he' : e' = 0 <;> simp [obE, he, he']
theorem roots_ex (mode : Int) (old : Byt) : ∀ (f m n : Nat) (kn : Bool) (path : List Byt), 1 ≤ m → m ≤ n → n ≤ f → obE (rootsF mode old f m n kn path) = exO (pO mode) old (shE f m n kn).1 (shE f m n kn).2 path
  | 0, m, n, kn, path, h1, h2, h3 => by omega
  | f + 1, m, n, kn, path, h1, h2, h3 => by
    rw [rootsF, shE]
    by_cases hmn : m = n
    · rw [if_pos hmn, if_pos hmn]
      cases kn with
      | true =>
        rw [if_pos rfl]
        cases path <;> rfl
      | false =>
        rw [if_neg (by simp)]
        match path with
        | [] => rfl
        | [p] => rfl
        | p :: q :: r => rfl
    · have hh := hf_lt (n := n) (by omega)
      rw [if_neg hmn, if_neg hmn]
      rcases List.eq_nil_or_concat path with rfl | ⟨ps, p, rfl⟩
      · show none = _
        by_cases hm : m ≤ hf n
        · rw [if_pos hm]
          exact (exO_nil ..).symm
        · rw [if_neg hm]
          exact (exO_nil ..).symm
      · rw [List.concat_eq_append, List.getLast?_concat, List.dropLast_concat]
        dsimp only
        by_cases hm : m ≤ hf n
        · rw [if_pos hm, if_pos hm, low_st, roots_ex mode old f m (hf n) kn ps h1 hm (by omega), exO_snoc]
        · rw [if_neg hm, if_neg hm, up_st, roots_ex mode old f (m - hf n) (n - hf n) false ps (by omega) (by omega) (by omega), exO_snoc]
set_option maxRecDepth 10000 in
theorem roots_succ (mode : Int) (old : Byt) (f : Nat) (ih : ∀ (m n : Nat) (kn : Bool) (path : List Byt), 1 ≤ m → m ≤ n → n ≤ f → n ≤ 64 → FnG Tryd.prog 60 gK [.agg (.es [eI mode, eBytes old]), .one (.e (eI (m : Int))), .one (.e (eI (n : Int))), .one (.e (E.v (.bool kn))), .one (.e (eLists path))] (rBBB (rootsF mode old f m n kn path))) (m n : Nat) (kn : Bool) (path : List Byt) (h1 : 1 ≤ m) (hmn : m ≤ n) (hnf : n ≤ f + 1) (hn : n ≤ 64) : FnG Tryd.prog 60 gK [.agg (.es [eI mode, eBytes old]), .one (.e (eI (m : Int))), .one (.e (eI (n : Int))), .one (.e (E.v (.bool kn))), .one (.e (eLists path))] (rBBB (rootsF mode old (f + 1) m n kn path)) := by
  refine FnG.len ⟨_, _, Tryd.func60, rfl, by kernel_rfl⟩ 4 rfl fun hl4 => ?_
  refine fn_introG (T := tab) tOk Tryd.func60 rfl (by kernel_rfl) (by simp [Tryd.ntmps60]) ?_
  intro X hX
  have hnt : X.nt = 128 := hX
  clear hX
  have hll := lsLen path
  rw [hll] at hl4
  rw [rootsF]
  repeat' (first | refine tr_seq ?_ | refine reg (T := tab) tOk hnt rfl ?_ ?_ | refine regD (T := tab) tOk mixedR hnt rfl (by decide +kernel) ?_ ?_ | refine tr_block ?_ | refine tr_skip ?_)
  · (dsimp only [AllP]; (repeat' first | exact trivial | assumption | exact Nat.le_of_ble_eq_true rfl | apply And.intro | decide | intro _ | exact rfl))
  · (dsimp only [AllP]; (repeat' first | exact trivial | assumption | exact Nat.le_of_ble_eq_true rfl | apply And.intro | decide | intro _ | exact rfl))
  repeat' (first | refine tr_seq ?_ | refine tr_block ?_ | refine tr_skip ?_)
  refine tr_cond rfl (fun hc => ?_) (fun hc => ?_)
  · have hc : (m : Int) = (n : Int) := of_decide_eq_true hc
    rw [if_pos (by omega)]
    cases kn with
    | true =>
      repeat' (first | refine tr_seq ?_ | refine reg (T := tab) tOk hnt rfl ?_ ?_ | refine regD (T := tab) tOk mixedR hnt rfl (by decide +kernel) ?_ ?_ | refine tr_block ?_ | refine tr_skip ?_)
      · (dsimp only [AllP]; (repeat' first | exact trivial | assumption | exact Nat.le_of_ble_eq_true rfl | apply And.intro | decide | intro _ | exact rfl))
      refine tr_cond rfl (fun _ => ?_) (fun h => nomatch (show true = false from h))
      rw [if_pos rfl]
      repeat' (first | refine tr_seq ?_ | refine reg (T := tab) tOk hnt rfl ?_ ?_ | refine regD (T := tab) tOk mixedR hnt rfl (by decide +kernel) ?_ ?_ | refine tr_block ?_ | refine tr_skip ?_)
      · (dsimp only [AllP]; (repeat' first | exact trivial | assumption | exact Nat.le_of_ble_eq_true rfl | apply And.intro | decide | intro _ | exact rfl))
      refine tr_ret ⟨.inr rfl, _, _, rfl, trivial, ?_⟩
      have he : decide (((path.map fun p => [eBytes p]).length : Int) = 0) = decide (path = []) := by
        rw [hll]
        cases path <;> simp <;> omega
      exact congrArg (fun b : Bool => D.tup [(false, .es [eBytes old]), (false, .es [eBytes old]), (false, .es [.v (.bool b)])]) he
    | false =>
      repeat' (first | refine tr_seq ?_ | refine reg (T := tab) tOk hnt rfl ?_ ?_ | refine regD (T := tab) tOk mixedR hnt rfl (by decide +kernel) ?_ ?_ | refine tr_block ?_ | refine tr_skip ?_)
      · (dsimp only [AllP]; (repeat' first | exact trivial | assumption | exact Nat.le_of_ble_eq_true rfl | apply And.intro | decide | intro _ | exact rfl))
      refine tr_cond rfl (fun h => nomatch (show false = true from h)) (fun _ => ?_)
      rw [if_neg (by simp)]
      repeat' (first | refine tr_seq ?_ | refine reg (T := tab) tOk hnt rfl ?_ ?_ | refine regD (T := tab) tOk mixedR hnt rfl (by decide +kernel) ?_ ?_ | refine tr_block ?_ | refine tr_skip ?_)
      · (dsimp only [AllP]; (repeat' first | exact trivial | assumption | exact Nat.le_of_ble_eq_true rfl | apply And.intro | decide | intro _ | exact rfl))
      repeat' (first | refine tr_seq ?_ | refine tr_block ?_ | refine tr_skip ?_)
      refine tr_cond rfl (fun hc => ?_) (fun hc => ?_)
      · have hc : (!decide (((path.map fun p => [eBytes p]).length : Int) = 1)) = true := hc
        rw [hll] at hc
        repeat' (first | refine tr_seq ?_ | refine reg (T := tab) tOk hnt rfl ?_ ?_ | refine regD (T := tab) tOk mixedR hnt rfl (by decide +kernel) ?_ ?_ | refine tr_block ?_ | refine tr_skip ?_)
        · (dsimp only [AllP]; (repeat' first | exact trivial | assumption | exact Nat.le_of_ble_eq_true rfl | apply And.intro | decide | intro _ | exact rfl))
        have hs : soleF path = ([], [], false) := by
          match path with
          | [] => rfl
          | [p] => exact absurd hc (by simp)
          | p :: q :: r => rfl
        rw [hs]
        exact tr_ret ⟨.inr rfl, _, _, rfl, trivial, rfl⟩
      have hc : (!decide (((path.map fun p => [eBytes p]).length : Int) = 1)) = false := hc
      rw [hll] at hc
      obtain ⟨p, rfl⟩ : ∃ p, path = [p] := by
        match path with
        | [] => exact absurd hc (by simp)
        | [p] => exact ⟨p, rfl⟩
        | p :: q :: r =>
          have : (!decide (((p :: q :: r).length : Int) = 1)) = true := by
            rw [Bool.not_eq_true', decide_eq_false_iff_not]
            simp only [List.length_cons]
            omega
          exact nomatch this.symm.trans hc
      have h01 : (0 : Int) < ((List.map (fun p => [eBytes p]) [p]).length : Int) := by simp
      repeat' (first | refine tr_seq ?_ | refine reg (T := tab) tOk hnt rfl ?_ ?_ | refine regD (T := tab) tOk mixedR hnt rfl (by decide +kernel) ?_ ?_ | refine tr_block ?_ | refine tr_skip ?_)
      · (dsimp only [AllP]; (repeat' first | exact trivial | assumption | exact Nat.le_of_ble_eq_true rfl | apply And.intro | exact eCells_len1 _ _ ‹_› | exact eCells_isByte _ _ ‹_› | intro _ | exact rfl | omega))
      exact tr_ret ⟨.inr rfl, _, _, rfl, trivial, rfl⟩
  have hc : ¬ (m : Int) = (n : Int) := of_decide_eq_false hc
  rw [if_neg (by omega)]
  have hh := hf_lt (n := n) (by omega)
  repeat' (first | refine tr_seq ?_ | refine reg (T := tab) tOk hnt rfl ?_ ?_ | refine regD (T := tab) tOk mixedR hnt rfl (by decide +kernel) ?_ ?_ | refine tr_block ?_ | refine tr_skip ?_)
  · (dsimp only [AllP]; (repeat' first | exact trivial | assumption | exact Nat.le_of_ble_eq_true rfl | apply And.intro | decide | intro _ | exact rfl))
  repeat' (first | refine tr_seq ?_ | refine tr_block ?_ | refine tr_skip ?_)
  refine tr_cond rfl (fun hc => ?_) (fun hc => ?_)
  · have hc : ((path.map fun p => [eBytes p]).length : Int) = 0 := of_decide_eq_true hc
    have : path = [] := List.eq_nil_of_length_eq_zero (by omega)
    subst this
    repeat' (first | refine tr_seq ?_ | refine reg (T := tab) tOk hnt rfl ?_ ?_ | refine regD (T := tab) tOk mixedR hnt rfl (by decide +kernel) ?_ ?_ | refine tr_block ?_ | refine tr_skip ?_)
    · (dsimp only [AllP]; (repeat' first | exact trivial | assumption | exact Nat.le_of_ble_eq_true rfl | apply And.intro | decide | intro _ | exact rfl))
    exact tr_ret ⟨.inr rfl, _, _, rfl, trivial, rfl⟩
  have hc : ¬ ((path.map fun p => [eBytes p]).length : Int) = 0 := of_decide_eq_false hc
  rcases List.eq_nil_or_concat path with rfl | ⟨ps, p, rfl⟩
  · exact absurd rfl hc
  rw [List.concat_eq_append] at hl4 hll hc ⊢
  rw [List.getLast?_concat, List.dropLast_concat]
  dsimp only
  have hl : ((ps ++ [p]).map fun p => [eBytes p]).length = ps.length + 1 := by simp
  have hpl : ps.length + 1 ≤ 9223372036854775807 := by
    simp only [List.length_append, List.length_singleton, maxLen] at hl4
    omega
  have w3 : IntKind.i64.wrap ((((ps ++ [p]).map fun p => [eBytes p]).length : Int) - 1) = (ps.length : Int) := by
    rw [hl, wrap64_id (by omega) (by omega)]
    omega
  repeat' (first | refine tr_seq ?_ | refine tr_block ?_ | refine tr_skip ?_)
  refine tr_region (lex (T := tab) tOk hnt rfl ?_ (call rfl rfl rfl rfl rfl rfl rfl hnt (half_fn n hn) (lex (T := tab) tOk hnt rfl ?_ (Lex.nil _)))) ?_
  · (dsimp only [AllP]; (repeat' first | exact trivial | assumption | exact Nat.le_of_ble_eq_true rfl | apply And.intro | decide | intro _ | exact rfl))
  · (dsimp only [AllP]; (repeat' first | exact trivial | assumption | exact Nat.le_of_ble_eq_true rfl | apply And.intro | decide | intro _ | exact rfl))
  rw [w3]
  have hsl : eLists ps = .sl (List.take (Int.toNat (ps.length : Int) - Int.toNat 0) (List.drop (Int.toNat 0) ((ps ++ [p]).map fun p => [eBytes p]))) := by
    simp [eLists]
  have a1 : (0 : Int) ≤ (ps.length : Int) := by omega
  have a2 : (ps.length : Int) ≤ (((ps ++ [p]).map fun p => [eBytes p]).length : Int) := by omega
  have a3 := lsOne (ps ++ [p])
  have a4 : (ps.length : Int) < (((ps ++ [p]).map fun p => [eBytes p]).length : Int) := by omega
  have a5 : (List.map (fun p => [eBytes p]) (ps ++ [p])).getD (Int.toNat (ps.length : Int)) [] = [eBytes p] := by
    rw [Int.toNat_natCast, lsGet _ (by simp)]
    simp [List.getD]
  repeat' (first | refine tr_seq ?_ | refine reg (T := tab) tOk hnt rfl ?_ ?_ | refine regD (T := tab) tOk mixedR hnt rfl (by decide +kernel) ?_ ?_ | refine tr_block ?_ | refine tr_skip ?_)
  · (dsimp only [AllP]; (repeat' first | exact trivial | assumption | exact Nat.le_of_ble_eq_true rfl | apply And.intro | decide | intro _ | exact rfl))
  repeat' (first | refine tr_seq ?_ | refine tr_block ?_ | refine tr_skip ?_)
  refine tr_cond rfl (fun hc => ?_) (fun hc => ?_)
  · have hc : (m : Int) ≤ (hf n : Int) := of_decide_eq_true hc
    have hc : m ≤ hf n := by omega
    have h := ih m (hf n) kn ps h1 hc (by omega) (by omega)
    rw [hsl] at h
    rw [if_pos hc]
    generalize rootsF mode old f m (hf n) kn ps = r at *
    obtain ⟨w, b, ok⟩ := r
    repeat' (first | refine tr_seq ?_ | refine tr_block ?_ | refine tr_skip ?_)
    refine tr_draw (T := tab) tOk hnt mixedR (lexD (T := tab) rfl ?_ (callVD rfl rfl rfl rfl rfl rfl rfl rfl rfl (h) (lexD (T := tab) rfl ?_ (.nil _)))) (by decide +kernel) ?_
    · (dsimp only [AllP]; (repeat' first | exact trivial | assumption | exact Nat.le_of_ble_eq_true rfl | apply And.intro | exact eCells_len1 _ _ ‹_› | exact eCells_isByte _ _ ‹_› | intro _ | exact rfl | omega))
    · (dsimp only [AllP]; (repeat' first | exact trivial | assumption | exact Nat.le_of_ble_eq_true rfl | apply And.intro | decide | intro _ | exact rfl))
    repeat' (first | refine tr_seq ?_ | refine reg (T := tab) tOk hnt rfl ?_ ?_ | refine regD (T := tab) tOk mixedR hnt rfl (by decide +kernel) ?_ ?_ | refine tr_block ?_ | refine tr_skip ?_)
    · (dsimp only [AllP]; (repeat' first | exact trivial | assumption | exact Nat.le_of_ble_eq_true rfl | apply And.intro | decide | intro _ | exact rfl))
    cases ok with
    | false =>
      repeat' (first | refine tr_seq ?_ | refine tr_block ?_ | refine tr_skip ?_)
      refine tr_cond rfl (fun _ => ?_) (fun h => nomatch (show true = false from h))
      repeat' (first | refine tr_seq ?_ | refine reg (T := tab) tOk hnt rfl ?_ ?_ | refine regD (T := tab) tOk mixedR hnt rfl (by decide +kernel) ?_ ?_ | refine tr_block ?_ | refine tr_skip ?_)
      · (dsimp only [AllP]; (repeat' first | exact trivial | assumption | exact Nat.le_of_ble_eq_true rfl | apply And.intro | decide | intro _ | exact rfl))
      exact tr_ret ⟨.inr rfl, _, _, rfl, trivial, rfl⟩
    | true =>
    repeat' (first | refine tr_seq ?_ | refine tr_block ?_ | refine tr_skip ?_)
    refine tr_cond rfl (fun h => nomatch (show false = true from h)) (fun _ => ?_)
    have hp : ∀ x : D, x = .one (.e (eBytes p)) → FnG Tryd.prog 77 gK [.one (.e (eI mode)), .one (.e (eBytes b)), x] (rBE (dgF mode 6 [b, p])) := fun x e => by
      rw [e]
      exact pair_fn mode b p
    rw [lowF, if_neg (by simp)]
    dsimp only
    generalize dgF mode 6 [b, p] = q at *
    obtain ⟨c, e⟩ := q
    repeat' (first | refine tr_seq ?_ | refine tr_block ?_ | refine tr_skip ?_)
    refine tr_draw (T := tab) tOk hnt mixedR (lexD (T := tab) rfl ?_ (callVD rfl rfl rfl rfl rfl rfl rfl rfl rfl (hp _ (by exact congrArg (fun z => D.one (D0.e (E.sl (List.getD z 0 E.dflt).xs))) a5)) (lexD (T := tab) rfl ?_ (.nil _)))) (by decide +kernel) ?_
    · rw [a5]
      (dsimp only [AllP]; (repeat' first | exact trivial | assumption | exact Nat.le_of_ble_eq_true rfl | apply And.intro | exact eCells_len1 _ _ ‹_› | exact eCells_isByte _ _ ‹_› | intro _ | exact rfl | omega))
    · (dsimp only [AllP]; (repeat' first | exact trivial | assumption | exact Nat.le_of_ble_eq_true rfl | apply And.intro | decide | intro _ | exact rfl))
    repeat' (first | refine tr_seq ?_ | refine reg (T := tab) tOk hnt rfl ?_ ?_ | refine regD (T := tab) tOk mixedR hnt rfl (by decide +kernel) ?_ ?_ | refine tr_block ?_ | refine tr_skip ?_)
    · (dsimp only [AllP]; (repeat' first | exact trivial | assumption | exact Nat.le_of_ble_eq_true rfl | apply And.intro | decide | intro _ | exact rfl))
    exact tr_ret ⟨.inr rfl, _, _, rfl, trivial, rfl⟩
  have hc : ¬ (m : Int) ≤ (hf n : Int) := of_decide_eq_false hc
  have hc : ¬ m ≤ hf n := by omega
  have h := ih (m - hf n) (n - hf n) false ps (by omega) (by omega) (by omega) (by omega)
  have w4 : IntKind.i64.wrap ((n : Int) - (hf n : Int)) = ((n - hf n : Nat) : Int) := by
    rw [wrap64_id (by omega) (by omega)]
    omega
  have w5 : IntKind.i64.wrap ((m : Int) - (hf n : Int)) = ((m - hf n : Nat) : Int) := by
    rw [wrap64_id (by omega) (by omega)]
    omega
  rw [hsl, ← w4, ← w5] at h
  rw [if_neg hc]
  generalize rootsF mode old f (m - hf n) (n - hf n) false ps = r at *
  obtain ⟨w, b, ok⟩ := r
  repeat' (first | refine tr_seq ?_ | refine tr_block ?_ | refine tr_skip ?_)
  refine tr_draw (T := tab) tOk hnt mixedR (lexD (T := tab) rfl ?_ (callVD rfl rfl rfl rfl rfl rfl rfl rfl rfl (h) (lexD (T := tab) rfl ?_ (.nil _)))) (by decide +kernel) ?_
  · (dsimp only [AllP]; (repeat' first | exact trivial | assumption | exact Nat.le_of_ble_eq_true rfl | apply And.intro | exact eCells_len1 _ _ ‹_› | exact eCells_isByte _ _ ‹_› | intro _ | exact rfl | omega))
  · (dsimp only [AllP]; (repeat' first | exact trivial | assumption | exact Nat.le_of_ble_eq_true rfl | apply And.intro | decide | intro _ | exact rfl))
  repeat' (first | refine tr_seq ?_ | refine reg (T := tab) tOk hnt rfl ?_ ?_ | refine regD (T := tab) tOk mixedR hnt rfl (by decide +kernel) ?_ ?_ | refine tr_block ?_ | refine tr_skip ?_)
  · (dsimp only [AllP]; (repeat' first | exact trivial | assumption | exact Nat.le_of_ble_eq_true rfl | apply And.intro | decide | intro _ | exact rfl))
  cases ok with
  | false =>
    repeat' (first | refine tr_seq ?_ | refine tr_block ?_ | refine tr_skip ?_)
    refine tr_cond rfl (fun _ => ?_) (fun h => nomatch (show true = false from h))
    repeat' (first | refine tr_seq ?_ | refine reg (T := tab) tOk hnt rfl ?_ ?_ | refine regD (T := tab) tOk mixedR hnt rfl (by decide +kernel) ?_ ?_ | refine tr_block ?_ | refine tr_skip ?_)
    · (dsimp only [AllP]; (repeat' first | exact trivial | assumption | exact Nat.le_of_ble_eq_true rfl | apply And.intro | decide | intro _ | exact rfl))
    exact tr_ret ⟨.inr rfl, _, _, rfl, trivial, rfl⟩
  | true =>
  repeat' (first | refine tr_seq ?_ | refine tr_block ?_ | refine tr_skip ?_)
  refine tr_cond rfl (fun h => nomatch (show false = true from h)) (fun _ => ?_)
  have hp : ∀ (x : D) (w : Byt), x = .one (.e (eBytes p)) → FnG Tryd.prog 77 gK [.one (.e (eI mode)), x, .one (.e (eBytes w))] (rBE (dgF mode 6 [p, w])) := fun x w e => by
    rw [e]
    exact pair_fn mode p w
  rw [upF, if_neg (by simp)]
  dsimp only
  have hp1 := fun x => hp x w
  have hp2 := fun x => hp x b
  clear hp
  generalize dgF mode 6 [p, w] = q at *
  obtain ⟨c, e⟩ := q
  generalize dgF mode 6 [p, b] = q at *
  obtain ⟨c', e'⟩ := q
  repeat' (first | refine tr_seq ?_ | refine tr_block ?_ | refine tr_skip ?_)
  refine tr_draw (T := tab) tOk hnt mixedR (lexD (T := tab) rfl ?_ (callVD rfl rfl rfl rfl rfl rfl rfl rfl rfl (hp1 _ (by exact congrArg (fun z => D.one (D0.e (E.sl (List.getD z 0 E.dflt).xs))) a5)) (lexD (T := tab) rfl ?_ (.nil _)))) (by decide +kernel) ?_
  · rw [a5]
    (dsimp only [AllP]; (repeat' first | exact trivial | assumption | exact Nat.le_of_ble_eq_true rfl | apply And.intro | exact eCells_len1 _ _ ‹_› | exact eCells_isByte _ _ ‹_› | intro _ | exact rfl | omega))
  · (dsimp only [AllP]; (repeat' first | exact trivial | assumption | exact Nat.le_of_ble_eq_true rfl | apply And.intro | decide | intro _ | exact rfl))
  repeat' (first | refine tr_seq ?_ | refine tr_block ?_ | refine tr_skip ?_)
  refine tr_draw (T := tab) tOk hnt mixedR (lexD (T := tab) rfl ?_ (callVD rfl rfl rfl rfl rfl rfl rfl rfl rfl (hp2 _ (by exact congrArg (fun z => D.one (D0.e (E.sl (List.getD z 0 E.dflt).xs))) a5)) (lexD (T := tab) rfl ?_ (.nil _)))) (by decide +kernel) ?_
  · rw [a5]
    (dsimp only [AllP]; (repeat' first | exact trivial | assumption | exact Nat.le_of_ble_eq_true rfl | apply And.intro | exact eCells_len1 _ _ ‹_› | exact eCells_isByte _ _ ‹_› | intro _ | exact rfl | omega))
  · (dsimp only [AllP]; (repeat' first | exact trivial | assumption | exact Nat.le_of_ble_eq_true rfl | apply And.intro | decide | intro _ | exact rfl))
  repeat' (first | refine tr_seq ?_ | refine reg (T := tab) tOk hnt rfl ?_ ?_ | refine regD (T := tab) tOk mixedR hnt rfl (by decide +kernel) ?_ ?_ | refine tr_block ?_ | refine tr_skip ?_)
  · (dsimp only [AllP]; (repeat' first | exact trivial | assumption | exact Nat.le_of_ble_eq_true rfl | apply And.intro | decide | intro _ | exact rfl))
  exact tr_ret ⟨.inr rfl, _, _, rfl, trivial, congrArg (fun z : Bool => D.tup [(false, .es [eBytes c]), (false, .es [eBytes c']), (false, .es [.v (.bool z)])]) (andB _ _)⟩
theorem roots_fnE (mode : Int) (old : Byt) : ∀ (f m n : Nat) (kn : Bool) (path : List Byt), 1 ≤ m → m ≤ n → n ≤ f → n ≤ 64 → FnG Tryd.prog 60 gK [.agg (.es [eI mode, eBytes old]), .one (.e (eI (m : Int))), .one (.e (eI (n : Int))), .one (.e (E.v (.bool kn))), .one (.e (eLists path))] (rBBB (rootsF mode old f m n kn path))
  | 0, m, n, kn, path, h1, h2, h3, _ => by omega
  | f + 1, m, n, kn, path, h1, h2, h3, h4 => roots_succ mode old f (roots_fnE mode old f) m n kn path h1 h2 h3 h4

def endE (o : Option (Byt × Byt)) (old top : Byt) : Int := match o with
  | none => 10
  | some x => if x.1 = old ∧ x.2 = top then 0 else 10
def ecF (mode : Int) (old : Byt) (m : Int) (top : Byt) (n : Int) (path : List Byt) : Int :=
  if mode ≠ 1 ∧ mode ≠ 2 then 2 else if n < 0 ∨ 64 < n then 1 else if m < 0 ∨ n < m then 6 else
    if m = 0 then (if path = [] ∧ (dgF mode 4 []).1 = old ∧ (n = 0 → (dgF mode 4 []).1 = top) then 0 else 10) else
    endE (exO (pO mode) old (shE 64 m.toNat n.toNat true).1 (shE 64 m.toNat n.toNat true).2 path) old top
theorem dg4_ok (mode : Int) (hm : ¬ (mode ≠ 1 ∧ mode ≠ 2)) : (dgF mode 4 []).2 = 0 := by
  have hf : frameF 4 [] = (frB 4 [], 0) := by
    unfold frameF
    rw [if_neg (by decide), if_neg (by decide), if_neg (by show ¬ 16777216 < lenF [] 0; unfold lenF; decide)]
  unfold dgF
  rw [if_neg hm, hf]
  split <;> rfl
theorem emptyB (path : List Byt) (d old top : Byt) (n : Int) : (bif (bif (bif !decide ((0 : Int) = 0) then true else decide ((0 : Int) < ((path.map fun p => [eBytes p]).length : Int))) then true else !decide (d = old)) then true else bif decide (n = 0) then !decide (d = top) else false) = !decide (path = [] ∧ d = old ∧ (n = 0 → d = top)) := by
  have h : decide ((0 : Int) < ((path.map fun p => [eBytes p]).length : Int)) = !decide (path = []) := by
    cases path <;> simp <;> omega
  rw [h]
  by_cases hp : path = [] <;> by_cases h1 : d = old <;> by_cases h2 : n = 0 <;> by_cases h3 : d = top <;> simp [hp, h1, h2, h3]
set_option maxRecDepth 10000 in
theorem CheckExtend_fn (mode : Int) (old : Byt) (m : Int) (top : Byt) (n : Int) (path : List Byt) : FnG Tryd.prog 26 gK [.one (.e (eI mode)), .one (.e (eBytes old)), .one (.e (eI m)), .one (.e (eBytes top)), .one (.e (eI n)), .one (.e (eLists path))] (.one (.e (eI (ecF mode old m top n path)))) := by
  refine fn_introG (T := tab) tOk Tryd.func26 rfl (by kernel_rfl) (by simp [Tryd.ntmps26]) ?_
  intro X hX
  have hnt : X.nt = 89 := hX
  clear hX
  have hll := lsLen path
  have h4 := dg4_ok mode
  unfold ecF
  repeat' (first | refine tr_seq ?_ | refine reg (T := tab) tOk hnt rfl ?_ ?_ | refine regD (T := tab) tOk mixedR hnt rfl (by decide +kernel) ?_ ?_ | refine tr_block ?_ | refine tr_skip ?_)
  · (dsimp only [AllP]; (repeat' first | exact trivial | assumption | exact Nat.le_of_ble_eq_true rfl | apply And.intro | decide | intro _ | exact rfl))
  repeat' (first | refine tr_seq ?_ | refine tr_block ?_ | refine tr_skip ?_)
  refine tr_region (lex (T := tab) tOk hnt rfl ?_ (call rfl rfl rfl rfl rfl rfl rfl hnt (rmodes_fn mode) (lex (T := tab) tOk hnt rfl ?_ (Lex.nil _)))) ?_
  · (dsimp only [AllP]; (repeat' first | exact trivial | assumption | exact Nat.le_of_ble_eq_true rfl | apply And.intro | decide | intro _ | exact rfl))
  · (dsimp only [AllP]; (repeat' first | exact trivial | assumption | exact Nat.le_of_ble_eq_true rfl | apply And.intro | decide | intro _ | exact rfl))
  rw [Bool.not_not]
  repeat' (first | refine tr_seq ?_ | refine tr_block ?_ | refine tr_skip ?_)
  refine tr_cond rfl (fun hc => ?_) (fun hc => ?_)
  · have hc := of_decide_eq_true hc
    rw [if_pos hc]
    repeat' (first | refine tr_seq ?_ | refine reg (T := tab) tOk hnt rfl ?_ ?_ | refine regD (T := tab) tOk mixedR hnt rfl (by decide +kernel) ?_ ?_ | refine tr_block ?_ | refine tr_skip ?_)
    · (dsimp only [AllP]; (repeat' first | exact trivial | assumption | exact Nat.le_of_ble_eq_true rfl | apply And.intro | decide | intro _ | exact rfl))
    exact tr_ret ⟨.inr rfl, _, _, rfl, trivial, rfl⟩
  have hc := of_decide_eq_false hc
  rw [if_neg hc]
  have h4 := h4 hc
  repeat' (first | refine tr_seq ?_ | refine reg (T := tab) tOk hnt rfl ?_ ?_ | refine regD (T := tab) tOk mixedR hnt rfl (by decide +kernel) ?_ ?_ | refine tr_block ?_ | refine tr_skip ?_)
  · (dsimp only [AllP]; (repeat' first | exact trivial | assumption | exact Nat.le_of_ble_eq_true rfl | apply And.intro | decide | intro _ | exact rfl))
  repeat' (first | refine tr_seq ?_ | refine tr_block ?_ | refine tr_skip ?_)
  refine tr_cond rfl (fun hc => ?_) (fun hc => ?_)
  · have hc := of_decide_eq_true ((orB _ _).symm.trans hc)
    rw [if_pos hc]
    repeat' (first | refine tr_seq ?_ | refine reg (T := tab) tOk hnt rfl ?_ ?_ | refine regD (T := tab) tOk mixedR hnt rfl (by decide +kernel) ?_ ?_ | refine tr_block ?_ | refine tr_skip ?_)
    · (dsimp only [AllP]; (repeat' first | exact trivial | assumption | exact Nat.le_of_ble_eq_true rfl | apply And.intro | decide | intro _ | exact rfl))
    exact tr_ret ⟨.inr rfl, _, _, rfl, trivial, rfl⟩
  have hc := of_decide_eq_false ((orB _ _).symm.trans hc)
  rw [if_neg hc]
  repeat' (first | refine tr_seq ?_ | refine reg (T := tab) tOk hnt rfl ?_ ?_ | refine regD (T := tab) tOk mixedR hnt rfl (by decide +kernel) ?_ ?_ | refine tr_block ?_ | refine tr_skip ?_)
  · (dsimp only [AllP]; (repeat' first | exact trivial | assumption | exact Nat.le_of_ble_eq_true rfl | apply And.intro | decide | intro _ | exact rfl))
  repeat' (first | refine tr_seq ?_ | refine tr_block ?_ | refine tr_skip ?_)
  refine tr_cond rfl (fun hc => ?_) (fun hc => ?_)
  · have hc := of_decide_eq_true ((orB _ _).symm.trans hc)
    rw [if_pos hc]
    repeat' (first | refine tr_seq ?_ | refine reg (T := tab) tOk hnt rfl ?_ ?_ | refine regD (T := tab) tOk mixedR hnt rfl (by decide +kernel) ?_ ?_ | refine tr_block ?_ | refine tr_skip ?_)
    · (dsimp only [AllP]; (repeat' first | exact trivial | assumption | exact Nat.le_of_ble_eq_true rfl | apply And.intro | decide | intro _ | exact rfl))
    exact tr_ret ⟨.inr rfl, _, _, rfl, trivial, rfl⟩
  have hc2 := of_decide_eq_false ((orB _ _).symm.trans hc)
  rw [if_neg hc2]
  repeat' (first | refine tr_seq ?_ | refine reg (T := tab) tOk hnt rfl ?_ ?_ | refine regD (T := tab) tOk mixedR hnt rfl (by decide +kernel) ?_ ?_ | refine tr_block ?_ | refine tr_skip ?_)
  · (dsimp only [AllP]; (repeat' first | exact trivial | assumption | exact Nat.le_of_ble_eq_true rfl | apply And.intro | decide | intro _ | exact rfl))
  repeat' (first | refine tr_seq ?_ | refine tr_block ?_ | refine tr_skip ?_)
  refine tr_cond rfl (fun hc => ?_) (fun hc => ?_)
  · have hc0 : m = 0 := of_decide_eq_true hc
    rw [if_pos hc0]
    repeat' (first | refine tr_seq ?_ | refine tr_block ?_ | refine tr_skip ?_)
    refine tr_region (lex (T := tab) tOk hnt rfl ?_ (callV rfl rfl rfl rfl rfl rfl rfl hnt rfl (Digest_fn mode 4 []) (lex (T := tab) tOk hnt rfl ?_ (Lex.nil _)))) ?_
    · (dsimp only [AllP]; (repeat' first | exact trivial | assumption | exact Nat.le_of_ble_eq_true rfl | apply And.intro | decide | intro _ | exact rfl))
    · (dsimp only [AllP]; (repeat' first | exact trivial | assumption | exact Nat.le_of_ble_eq_true rfl | apply And.intro | decide | intro _ | exact rfl))
    generalize dgF mode 4 [] = r at *
    obtain ⟨d, e⟩ := r
    have h4 : e = 0 := h4
    subst h4
    repeat' (first | refine tr_seq ?_ | refine tr_block ?_ | refine tr_skip ?_)
    refine tr_region (lex (T := tab) tOk hnt rfl ?_ (callG rfl rfl rfl rfl rfl rfl hnt rfl (fun hq => ?_) (fun hq => Equal_fn d old) (lex (T := tab) tOk hnt rfl ?_ (callG rfl rfl rfl rfl rfl rfl hnt rfl (fun hq => ?_) (fun hq => Equal_fn d top) (lex (T := tab) tOk hnt rfl ?_ (Lex.nil _)))))) ?_
    · (dsimp only [AllP]; (repeat' first | exact trivial | assumption | exact Nat.le_of_ble_eq_true rfl | apply And.intro | decide | intro _ | exact rfl))
    · exact ⟨hq, hq⟩
    · (dsimp only [AllP]; (repeat' first | exact trivial | assumption | exact Nat.le_of_ble_eq_true rfl | apply And.intro | decide | intro _ | exact rfl))
    · exact ⟨hq, hq⟩
    · (dsimp only [AllP]; (repeat' first | exact trivial | assumption | exact Nat.le_of_ble_eq_true rfl | apply And.intro | decide | intro _ | exact rfl))
    repeat' (first | refine tr_seq ?_ | refine tr_block ?_ | refine tr_skip ?_)
    refine tr_cond rfl (fun hc => ?_) (fun hc => ?_)
    · have hc := (emptyB path d old top n).symm.trans hc
      rw [if_neg (of_decide_eq_false ((Bool.not_eq_true' _).mp hc))]
      repeat' (first | refine tr_seq ?_ | refine reg (T := tab) tOk hnt rfl ?_ ?_ | refine regD (T := tab) tOk mixedR hnt rfl (by decide +kernel) ?_ ?_ | refine tr_block ?_ | refine tr_skip ?_)
      · (dsimp only [AllP]; (repeat' first | exact trivial | assumption | exact Nat.le_of_ble_eq_true rfl | apply And.intro | decide | intro _ | exact rfl))
      exact tr_ret ⟨.inr rfl, _, _, rfl, trivial, rfl⟩
    have hc := (emptyB path d old top n).symm.trans hc
    rw [if_pos (of_decide_eq_true ((Bool.not_eq_false' ..).mp hc))]
    repeat' (first | refine tr_seq ?_ | refine reg (T := tab) tOk hnt rfl ?_ ?_ | refine regD (T := tab) tOk mixedR hnt rfl (by decide +kernel) ?_ ?_ | refine tr_block ?_ | refine tr_skip ?_)
    · (dsimp only [AllP]; (repeat' first | exact trivial | assumption | exact Nat.le_of_ble_eq_true rfl | apply And.intro | decide | intro _ | exact rfl))
    exact tr_ret ⟨.inr rfl, _, _, rfl, trivial, rfl⟩
  have hc0 : ¬ m = 0 := of_decide_eq_false hc
  rw [if_neg hc0]
  obtain ⟨m, rfl⟩ : ∃ q : Nat, m = (q : Int) := ⟨m.toNat, by omega⟩
  obtain ⟨n, rfl⟩ : ∃ q : Nat, n = (q : Int) := ⟨n.toNat, by omega⟩
  rw [Int.toNat_natCast, Int.toNat_natCast, ← roots_ex mode old 64 m n true path (by omega) (by omega) (by omega)]
  have hin := roots_fnE mode old 64 m n true path (by omega) (by omega) (by omega) (by omega)
  generalize rootsF mode old 64 m n true path = r at *
  obtain ⟨w, b, ok⟩ := r
  repeat' (first | refine tr_seq ?_ | refine tr_block ?_ | refine tr_skip ?_)
  refine tr_region (lex (T := tab) tOk hnt rfl ?_ (callV rfl rfl rfl rfl rfl rfl rfl hnt rfl (hin) (lex (T := tab) tOk hnt rfl ?_ (Lex.nil _)))) ?_
  · (dsimp only [AllP]; (repeat' first | exact trivial | assumption | exact Nat.le_of_ble_eq_true rfl | apply And.intro | decide | intro _ | exact rfl))
  · (dsimp only [AllP]; (repeat' first | exact trivial | assumption | exact Nat.le_of_ble_eq_true rfl | apply And.intro | decide | intro _ | exact rfl))
  repeat' (first | refine tr_seq ?_ | refine tr_block ?_ | refine tr_skip ?_)
  refine tr_region (lex (T := tab) tOk hnt rfl ?_ (callG rfl rfl rfl rfl rfl rfl hnt rfl (fun hq => ?_) (fun hq => Equal_fn w old) (lex (T := tab) tOk hnt rfl ?_ (callG rfl rfl rfl rfl rfl rfl hnt rfl (fun hq => ?_) (fun hq => Equal_fn b top) (lex (T := tab) tOk hnt rfl ?_ (Lex.nil _)))))) ?_
  · (dsimp only [AllP]; (repeat' first | exact trivial | assumption | exact Nat.le_of_ble_eq_true rfl | apply And.intro | decide | intro _ | exact rfl))
  · exact ⟨hq, hq⟩
  · (dsimp only [AllP]; (repeat' first | exact trivial | assumption | exact Nat.le_of_ble_eq_true rfl | apply And.intro | decide | intro _ | exact rfl))
  · exact ⟨hq, hq⟩
  · (dsimp only [AllP]; (repeat' first | exact trivial | assumption | exact Nat.le_of_ble_eq_true rfl | apply And.intro | decide | intro _ | exact rfl))
  have hcc : (bif (bif !ok then true else !decide (w = old)) then true else !decide (b = top)) = !decide (endE (obE (w, b, ok)) old top = 0) := by
    cases ok with
    | false => rfl
    | true =>
      show (bif !decide (w = old) then true else !decide (b = top)) = !decide ((if w = old ∧ b = top then (0 : Int) else 10) = 0)
      by_cases h1 : w = old <;> by_cases h2 : b = top <;> simp [h1, h2]
  have h10 : endE (obE (w, b, ok)) old top = 0 ∨ endE (obE (w, b, ok)) old top = 10 := by
    cases ok with
    | false => exact .inr rfl
    | true =>
      show (if w = old ∧ b = top then (0 : Int) else 10) = 0 ∨ (if w = old ∧ b = top then (0 : Int) else 10) = 10
      by_cases h : w = old ∧ b = top <;> simp [h]
  repeat' (first | refine tr_seq ?_ | refine tr_block ?_ | refine tr_skip ?_)
  refine tr_cond rfl (fun hc => ?_) (fun hc => ?_)
  · have hc := of_decide_eq_false ((Bool.not_eq_true' _).mp (hcc.symm.trans hc))
    rw [h10.resolve_left hc]
    repeat' (first | refine tr_seq ?_ | refine reg (T := tab) tOk hnt rfl ?_ ?_ | refine regD (T := tab) tOk mixedR hnt rfl (by decide +kernel) ?_ ?_ | refine tr_block ?_ | refine tr_skip ?_)
    · (dsimp only [AllP]; (repeat' first | exact trivial | assumption | exact Nat.le_of_ble_eq_true rfl | apply And.intro | decide | intro _ | exact rfl))
    exact tr_ret ⟨.inr rfl, _, _, rfl, trivial, rfl⟩
  have hc := of_decide_eq_true ((Bool.not_eq_false' ..).mp (hcc.symm.trans hc))
  rw [hc]
  repeat' (first | refine tr_seq ?_ | refine reg (T := tab) tOk hnt rfl ?_ ?_ | refine regD (T := tab) tOk mixedR hnt rfl (by decide +kernel) ?_ ?_ | refine tr_block ?_ | refine tr_skip ?_)
  · (dsimp only [AllP]; (repeat' first | exact trivial | assumption | exact Nat.le_of_ble_eq_true rfl | apply And.intro | decide | intro _ | exact rfl))
  exact tr_ret ⟨.inr rfl, _, _, rfl, trivial, rfl⟩
end Go.Proofs.YtjpmghphkkhcjaaDoor
