/- Rolls: halves, digests, one entry's proof. No condition. -/
import Derived.Test.YtjpmghphkkhcjaaDoorTSlC
import Derived.Test.YtjpmghphkkhcjaaDoorTRoS
namespace Go.Proofs.YtjpmghphkkhcjaaDoor
open Go Go.RowKit Go.Proofs.YtjpmghphkkhcjaaDoor.Ab

theorem orB (p q : Prop) [Decidable p] [Decidable q] : (bif decide p then true else decide q) = decide (p ∨ q) := by
  by_cases h : p <;> simp [h]
theorem andB (p q : Prop) [Decidable p] [Decidable q] : (bif decide p then decide q else false) = decide (p ∧ q) := by
  by_cases h : p <;> simp [h]
def dO (mode tag : Int) (ps : List Byt) : Option Byt := if (dgF mode tag ps).2 = 0 then some (dgF mode tag ps).1 else none
def eO (mode : Int) (x : Byt) : Option Byt := dO mode 5 [x]
def pO (mode : Int) (a b : Byt) : Option Byt := dO mode 6 [a, b]
def outO : Option Byt → Byt × Int
  | some d => (d, 0)
  | none => ([], 1)
theorem dgF_out (mode : Int) (hm : ¬ (mode ≠ 1 ∧ mode ≠ 2)) (tag : Int) (ht : 1 ≤ tag ∧ tag ≤ 9) (ps : List Byt) : dgF mode tag ps = outO (dO mode tag ps) := by
  have hf : (frameF tag ps).2 = 0 ∨ frameF tag ps = ([], 1) := by
    unfold frameF
    rw [if_neg (by omega)]
    split
    · exact .inr rfl
    split
    · exact .inr rfl
    exact .inl rfl
  unfold dO dgF
  rw [if_neg hm]
  rcases hf with hf | hf
  · split
    · show frameF tag ps = ((frameF tag ps).1, 0)
      rw [← hf]
    · rfl
  · rw [if_pos (.inl (by rw [hf]; decide)), hf]
    rfl
theorem hf_rng (n : Nat) : 1 ≤ hf n ∧ hf n ≤ 2 ^ 5 := by
  unfold hf
  repeat' split
  all_goals omega
set_option maxRecDepth 10000 in
theorem rmodes_fn (m : Int) : FnD Tryd.prog 43 [.one (.e (eI m))] (.v (.bool (!decide (m ≠ 1 ∧ m ≠ 2)))) := by
  refine fn_intro (T := tab) tOk Tryd.func43 rfl (by kernel_rfl) (by simp [Tryd.ntmps43]) ?_
  intro X hX
  have hnt : X.nt = 9 := hX
  clear hX
  repeat' (first | refine tr_seq ?_ | refine reg (T := tab) tOk hnt rfl ?_ ?_ | refine regD (T := tab) tOk mixedR hnt rfl (by decide +kernel) ?_ ?_ | refine tr_block ?_ | refine tr_skip ?_)
  · (dsimp only [AllP]; (repeat' first | exact trivial | assumption | exact Nat.le_of_ble_eq_true rfl | apply And.intro | decide | intro _ | exact rfl))
  · (dsimp only [AllP]; (repeat' first | exact trivial | assumption | exact Nat.le_of_ble_eq_true rfl | apply And.intro | decide | intro _ | exact rfl))
  exact tr_ret ⟨.inr rfl, _, _, rfl, trivial, congrArg (fun z => D.v (.bool z)) (eqOr m)⟩
set_option maxRecDepth 10000 in
theorem half_fn (n : Nat) (hn : n ≤ 64) : FnD Tryd.prog 76 [.one (.e (eI (n : Int)))] (.one (.e (eI (hf n : Int)))) := by
  refine fn_intro (T := tab) tOk Tryd.func76 rfl (by kernel_rfl) (by simp [Tryd.ntmps76]) ?_
  intro X hX
  have hnt : X.nt = 11 := hX
  clear hX
  repeat' (first | refine tr_seq ?_ | refine reg (T := tab) tOk hnt rfl ?_ ?_ | refine regD (T := tab) tOk mixedR hnt rfl (by decide +kernel) ?_ ?_ | refine tr_block ?_ | refine tr_skip ?_)
  · (dsimp only [AllP]; (repeat' first | exact trivial | assumption | exact Nat.le_of_ble_eq_true rfl | apply And.intro | decide | intro _ | exact rfl))
  · (dsimp only [AllP]; (repeat' first | exact trivial | assumption | exact Nat.le_of_ble_eq_true rfl | apply And.intro | decide | intro _ | exact rfl))
  repeat' (first | refine tr_seq ?_ | refine tr_block ?_ | refine tr_skip ?_)
  refine tr_loop (σ := Nat) (fun j => St.of [(0, .one (.e (eI (n : Int)))), (3, .one (.e (eI ((2 ^ j : Nat) : Int))))] []) (fun j => j ≤ 5 ∧ 2 ^ j ≤ hf n) (fun j => 5 - j) (0) (le_of (ad := []) (by refine ⟨?_, ?_, trivial⟩ <;> first | exact trivial | rfl | exact ⟨rfl, rfl⟩ | exact ⟨rfl, rfl, rfl⟩ | exact ⟨rfl, rfl, rfl, rfl⟩ | exact ⟨rfl, rfl, rfl, rfl, rfl⟩ | exact congrArg (fun z : Int => E.v (.int .i64 z)) (wrap64_id (by omega) (by omega))) trivial) ⟨by omega, (hf_rng n).1⟩ ?_
  rintro j ⟨h2, h3⟩
  obtain ⟨k1, k2⟩ := half_step hn h2 h3
  have h64 : 2 ^ j ≤ 2 ^ 5 := Nat.pow_le_pow_right (by decide) h2
  have w : IntKind.i64.wrap (2 * ((2 ^ j : Nat) : Int)) = ((2 * 2 ^ j : Nat) : Int) := by
    generalize 2 ^ j = q at *
    exact wrap64_id (by omega) (by omega)
  repeat' (first | refine tr_seq ?_ | refine reg (T := tab) tOk hnt rfl ?_ ?_ | refine regD (T := tab) tOk mixedR hnt rfl (by decide +kernel) ?_ ?_ | refine tr_block ?_ | refine tr_skip ?_)
  · (dsimp only [AllP]; (repeat' first | exact trivial | assumption | exact Nat.le_of_ble_eq_true rfl | apply And.intro | decide | intro _ | exact rfl))
  repeat' (first | refine tr_seq ?_ | refine tr_block ?_ | refine tr_skip ?_)
  refine tr_cond rfl (fun hc => ?_) (fun hc => ?_)
  · have hc : IntKind.i64.wrap (2 * ((2 ^ j : Nat) : Int)) < (n : Int) := of_decide_eq_true hc
    rw [w] at hc
    obtain ⟨k3, k4⟩ := k2 (by omega)
    have w2 : IntKind.i64.wrap (((2 ^ j : Nat) : Int) * 2) = ((2 ^ (j + 1) : Nat) : Int) := by
      rw [Int.mul_comm, w, Nat.pow_succ, Nat.mul_comm]
    repeat' (first | refine tr_seq ?_ | refine reg (T := tab) tOk hnt rfl ?_ ?_ | refine regD (T := tab) tOk mixedR hnt rfl (by decide +kernel) ?_ ?_ | refine tr_block ?_ | refine tr_skip ?_)
    · (dsimp only [AllP]; (repeat' first | exact trivial | assumption | exact Nat.le_of_ble_eq_true rfl | apply And.intro | decide | intro _ | exact rfl))
    exact ⟨j + 1, ⟨k3, k4⟩, by omega, le_of (ad := []) ⟨rfl, congrArg (fun z : Int => E.v (.int .i64 z)) w2, trivial⟩ trivial⟩
  have hc : ¬ IntKind.i64.wrap (2 * ((2 ^ j : Nat) : Int)) < (n : Int) := of_decide_eq_false hc
  rw [w] at hc
  refine tr_exit ?_
  repeat' (first | refine tr_seq ?_ | refine reg (T := tab) tOk hnt rfl ?_ ?_ | refine regD (T := tab) tOk mixedR hnt rfl (by decide +kernel) ?_ ?_ | refine tr_block ?_ | refine tr_skip ?_)
  · (dsimp only [AllP]; (repeat' first | exact trivial | assumption | exact Nat.le_of_ble_eq_true rfl | apply And.intro | decide | intro _ | exact rfl))
  rw [k1 (by omega)]
  exact tr_ret ⟨.inr rfl, _, _, rfl, trivial, rfl⟩
set_option maxRecDepth 10000 in
theorem below_fn (n : Nat) (h1 : 2 ≤ n) (hn : n ≤ 64) : FnD Tryd.prog 63 [.one (.e (eI (n : Int)))] (.one (.e (eI (hf n : Int)))) := by
  refine fn_intro (T := tab) tOk Tryd.func63 rfl (by kernel_rfl) (by simp [Tryd.ntmps63]) ?_
  intro X hX
  have hnt : X.nt = 10 := hX
  clear hX
  repeat' (first | refine tr_seq ?_ | refine reg (T := tab) tOk hnt rfl ?_ ?_ | refine regD (T := tab) tOk mixedR hnt rfl (by decide +kernel) ?_ ?_ | refine tr_block ?_ | refine tr_skip ?_)
  · (dsimp only [AllP]; (repeat' first | exact trivial | assumption | exact Nat.le_of_ble_eq_true rfl | apply And.intro | decide | intro _ | exact rfl))
  · (dsimp only [AllP]; (repeat' first | exact trivial | assumption | exact Nat.le_of_ble_eq_true rfl | apply And.intro | decide | intro _ | exact rfl))
  repeat' (first | refine tr_seq ?_ | refine tr_block ?_ | refine tr_skip ?_)
  refine tr_loop (σ := Nat) (fun j => St.of [(0, .one (.e (eI (n : Int)))), (3, .one (.e (eI ((2 ^ j : Nat) : Int))))] []) (fun j => j ≤ 5 ∧ hf n ≤ 2 ^ j) (fun j => j) (5) (le_of (ad := []) (by refine ⟨?_, ?_, trivial⟩ <;> first | exact trivial | rfl | exact ⟨rfl, rfl⟩ | exact ⟨rfl, rfl, rfl⟩ | exact ⟨rfl, rfl, rfl, rfl⟩ | exact ⟨rfl, rfl, rfl, rfl, rfl⟩ | exact congrArg (fun z : Int => E.v (.int .i64 z)) (wrap64_id (by omega) (by omega))) trivial) ⟨by omega, (hf_rng n).2⟩ ?_
  rintro j ⟨h2, h3⟩
  obtain ⟨k1, k2⟩ := below_step h1 hn h2 h3
  repeat' (first | refine tr_seq ?_ | refine reg (T := tab) tOk hnt rfl ?_ ?_ | refine regD (T := tab) tOk mixedR hnt rfl (by decide +kernel) ?_ ?_ | refine tr_block ?_ | refine tr_skip ?_)
  · (dsimp only [AllP]; (repeat' first | exact trivial | assumption | exact Nat.le_of_ble_eq_true rfl | apply And.intro | decide | intro _ | exact rfl))
  repeat' (first | refine tr_seq ?_ | refine tr_block ?_ | refine tr_skip ?_)
  refine tr_cond rfl (fun hc => ?_) (fun hc => ?_)
  · have hc : (n : Int) ≤ ((2 ^ j : Nat) : Int) := of_decide_eq_true hc
    obtain ⟨k3, k4⟩ := k2 (by omega)
    obtain ⟨j, rfl⟩ : ∃ i, j = i + 1 := ⟨j - 1, by omega⟩
    have w2 := two_tdiv j (by omega)
    repeat' (first | refine tr_seq ?_ | refine reg (T := tab) tOk hnt rfl ?_ ?_ | refine regD (T := tab) tOk mixedR hnt rfl (by decide +kernel) ?_ ?_ | refine tr_block ?_ | refine tr_skip ?_)
    · (dsimp only [AllP]; (repeat' first | exact trivial | assumption | exact Nat.le_of_ble_eq_true rfl | apply And.intro | decide | intro _ | exact rfl))
    exact ⟨j, ⟨by omega, k4⟩, by omega, le_of (ad := []) ⟨rfl, congrArg (fun z : Int => E.v (.int .i64 z)) w2, trivial⟩ trivial⟩
  have hc : ¬ (n : Int) ≤ ((2 ^ j : Nat) : Int) := of_decide_eq_false hc
  refine tr_exit ?_
  repeat' (first | refine tr_seq ?_ | refine reg (T := tab) tOk hnt rfl ?_ ?_ | refine regD (T := tab) tOk mixedR hnt rfl (by decide +kernel) ?_ ?_ | refine tr_block ?_ | refine tr_skip ?_)
  · (dsimp only [AllP]; (repeat' first | exact trivial | assumption | exact Nat.le_of_ble_eq_true rfl | apply And.intro | decide | intro _ | exact rfl))
  rw [k1 (by omega)]
  exact tr_ret ⟨.inr rfl, _, _, rfl, trivial, rfl⟩
set_option maxRecDepth 10000 in
theorem pair_fn (mode : Int) (a b : Byt) : FnG Tryd.prog 77 gK [.one (.e (eI mode)), .one (.e (eBytes a)), .one (.e (eBytes b))] (rBE (dgF mode 6 [a, b])) := by
  refine fn_introG (T := tab) tOk Tryd.func77 rfl (by kernel_rfl) (by simp [Tryd.ntmps77]) ?_
  intro X hX
  have hnt : X.nt = 15 := hX
  clear hX
  repeat' (first | refine tr_seq ?_ | refine reg (T := tab) tOk hnt rfl ?_ ?_ | refine regD (T := tab) tOk mixedR hnt rfl (by decide +kernel) ?_ ?_ | refine tr_block ?_ | refine tr_skip ?_)
  · (dsimp only [AllP]; (repeat' first | exact trivial | assumption | exact Nat.le_of_ble_eq_true rfl | apply And.intro | decide | intro _ | exact rfl))
  repeat' (first | refine tr_seq ?_ | refine tr_block ?_ | refine tr_skip ?_)
  refine tr_region (lex (T := tab) tOk hnt rfl ?_ (callV rfl rfl rfl rfl rfl rfl rfl hnt rfl (Digest_fn mode 6 [a, b]) (lex (T := tab) tOk hnt rfl ?_ (Lex.nil _)))) ?_
  · (dsimp only [AllP]; (repeat' first | exact trivial | assumption | exact Nat.le_of_ble_eq_true rfl | apply And.intro | decide | intro _ | exact rfl))
  · (dsimp only [AllP]; (repeat' first | exact trivial | assumption | exact Nat.le_of_ble_eq_true rfl | apply And.intro | decide | intro _ | exact rfl))
  exact tr_ret ⟨.inr rfl, _, _, rfl, trivial, rfl⟩

def stP (mode : Int) (b : Bool) (p d : Byt) : Byt × Int := bif b then dgF mode 6 [p, d] else dgF mode 6 [d, p]
theorem stP_U (mode : Int) (b : Bool) (p d : Byt) : stU (pO mode) b p d = if (stP mode b p d).2 = 0 then some (stP mode b p d).1 else none := by
  cases b <;> rfl
def inclF (mode : Int) (entry : Byt) : Nat → Nat → Nat → List Byt → Byt × Bool
  | 0, _, _, _ => ([], false)
  | f + 1, n, i, path => if n = 1 then ((dgF mode 5 [entry]).1, decide ((dgF mode 5 [entry]).2 = 0 ∧ path = [])) else match path.getLast? with
    | none => ([], false)
    | some p => if (inclF mode entry f (if i < hf n then hf n else n - hf n) (if i < hf n then i else i - hf n) path.dropLast).2 = false then ([], false) else
      ((stP mode (!decide (i < hf n)) p (inclF mode entry f (if i < hf n then hf n else n - hf n) (if i < hf n then i else i - hf n) path.dropLast).1).1, decide ((stP mode (!decide (i < hf n)) p (inclF mode entry f (if i < hf n then hf n else n - hf n) (if i < hf n then i else i - hf n) path.dropLast).1).2 = 0))
theorem ob_step (mode : Int) (b : Bool) (p : Byt) (r : Byt × Bool) : obF (if r.2 = false then ([], false) else ((stP mode b p r.1).1, decide ((stP mode b p r.1).2 = 0))) = (obF r).bind (stU (pO mode) b p) := by
  obtain ⟨d, ok⟩ := r
  cases ok with
  | false => rfl
  | true =>
    rw [if_neg (by simp)]
    show _ = stU (pO mode) b p d
    rw [stP_U]
    generalize stP mode b p d = q
    obtain ⟨c, e⟩ := q
    by_cases he : e = 0 <;> simp [obF, he]
theorem shI_succ (f n i : Nat) (hn : 2 ≤ n) : shI (f + 1) n i = shI f (if i < hf n then hf n else n - hf n) (if i < hf n then i else i - hf n) ++ [!decide (i < hf n)] := by
  rw [shI, if_neg (by omega)]
  by_cases h : i < hf n <;> simp [h]
theorem incl_up (mode : Int) (entry : Byt) : ∀ (f n i : Nat) (path : List Byt), 1 ≤ n → n ≤ f → obF (inclF mode entry f n i path) = (eO mode entry).bind (upS (pO mode) (shI f n i) path)
  | 0, n, i, path, h1, h2 => by omega
  | f + 1, n, i, path, h1, h2 => by
    rw [inclF]
    by_cases hn : n = 1
    · subst hn
      rw [if_pos rfl]
      show _ = (dO mode 5 [entry]).bind (upS (pO mode) [] path)
      unfold dO
      generalize dgF mode 5 [entry] = q
      obtain ⟨c, e⟩ := q
      by_cases he : e = 0
      · cases path with
        | nil => simp [obF, he, upS]
        | cons p ps => simp [obF, he, upS]
      · simp [obF, he]
    · have hh := hf_lt (n := n) (by omega)
      rw [if_neg hn, shI_succ f n i (by omega)]
      rcases List.eq_nil_or_concat path with rfl | ⟨ps, p, rfl⟩
      · show none = _
        cases eO mode entry with
        | none => rfl
        | some d => exact (upS_nil ..).symm
      · rw [List.concat_eq_append, List.getLast?_concat, List.dropLast_concat]
        dsimp only
        rw [ob_step, incl_up mode entry f _ _ ps (by split <;> omega) (by split <;> omega)]
        cases eO mode entry with
        | none => rfl
        | some d => exact (upS_snoc ..).symm

set_option maxRecDepth 10000 in
theorem included_succ (mode : Int) (entry : Byt) (f : Nat) (ih : ∀ (n i : Nat) (path : List Byt), 1 ≤ n → n ≤ f → n ≤ 64 → i < n → FnG Tryd.prog 44 gK [.one (.e (eI mode)), .one (.e (eI (n : Int))), .one (.e (eI (i : Int))), .one (.e (eBytes entry)), .one (.e (eLists path))] (rBB (inclF mode entry f n i path))) (n i : Nat) (path : List Byt) (h1 : 1 ≤ n) (hnf : n ≤ f + 1) (hn : n ≤ 64) (hi : i < n) : FnG Tryd.prog 44 gK [.one (.e (eI mode)), .one (.e (eI (n : Int))), .one (.e (eI (i : Int))), .one (.e (eBytes entry)), .one (.e (eLists path))] (rBB (inclF mode entry (f + 1) n i path)) := by
  refine FnG.len ⟨_, _, Tryd.func44, rfl, by kernel_rfl⟩ 4 rfl fun hl4 => ?_
  refine fn_introG (T := tab) tOk Tryd.func44 rfl (by kernel_rfl) (by simp [Tryd.ntmps44]) ?_
  intro X hX
  have hnt : X.nt = 106 := hX
  clear hX
  have hll := lsLen path
  rw [hll] at hl4
  rw [inclF]
  repeat' (first | refine tr_seq ?_ | refine reg (T := tab) tOk hnt rfl ?_ ?_ | refine regD (T := tab) tOk mixedR hnt rfl (by decide +kernel) ?_ ?_ | refine tr_block ?_ | refine tr_skip ?_)
  · (dsimp only [AllP]; (repeat' first | exact trivial | assumption | exact Nat.le_of_ble_eq_true rfl | apply And.intro | decide | intro _ | exact rfl))
  · (dsimp only [AllP]; (repeat' first | exact trivial | assumption | exact Nat.le_of_ble_eq_true rfl | apply And.intro | decide | intro _ | exact rfl))
  repeat' (first | refine tr_seq ?_ | refine tr_block ?_ | refine tr_skip ?_)
  refine tr_cond rfl (fun hc => ?_) (fun hc => ?_)
  · have hc : (n : Int) = 1 := of_decide_eq_true hc
    rw [if_pos (by omega)]
    repeat' (first | refine tr_seq ?_ | refine tr_block ?_ | refine tr_skip ?_)
    refine tr_region (lex (T := tab) tOk hnt rfl ?_ (callV rfl rfl rfl rfl rfl rfl rfl hnt rfl (Digest_fn mode 5 [entry]) (lex (T := tab) tOk hnt rfl ?_ (Lex.nil _)))) ?_
    · (dsimp only [AllP]; (repeat' first | exact trivial | assumption | exact Nat.le_of_ble_eq_true rfl | apply And.intro | decide | intro _ | exact rfl))
    · (dsimp only [AllP]; (repeat' first | exact trivial | assumption | exact Nat.le_of_ble_eq_true rfl | apply And.intro | decide | intro _ | exact rfl))
    generalize dgF mode 5 [entry] = q
    obtain ⟨d, e⟩ := q
    repeat' (first | refine tr_seq ?_ | refine reg (T := tab) tOk hnt rfl ?_ ?_ | refine regD (T := tab) tOk mixedR hnt rfl (by decide +kernel) ?_ ?_ | refine tr_block ?_ | refine tr_skip ?_)
    · (dsimp only [AllP]; (repeat' first | exact trivial | assumption | exact Nat.le_of_ble_eq_true rfl | apply And.intro | decide | intro _ | exact rfl))
    refine tr_ret ⟨.inr rfl, _, _, rfl, trivial, ?_⟩
    have he : (bif decide (e = 0) then decide (((path.map fun p => [eBytes p]).length : Int) = 0) else false) = decide (e = 0 ∧ path = []) := by
      rw [hll]
      by_cases h0 : e = 0
      · cases path <;> simp [h0] <;> omega
      · simp [h0]
    exact congrArg (fun b : Bool => D.tup [(false, .es [eBytes d]), (false, .es [.v (.bool b)])]) he
  have hc : ¬ (n : Int) = 1 := of_decide_eq_false hc
  rw [if_neg (by omega)]
  have hh := hf_lt (n := n) (by omega)
  repeat' (first | refine tr_seq ?_ | refine reg (T := tab) tOk hnt rfl ?_ ?_ | refine regD (T := tab) tOk mixedR hnt rfl (by decide +kernel) ?_ ?_ | refine tr_block ?_ | refine tr_skip ?_)
  · (dsimp only [AllP]; (repeat' first | exact trivial | assumption | exact Nat.le_of_ble_eq_true rfl | apply And.intro | decide | intro _ | exact rfl))
  repeat' (first | refine tr_seq ?_ | refine tr_block ?_ | refine tr_skip ?_)
  refine tr_cond rfl (fun hc => ?_) (fun hc => ?_)
  · have hc : ((path.map fun p => [eBytes p]).length : Int) = 0 := of_decide_eq_true hc
    have : path = [] := List.eq_nil_of_length_eq_zero (by omega)
    subst this
    repeat' (first | refine tr_seq ?_ | refine reg (T := tab) tOk hnt rfl ?_ ?_ | refine regD (T := tab) tOk mixedR hnt rfl (by decide +kernel) ?_ ?_ | refine tr_block ?_ | refine tr_skip ?_)
    · (dsimp only [AllP]; (repeat' first | exact trivial | assumption | exact Nat.le_of_ble_eq_true rfl | apply And.intro | decide | intro _ | exact rfl))
    exact tr_ret ⟨.inr rfl, _, _, rfl, trivial, rfl⟩
  have hc : ¬ ((path.map fun p => [eBytes p]).length : Int) = 0 := of_decide_eq_false hc
  rcases List.eq_nil_or_concat path with rfl | ⟨ps, p, rfl⟩
  · exact absurd rfl hc
  rw [List.concat_eq_append] at hl4 hll hc ⊢
  rw [List.getLast?_concat, List.dropLast_concat]
  dsimp only
  have hl : ((ps ++ [p]).map fun p => [eBytes p]).length = ps.length + 1 := by simp
  have hpl : ps.length + 1 ≤ 9223372036854775807 := by
    simp only [List.length_append, List.length_singleton, maxLen] at hl4
    omega
  have w3 : IntKind.i64.wrap ((((ps ++ [p]).map fun p => [eBytes p]).length : Int) - 1) = (ps.length : Int) := by
    rw [hl, wrap64_id (by omega) (by omega)]
    omega
  repeat' (first | refine tr_seq ?_ | refine tr_block ?_ | refine tr_skip ?_)
  refine tr_region (lex (T := tab) tOk hnt rfl ?_ (call rfl rfl rfl rfl rfl rfl rfl hnt (half_fn n hn) (lex (T := tab) tOk hnt rfl ?_ (Lex.nil _)))) ?_
  · (dsimp only [AllP]; (repeat' first | exact trivial | assumption | exact Nat.le_of_ble_eq_true rfl | apply And.intro | decide | intro _ | exact rfl))
  · (dsimp only [AllP]; (repeat' first | exact trivial | assumption | exact Nat.le_of_ble_eq_true rfl | apply And.intro | decide | intro _ | exact rfl))
  rw [w3]
  have hsl : eLists ps = .sl (List.take (Int.toNat (ps.length : Int) - Int.toNat 0) (List.drop (Int.toNat 0) ((ps ++ [p]).map fun p => [eBytes p]))) := by
    simp [eLists]
  have a1 : (0 : Int) ≤ (ps.length : Int) := by omega
  have a2 : (ps.length : Int) ≤ (((ps ++ [p]).map fun p => [eBytes p]).length : Int) := by omega
  have a3 := lsOne (ps ++ [p])
  have a4 : (ps.length : Int) < (((ps ++ [p]).map fun p => [eBytes p]).length : Int) := by omega
  have a5 : (List.map (fun p => [eBytes p]) (ps ++ [p])).getD (Int.toNat (ps.length : Int)) [] = [eBytes p] := by
    rw [Int.toNat_natCast, lsGet _ (by simp)]
    simp [List.getD]
  repeat' (first | refine tr_seq ?_ | refine reg (T := tab) tOk hnt rfl ?_ ?_ | refine regD (T := tab) tOk mixedR hnt rfl (by decide +kernel) ?_ ?_ | refine tr_block ?_ | refine tr_skip ?_)
  · (dsimp only [AllP]; (repeat' first | exact trivial | assumption | exact Nat.le_of_ble_eq_true rfl | apply And.intro | decide | intro _ | exact rfl))
  repeat' (first | refine tr_seq ?_ | refine tr_block ?_ | refine tr_skip ?_)
  refine tr_cond rfl (fun hc => ?_) (fun hc => ?_)
  · have hc : (i : Int) < (hf n : Int) := of_decide_eq_true hc
    have hc : i < hf n := by omega
    have h := ih (hf n) i ps hh.1 (by omega) (by omega) hc
    rw [hsl] at h
    simp only [if_pos hc, decide_eq_true hc, Bool.not_true]
    generalize inclF mode entry f (hf n) i ps = r at *
    obtain ⟨b, ok⟩ := r
    repeat' (first | refine tr_seq ?_ | refine tr_block ?_ | refine tr_skip ?_)
    refine tr_region (lex (T := tab) tOk hnt rfl ?_ (callV rfl rfl rfl rfl rfl rfl rfl hnt rfl (h) (lex (T := tab) tOk hnt rfl ?_ (Lex.nil _)))) ?_
    · (dsimp only [AllP]; (repeat' first | exact trivial | assumption | exact Nat.le_of_ble_eq_true rfl | apply And.intro | exact eCells_len1 _ _ ‹_› | exact eCells_isByte _ _ ‹_› | intro _ | exact rfl | omega))
    · (dsimp only [AllP]; (repeat' first | exact trivial | assumption | exact Nat.le_of_ble_eq_true rfl | apply And.intro | decide | intro _ | exact rfl))
    repeat' (first | refine tr_seq ?_ | refine reg (T := tab) tOk hnt rfl ?_ ?_ | refine regD (T := tab) tOk mixedR hnt rfl (by decide +kernel) ?_ ?_ | refine tr_block ?_ | refine tr_skip ?_)
    · (dsimp only [AllP]; (repeat' first | exact trivial | assumption | exact Nat.le_of_ble_eq_true rfl | apply And.intro | decide | intro _ | exact rfl))
    cases ok with
    | false =>
      repeat' (first | refine tr_seq ?_ | refine tr_block ?_ | refine tr_skip ?_)
      refine tr_cond rfl (fun _ => ?_) (fun h => nomatch (show true = false from h))
      repeat' (first | refine tr_seq ?_ | refine reg (T := tab) tOk hnt rfl ?_ ?_ | refine regD (T := tab) tOk mixedR hnt rfl (by decide +kernel) ?_ ?_ | refine tr_block ?_ | refine tr_skip ?_)
      · (dsimp only [AllP]; (repeat' first | exact trivial | assumption | exact Nat.le_of_ble_eq_true rfl | apply And.intro | decide | intro _ | exact rfl))
      exact tr_ret ⟨.inr rfl, _, _, rfl, trivial, rfl⟩
    | true =>
    repeat' (first | refine tr_seq ?_ | refine tr_block ?_ | refine tr_skip ?_)
    refine tr_cond rfl (fun h => nomatch (show false = true from h)) (fun _ => ?_)
    have hp : ∀ x : D, x = .one (.e (eBytes p)) → FnG Tryd.prog 77 gK [.one (.e (eI mode)), .one (.e (eBytes b)), x] (rBE (stP mode false p b)) := fun x e => by
      rw [e]
      exact pair_fn mode b p
    rw [if_neg (by simp)]
    dsimp only
    generalize stP mode false p b = q at *
    obtain ⟨c, e⟩ := q
    repeat' (first | refine tr_seq ?_ | refine tr_block ?_ | refine tr_skip ?_)
    refine tr_region (lex (T := tab) tOk hnt rfl ?_ (callV rfl rfl rfl rfl rfl rfl rfl hnt rfl (hp _ (by exact congrArg (fun z => D.one (D0.e (E.sl (List.getD z 0 E.dflt).xs))) a5)) (lex (T := tab) tOk hnt rfl ?_ (Lex.nil _)))) ?_
    · rw [a5]
      (dsimp only [AllP]; (repeat' first | exact trivial | assumption | exact Nat.le_of_ble_eq_true rfl | apply And.intro | exact eCells_len1 _ _ ‹_› | exact eCells_isByte _ _ ‹_› | intro _ | exact rfl | omega))
    · (dsimp only [AllP]; (repeat' first | exact trivial | assumption | exact Nat.le_of_ble_eq_true rfl | apply And.intro | decide | intro _ | exact rfl))
    repeat' (first | refine tr_seq ?_ | refine reg (T := tab) tOk hnt rfl ?_ ?_ | refine regD (T := tab) tOk mixedR hnt rfl (by decide +kernel) ?_ ?_ | refine tr_block ?_ | refine tr_skip ?_)
    · (dsimp only [AllP]; (repeat' first | exact trivial | assumption | exact Nat.le_of_ble_eq_true rfl | apply And.intro | decide | intro _ | exact rfl))
    exact tr_ret ⟨.inr rfl, _, _, rfl, trivial, rfl⟩
  have hc : ¬ (i : Int) < (hf n : Int) := of_decide_eq_false hc
  have hc : ¬ i < hf n := by omega
  have h := ih (n - hf n) (i - hf n) ps (by omega) (by omega) (by omega) (by omega)
  have w4 : IntKind.i64.wrap ((n : Int) - (hf n : Int)) = ((n - hf n : Nat) : Int) := by
    rw [wrap64_id (by omega) (by omega)]
    omega
  have w5 : IntKind.i64.wrap ((i : Int) - (hf n : Int)) = ((i - hf n : Nat) : Int) := by
    rw [wrap64_id (by omega) (by omega)]
    omega
  rw [hsl, ← w4, ← w5] at h
  simp only [if_neg hc, decide_eq_false hc, Bool.not_false]
  generalize inclF mode entry f (n - hf n) (i - hf n) ps = r at *
  obtain ⟨b, ok⟩ := r
  repeat' (first | refine tr_seq ?_ | refine tr_block ?_ | refine tr_skip ?_)
  refine tr_region (lex (T := tab) tOk hnt rfl ?_ (callV rfl rfl rfl rfl rfl rfl rfl hnt rfl (h) (lex (T := tab) tOk hnt rfl ?_ (Lex.nil _)))) ?_
  · (dsimp only [AllP]; (repeat' first | exact trivial | assumption | exact Nat.le_of_ble_eq_true rfl | apply And.intro | exact eCells_len1 _ _ ‹_› | exact eCells_isByte _ _ ‹_› | intro _ | exact rfl | omega))
  · (dsimp only [AllP]; (repeat' first | exact trivial | assumption | exact Nat.le_of_ble_eq_true rfl | apply And.intro | decide | intro _ | exact rfl))
  repeat' (first | refine tr_seq ?_ | refine reg (T := tab) tOk hnt rfl ?_ ?_ | refine regD (T := tab) tOk mixedR hnt rfl (by decide +kernel) ?_ ?_ | refine tr_block ?_ | refine tr_skip ?_)
  · (dsimp only [AllP]; (repeat' first | exact trivial | assumption | exact Nat.le_of_ble_eq_true rfl | apply And.intro | decide | intro _ | exact rfl))
  cases ok with
  | false =>
    repeat' (first | refine tr_seq ?_ | refine tr_block ?_ | refine tr_skip ?_)
    refine tr_cond rfl (fun _ => ?_) (fun h => nomatch (show true = false from h))
    repeat' (first | refine tr_seq ?_ | refine reg (T := tab) tOk hnt rfl ?_ ?_ | refine regD (T := tab) tOk mixedR hnt rfl (by decide +kernel) ?_ ?_ | refine tr_block ?_ | refine tr_skip ?_)
    · (dsimp only [AllP]; (repeat' first | exact trivial | assumption | exact Nat.le_of_ble_eq_true rfl | apply And.intro | decide | intro _ | exact rfl))
    exact tr_ret ⟨.inr rfl, _, _, rfl, trivial, rfl⟩
  | true =>
  repeat' (first | refine tr_seq ?_ | refine tr_block ?_ | refine tr_skip ?_)
  refine tr_cond rfl (fun h => nomatch (show false = true from h)) (fun _ => ?_)
  have hp : ∀ x : D, x = .one (.e (eBytes p)) → FnG Tryd.prog 77 gK [.one (.e (eI mode)), x, .one (.e (eBytes b))] (rBE (stP mode true p b)) := fun x e => by
    rw [e]
    exact pair_fn mode p b
  rw [if_neg (by simp)]
  dsimp only
  generalize stP mode true p b = q at *
  obtain ⟨c, e⟩ := q
  repeat' (first | refine tr_seq ?_ | refine tr_block ?_ | refine tr_skip ?_)
  refine tr_region (lex (T := tab) tOk hnt rfl ?_ (callV rfl rfl rfl rfl rfl rfl rfl hnt rfl (hp _ (by exact congrArg (fun z => D.one (D0.e (E.sl (List.getD z 0 E.dflt).xs))) a5)) (lex (T := tab) tOk hnt rfl ?_ (Lex.nil _)))) ?_
  · rw [a5]
    (dsimp only [AllP]; (repeat' first | exact trivial | assumption | exact Nat.le_of_ble_eq_true rfl | apply And.intro | exact eCells_len1 _ _ ‹_› | exact eCells_isByte _ _ ‹_› | intro _ | exact rfl | omega))
  · (dsimp only [AllP]; (repeat' first | exact trivial | assumption | exact Nat.le_of_ble_eq_true rfl | apply And.intro | decide | intro _ | exact rfl))
  repeat' (first | refine tr_seq ?_ | refine reg (T := tab) tOk hnt rfl ?_ ?_ | refine regD (T := tab) tOk mixedR hnt rfl (by decide +kernel) ?_ ?_ | refine tr_block ?_ | refine tr_skip ?_)
  · (dsimp only [AllP]; (repeat' first | exact trivial | assumption | exact Nat.le_of_ble_eq_true rfl | apply And.intro | decide | intro _ | exact rfl))
  exact tr_ret ⟨.inr rfl, _, _, rfl, trivial, rfl⟩
theorem included_fn (mode : Int) (entry : Byt) : ∀ (f n i : Nat) (path : List Byt), 1 ≤ n → n ≤ f → n ≤ 64 → i < n → FnG Tryd.prog 44 gK [.one (.e (eI mode)), .one (.e (eI (n : Int))), .one (.e (eI (i : Int))), .one (.e (eBytes entry)), .one (.e (eLists path))] (rBB (inclF mode entry f n i path))
  | 0, n, i, path, h1, h2, _, _ => by omega
  | f + 1, n, i, path, h1, h2, h3, h4 => included_succ mode entry f (included_fn mode entry f) n i path h1 h2 h3 h4
def icF (mode : Int) (top : Byt) (n i : Int) (entry : Byt) (path : List Byt) : Int :=
  if mode ≠ 1 ∧ mode ≠ 2 then 2 else if n < 0 ∨ 64 < n then 1 else if i < 0 ∨ n ≤ i then 6 else endC ((eO mode entry).bind (upS (pO mode) (shB 7 i.toNat (n.toNat - 1)) path)) top
set_option maxRecDepth 10000 in
theorem CheckInclude_fn (mode : Int) (top : Byt) (n i : Int) (entry : Byt) (path : List Byt) : FnG Tryd.prog 17 gK [.one (.e (eI mode)), .one (.e (eBytes top)), .one (.e (eI n)), .one (.e (eI i)), .one (.e (eBytes entry)), .one (.e (eLists path))] (.one (.e (eI (icF mode top n i entry path)))) := by
  refine fn_introG (T := tab) tOk Tryd.func17 rfl (by kernel_rfl) (by simp [Tryd.ntmps17]) ?_
  intro X hX
  have hnt : X.nt = 48 := hX
  clear hX
  unfold icF
  repeat' (first | refine tr_seq ?_ | refine reg (T := tab) tOk hnt rfl ?_ ?_ | refine regD (T := tab) tOk mixedR hnt rfl (by decide +kernel) ?_ ?_ | refine tr_block ?_ | refine tr_skip ?_)
  · (dsimp only [AllP]; (repeat' first | exact trivial | assumption | exact Nat.le_of_ble_eq_true rfl | apply And.intro | decide | intro _ | exact rfl))
  repeat' (first | refine tr_seq ?_ | refine tr_block ?_ | refine tr_skip ?_)
  refine tr_region (lex (T := tab) tOk hnt rfl ?_ (call rfl rfl rfl rfl rfl rfl rfl hnt (rmodes_fn mode) (lex (T := tab) tOk hnt rfl ?_ (Lex.nil _)))) ?_
  · (dsimp only [AllP]; (repeat' first | exact trivial | assumption | exact Nat.le_of_ble_eq_true rfl | apply And.intro | decide | intro _ | exact rfl))
  · (dsimp only [AllP]; (repeat' first | exact trivial | assumption | exact Nat.le_of_ble_eq_true rfl | apply And.intro | decide | intro _ | exact rfl))
  rw [Bool.not_not]
  repeat' (first | refine tr_seq ?_ | refine tr_block ?_ | refine tr_skip ?_)
  refine tr_cond rfl (fun hc => ?_) (fun hc => ?_)
  · have hc := of_decide_eq_true hc
    rw [if_pos hc]
    repeat' (first | refine tr_seq ?_ | refine reg (T := tab) tOk hnt rfl ?_ ?_ | refine regD (T := tab) tOk mixedR hnt rfl (by decide +kernel) ?_ ?_ | refine tr_block ?_ | refine tr_skip ?_)
    · (dsimp only [AllP]; (repeat' first | exact trivial | assumption | exact Nat.le_of_ble_eq_true rfl | apply And.intro | decide | intro _ | exact rfl))
    exact tr_ret ⟨.inr rfl, _, _, rfl, trivial, rfl⟩
  have hc := of_decide_eq_false hc
  rw [if_neg hc]
  repeat' (first | refine tr_seq ?_ | refine reg (T := tab) tOk hnt rfl ?_ ?_ | refine regD (T := tab) tOk mixedR hnt rfl (by decide +kernel) ?_ ?_ | refine tr_block ?_ | refine tr_skip ?_)
  · (dsimp only [AllP]; (repeat' first | exact trivial | assumption | exact Nat.le_of_ble_eq_true rfl | apply And.intro | decide | intro _ | exact rfl))
  repeat' (first | refine tr_seq ?_ | refine tr_block ?_ | refine tr_skip ?_)
  refine tr_cond rfl (fun hc => ?_) (fun hc => ?_)
  · have hc := of_decide_eq_true ((orB _ _).symm.trans hc)
    rw [if_pos hc]
    repeat' (first | refine tr_seq ?_ | refine reg (T := tab) tOk hnt rfl ?_ ?_ | refine regD (T := tab) tOk mixedR hnt rfl (by decide +kernel) ?_ ?_ | refine tr_block ?_ | refine tr_skip ?_)
    · (dsimp only [AllP]; (repeat' first | exact trivial | assumption | exact Nat.le_of_ble_eq_true rfl | apply And.intro | decide | intro _ | exact rfl))
    exact tr_ret ⟨.inr rfl, _, _, rfl, trivial, rfl⟩
  have hc := of_decide_eq_false ((orB _ _).symm.trans hc)
  rw [if_neg hc]
  repeat' (first | refine tr_seq ?_ | refine reg (T := tab) tOk hnt rfl ?_ ?_ | refine regD (T := tab) tOk mixedR hnt rfl (by decide +kernel) ?_ ?_ | refine tr_block ?_ | refine tr_skip ?_)
  · (dsimp only [AllP]; (repeat' first | exact trivial | assumption | exact Nat.le_of_ble_eq_true rfl | apply And.intro | decide | intro _ | exact rfl))
  repeat' (first | refine tr_seq ?_ | refine tr_block ?_ | refine tr_skip ?_)
  refine tr_cond rfl (fun hc => ?_) (fun hc => ?_)
  · have hc := of_decide_eq_true ((orB _ _).symm.trans hc)
    rw [if_pos hc]
    repeat' (first | refine tr_seq ?_ | refine reg (T := tab) tOk hnt rfl ?_ ?_ | refine regD (T := tab) tOk mixedR hnt rfl (by decide +kernel) ?_ ?_ | refine tr_block ?_ | refine tr_skip ?_)
    · (dsimp only [AllP]; (repeat' first | exact trivial | assumption | exact Nat.le_of_ble_eq_true rfl | apply And.intro | decide | intro _ | exact rfl))
    exact tr_ret ⟨.inr rfl, _, _, rfl, trivial, rfl⟩
  have hc2 := of_decide_eq_false ((orB _ _).symm.trans hc)
  rw [if_neg hc2]
  obtain ⟨i, rfl⟩ : ∃ m : Nat, i = (m : Int) := ⟨i.toNat, by omega⟩
  obtain ⟨n, rfl⟩ : ∃ m : Nat, n = (m : Int) := ⟨n.toNat, by omega⟩
  rw [Int.toNat_natCast, Int.toNat_natCast, ← shI_shB (by omega) (by omega), ← incl_up mode entry 64 n i path (by omega) (by omega)]
  have hin := included_fn mode entry 64 n i path (by omega) (by omega) (by omega) (by omega)
  generalize inclF mode entry 64 n i path = r at *
  obtain ⟨b, ok⟩ := r
  repeat' (first | refine tr_seq ?_ | refine tr_block ?_ | refine tr_skip ?_)
  refine tr_region (lex (T := tab) tOk hnt rfl ?_ (callV rfl rfl rfl rfl rfl rfl rfl hnt rfl (hin) (lex (T := tab) tOk hnt rfl ?_ (Lex.nil _)))) ?_
  · (dsimp only [AllP]; (repeat' first | exact trivial | assumption | exact Nat.le_of_ble_eq_true rfl | apply And.intro | decide | intro _ | exact rfl))
  · (dsimp only [AllP]; (repeat' first | exact trivial | assumption | exact Nat.le_of_ble_eq_true rfl | apply And.intro | decide | intro _ | exact rfl))
  repeat' (first | refine tr_seq ?_ | refine tr_block ?_ | refine tr_skip ?_)
  refine tr_region (lex (T := tab) tOk hnt rfl ?_ (callG rfl rfl rfl rfl rfl rfl hnt rfl (fun hq => ?_) (fun hq => Equal_fn b top) (lex (T := tab) tOk hnt rfl ?_ (Lex.nil _)))) ?_
  · (dsimp only [AllP]; (repeat' first | exact trivial | assumption | exact Nat.le_of_ble_eq_true rfl | apply And.intro | decide | intro _ | exact rfl))
  · exact ⟨hq, hq⟩
  · exact ⟨fun h => h, fun h => ⟨h, trivial⟩⟩
  repeat' (first | refine tr_seq ?_ | refine tr_block ?_ | refine tr_skip ?_)
  refine tr_cond rfl (fun hc => ?_) (fun hc => ?_)
  · have hR0 : endC (obF (b, ok)) top = 10 := by
      cases ok with
      | false => rfl
      | true =>
        have hc : (!decide (b = top)) = true := hc
        exact if_neg (by simpa using hc)
    rw [hR0]
    repeat' (first | refine tr_seq ?_ | refine reg (T := tab) tOk hnt rfl ?_ ?_ | refine regD (T := tab) tOk mixedR hnt rfl (by decide +kernel) ?_ ?_ | refine tr_block ?_ | refine tr_skip ?_)
    · (dsimp only [AllP]; (repeat' first | exact trivial | assumption | exact Nat.le_of_ble_eq_true rfl | apply And.intro | decide | intro _ | exact rfl))
    exact tr_ret ⟨.inr rfl, _, _, rfl, trivial, rfl⟩
  have hR0 : endC (obF (b, ok)) top = 0 := by
    cases ok with
    | false => nomatch (show true = false from hc)
    | true =>
      have hc : (!decide (b = top)) = false := hc
      exact if_pos (by simpa using hc)
  rw [hR0]
  repeat' (first | refine tr_seq ?_ | refine reg (T := tab) tOk hnt rfl ?_ ?_ | refine regD (T := tab) tOk mixedR hnt rfl (by decide +kernel) ?_ ?_ | refine tr_block ?_ | refine tr_skip ?_)
  · (dsimp only [AllP]; (repeat' first | exact trivial | assumption | exact Nat.le_of_ble_eq_true rfl | apply And.intro | decide | intro _ | exact rfl))
  exact tr_ret ⟨.inr rfl, _, _, rfl, trivial, rfl⟩
end Go.Proofs.YtjpmghphkkhcjaaDoor
