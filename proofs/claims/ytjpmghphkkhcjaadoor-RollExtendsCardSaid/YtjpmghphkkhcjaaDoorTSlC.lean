/- A slot under a root: its path checked. No condition. -/
import Derived.Test.YtjpmghphkkhcjaaDoorTSlR
import Derived.Test.YtjpmghphkkhcjaaDoorAb27
namespace Go.Proofs.YtjpmghphkkhcjaaDoor
open Go Go.RowKit Go.Proofs.YtjpmghphkkhcjaaDoor.Ab

def stepN (mode : Int) (b : Bool) (d p : List UInt8) : List UInt8 × Int := if b then ndF mode p d else ndF mode d p
def stepO (mode : Int) (b : Bool) (d p : List UInt8) : Option (List UInt8) := if (stepN mode b d p).2 = 0 then some (stepN mode b d p).1 else none
/-- from the bottom up -/
def upP (mode : Int) : List (List UInt8) → Nat → Nat → List UInt8 → Option (List UInt8)
  | [], 0, _, d => some d
  | [], _ + 1, _, _ => none
  | _ :: _, 0, _, _ => none
  | p :: ps, k + 1, i, d => (stepO mode (decide (i % 2 = 1)) d p).bind fun d' => upP mode ps k (i / 2) d'
/-- from the top down -/
def dnP (mode : Int) : Nat → Nat → List UInt8 → List (List UInt8) → Option (List UInt8)
  | 0, _, d, path => if path = [] then some d else none
  | k + 1, i, d, path => match path.getLast? with
    | none => none
    | some p => (dnP mode k (i % 2 ^ k) d path.dropLast).bind fun d' => stepO mode (decide (2 ^ k ≤ i)) d' p
theorem up_snoc (mode : Int) (p : List UInt8) : ∀ (ps : List (List UInt8)) (k i : Nat) (d : List UInt8), i < 2 ^ (k + 1) → upP mode (ps ++ [p]) (k + 1) i d = (upP mode ps k (i % 2 ^ k) d).bind fun d' => stepO mode (decide (2 ^ k ≤ i)) d' p
  | [], 0, i, d, hi => by
    have : decide (i % 2 = 1) = decide (2 ^ 0 ≤ i) := by
      rw [Nat.pow_zero]
      simp at hi
      congr 1
      simp
      omega
    show (stepO mode (decide (i % 2 = 1)) d p).bind (fun d' => upP mode [] 0 (i / 2) d') = stepO mode (decide (2 ^ 0 ≤ i)) d p
    rw [this]
    cases stepO mode (decide (2 ^ 0 ≤ i)) d p <;> rfl
  | [], k + 1, i, d, hi => by
    show (stepO mode (decide (i % 2 = 1)) d p).bind (fun d' => upP mode [] (k + 1) (i / 2) d') = none
    cases stepO mode (decide (i % 2 = 1)) d p <;> rfl
  | q :: qs, 0, i, d, hi => by
    show (stepO mode (decide (i % 2 = 1)) d q).bind (fun d' => upP mode (qs ++ [p]) 0 (i / 2) d') = none
    cases stepO mode (decide (i % 2 = 1)) d q with
    | none => rfl
    | some d' => cases qs <;> rfl
  | q :: qs, k + 1, i, d, hi => by
    have e1 : i % 2 ^ (k + 1) % 2 = i % 2 := Nat.mod_mod_of_dvd _ ⟨2 ^ k, by rw [Nat.pow_succ, Nat.mul_comm]⟩
    have e2 : i % 2 ^ (k + 1) / 2 = i / 2 % 2 ^ k := by rw [Nat.pow_succ, Nat.mul_comm, Nat.mod_mul_right_div_self]
    have e3 : decide (2 ^ k ≤ i / 2) = decide (2 ^ (k + 1) ≤ i) := by
      congr 1
      rw [Nat.pow_succ, Nat.le_div_iff_mul_le (by decide)]
    show (stepO mode (decide (i % 2 = 1)) d q).bind (fun d' => upP mode (qs ++ [p]) (k + 1) (i / 2) d') = (((stepO mode (decide (i % 2 ^ (k + 1) % 2 = 1)) d q).bind fun d' => upP mode qs k (i % 2 ^ (k + 1) / 2) d').bind fun d' => stepO mode (decide (2 ^ (k + 1) ≤ i)) d' p)
    rw [e1, e2]
    cases stepO mode (decide (i % 2 = 1)) d q with
    | none => rfl
    | some d' =>
      show upP mode (qs ++ [p]) (k + 1) (i / 2) d' = _
      rw [up_snoc mode p qs k (i / 2) d' (by rw [Nat.pow_succ] at hi; omega), e3]
      rfl
theorem up_dn (mode : Int) : ∀ (k i : Nat) (d : List UInt8) (path : List (List UInt8)), i < 2 ^ k → upP mode path k i d = dnP mode k i d path
  | 0, i, d, path, _ => by cases path <;> rfl
  | k + 1, i, d, path, hi => by
    rcases List.eq_nil_or_concat path with rfl | ⟨ps, p, rfl⟩
    · rfl
    · rw [List.concat_eq_append, up_snoc mode p ps k i d hi, dnP, List.getLast?_concat, List.dropLast_concat, up_dn mode k _ d ps (Nat.mod_lt _ (Nat.two_pow_pos k))]
def endC (o : Option (List UInt8)) (root : List UInt8) : Int := match o with
  | none => 10
  | some d => if d = root then 0 else 10
def pcF (mode : Int) (root : List UInt8) (n i : Int) (s : SlotT) (path : List (List UInt8)) : Int :=
  if mode ≠ 1 ∧ mode ≠ 2 then 2 else if powF n = false then 1 else if i < 0 ∨ n ≤ i then 6 else if (lfX mode s).2 ≠ 0 then (lfX mode s).2 else endC (upP mode path (Nat.log2 n.toNat) i.toNat (lfX mode s).1) root
theorem orDn (i n : Int) : (bif decide (i < 0) then true else decide (n ≤ i)) = decide (i < 0 ∨ n ≤ i) := by
  by_cases h : i < 0 <;> simp [h]
theorem strEq_B (a b : List UInt8) : strEq (bytesOf (eCells a)) (bytesOf (eCells b)) = decide (a = b) := by
  rw [strB_of, strB_of, strEq]
  have h (l : List UInt8) : (strB l).toList = l := by
    show (⟨l.toArray⟩ : ByteArray).toList = l
    simp
  rw [h, h, Bool.eq_iff_iff]
  simp
set_option maxRecDepth 10000 in
theorem Equal_fn (a b : List UInt8) : FnD Tryd.prog 45 [.one (.e (eBytes a)), .one (.e (eBytes b))] (.v (.bool (decide (a = b)))) := by
  refine fn_intro (T := tab) tOk Tryd.func45 rfl (by kernel_rfl) (by simp [Tryd.ntmps45]) ?_
  intro X hX
  have hnt : X.nt = 10 := hX
  clear hX
  have ha : ∀ cs ∈ eCells a, isByte cs := eCells_isByte _
  have hb : ∀ cs ∈ eCells b, isByte cs := eCells_isByte _
  repeat' (first | refine tr_seq ?_ | refine reg (T := tab) tOk hnt rfl ?_ ?_ | refine regD (T := tab) tOk mixedR hnt rfl (by decide +kernel) ?_ ?_ | refine tr_block ?_ | refine tr_skip ?_)
  · (dsimp only [AllP]; (repeat' first | exact trivial | assumption | exact Nat.le_of_ble_eq_true rfl | apply And.intro | decide | intro _ | exact rfl))
  · (dsimp only [AllP]; (repeat' first | exact trivial | assumption | exact Nat.le_of_ble_eq_true rfl | apply And.intro | exact eCells_len1 _ _ ‹_› | exact eCells_isByte _ _ ‹_› | intro _ | exact rfl | omega))
  exact tr_ret ⟨.inr rfl, _, _, rfl, trivial, congrArg (fun z => D.v (.bool z)) (strEq_B a b)⟩
theorem two_tdiv (k : Nat) (h : k ≤ 6) : IntKind.i64.wrap (((2 ^ (k + 1) : Nat) : Int).tdiv 2) = ((2 ^ k : Nat) : Int) := by
  rw [show ((2 ^ (k + 1) : Nat) : Int).tdiv 2 = ((2 ^ (k + 1) / 2 : Nat) : Int) from rfl, Nat.pow_succ, Nat.mul_div_cancel _ (by decide)]
  have : 2 ^ k ≤ 2 ^ 6 := Nat.pow_le_pow_right (by decide) h
  generalize 2 ^ k = q at *
  exact wrap64_id (by omega) (by omega)
theorem half_tdiv (i : Nat) (h : i ≤ 1000) : IntKind.i64.wrap ((i : Int).tdiv 2) = ((i / 2 : Nat) : Int) := by
  rw [show (i : Int).tdiv 2 = ((i / 2 : Nat) : Int) from rfl, wrap64_id (by omega) (by omega)]
set_option maxRecDepth 10000 in
theorem CheckPath_fn (mode : Int) (root : List UInt8) (n i : Int) (s : SlotT) (path : List (List UInt8)) : FnG Tryd.prog 19 gK [.one (.e (eI mode)), .one (.e (eBytes root)), .one (.e (eI n)), .one (.e (eI i)), .agg (.es (eS s)), .one (.e (eLists path))] (.one (.e (eI (pcF mode root n i s path)))) := by
  refine fn_introG (T := tab) tOk Tryd.func19 rfl (by kernel_rfl) (by simp [Tryd.ntmps19]) ?_
  intro X hX
  have hnt : X.nt = 78 := hX
  clear hX
  have hlf : FnG Tryd.prog 50 gK [.one (.e (eI mode)), .agg (.es (eS s))] (rBE (lfX mode s)) := Leaf_fn mode s.1 s.2.1 s.2.2.1
  unfold pcF
  generalize lfX mode s = r at *
  obtain ⟨d, e⟩ := r
  repeat' (first | refine tr_seq ?_ | refine reg (T := tab) tOk hnt rfl ?_ ?_ | refine regD (T := tab) tOk mixedR hnt rfl (by decide +kernel) ?_ ?_ | refine tr_block ?_ | refine tr_skip ?_)
  · (dsimp only [AllP]; (repeat' first | exact trivial | assumption | exact Nat.le_of_ble_eq_true rfl | apply And.intro | decide | intro _ | exact rfl))
  repeat' (first | refine tr_seq ?_ | refine tr_block ?_ | refine tr_skip ?_)
  refine tr_region (lex (T := tab) tOk hnt rfl ?_ (call rfl rfl rfl rfl rfl rfl rfl hnt (modes_fn mode) (lex (T := tab) tOk hnt rfl ?_ (Lex.nil _)))) ?_
  · (dsimp only [AllP]; (repeat' first | exact trivial | assumption | exact Nat.le_of_ble_eq_true rfl | apply And.intro | decide | intro _ | exact rfl))
  · (dsimp only [AllP]; (repeat' first | exact trivial | assumption | exact Nat.le_of_ble_eq_true rfl | apply And.intro | decide | intro _ | exact rfl))
  rw [Bool.not_not]
  repeat' (first | refine tr_seq ?_ | refine tr_block ?_ | refine tr_skip ?_)
  refine tr_cond rfl (fun hc => ?_) (fun hc => ?_)
  · have hc := of_decide_eq_true hc
    rw [if_pos hc]
    repeat' (first | refine tr_seq ?_ | refine reg (T := tab) tOk hnt rfl ?_ ?_ | refine regD (T := tab) tOk mixedR hnt rfl (by decide +kernel) ?_ ?_ | refine tr_block ?_ | refine tr_skip ?_)
    · (dsimp only [AllP]; (repeat' first | exact trivial | assumption | exact Nat.le_of_ble_eq_true rfl | apply And.intro | decide | intro _ | exact rfl))
    exact tr_ret ⟨.inr rfl, _, _, rfl, trivial, rfl⟩
  have hc := of_decide_eq_false hc
  rw [if_neg hc]
  repeat' (first | refine tr_seq ?_ | refine tr_block ?_ | refine tr_skip ?_)
  refine tr_region (lex (T := tab) tOk hnt rfl ?_ (call rfl rfl rfl rfl rfl rfl rfl hnt (power_fn n) (lex (T := tab) tOk hnt rfl ?_ (Lex.nil _)))) ?_
  · (dsimp only [AllP]; (repeat' first | exact trivial | assumption | exact Nat.le_of_ble_eq_true rfl | apply And.intro | decide | intro _ | exact rfl))
  · (dsimp only [AllP]; (repeat' first | exact trivial | assumption | exact Nat.le_of_ble_eq_true rfl | apply And.intro | decide | intro _ | exact rfl))
  cases hp : powF n with
  | false =>
    repeat' (first | refine tr_seq ?_ | refine tr_block ?_ | refine tr_skip ?_)
    refine tr_cond rfl (fun _ => ?_) (fun h => nomatch (show true = false from h))
    repeat' (first | refine tr_seq ?_ | refine reg (T := tab) tOk hnt rfl ?_ ?_ | refine regD (T := tab) tOk mixedR hnt rfl (by decide +kernel) ?_ ?_ | refine tr_block ?_ | refine tr_skip ?_)
    · (dsimp only [AllP]; (repeat' first | exact trivial | assumption | exact Nat.le_of_ble_eq_true rfl | apply And.intro | decide | intro _ | exact rfl))
    exact tr_ret ⟨.inr rfl, _, _, rfl, trivial, rfl⟩
  | true =>
  rw [if_neg (fun h => nomatch (show true = false from h))]
  repeat' (first | refine tr_seq ?_ | refine tr_block ?_ | refine tr_skip ?_)
  refine tr_cond rfl (fun h => nomatch (show false = true from h)) (fun _ => ?_)
  repeat' (first | refine tr_seq ?_ | refine reg (T := tab) tOk hnt rfl ?_ ?_ | refine regD (T := tab) tOk mixedR hnt rfl (by decide +kernel) ?_ ?_ | refine tr_block ?_ | refine tr_skip ?_)
  · (dsimp only [AllP]; (repeat' first | exact trivial | assumption | exact Nat.le_of_ble_eq_true rfl | apply And.intro | decide | intro _ | exact rfl))
  repeat' (first | refine tr_seq ?_ | refine tr_block ?_ | refine tr_skip ?_)
  refine tr_cond rfl (fun hc => ?_) (fun hc => ?_)
  · have hc := of_decide_eq_true ((orDn i _).symm.trans hc)
    rw [if_pos hc]
    repeat' (first | refine tr_seq ?_ | refine reg (T := tab) tOk hnt rfl ?_ ?_ | refine regD (T := tab) tOk mixedR hnt rfl (by decide +kernel) ?_ ?_ | refine tr_block ?_ | refine tr_skip ?_)
    · (dsimp only [AllP]; (repeat' first | exact trivial | assumption | exact Nat.le_of_ble_eq_true rfl | apply And.intro | decide | intro _ | exact rfl))
    exact tr_ret ⟨.inr rfl, _, _, rfl, trivial, rfl⟩
  have hc := of_decide_eq_false ((orDn i _).symm.trans hc)
  rw [if_neg hc]
  repeat' (first | refine tr_seq ?_ | refine tr_block ?_ | refine tr_skip ?_)
  refine tr_region (lex (T := tab) tOk hnt rfl ?_ (callV rfl rfl rfl rfl rfl rfl rfl hnt rfl (hlf) (lex (T := tab) tOk hnt rfl ?_ (Lex.nil _)))) ?_
  · (dsimp only [AllP]; (repeat' first | exact trivial | assumption | exact Nat.le_of_ble_eq_true rfl | apply And.intro | decide | intro _ | exact rfl))
  · (dsimp only [AllP]; (repeat' first | exact trivial | assumption | exact Nat.le_of_ble_eq_true rfl | apply And.intro | decide | intro _ | exact rfl))
  repeat' (first | refine tr_seq ?_ | refine reg (T := tab) tOk hnt rfl ?_ ?_ | refine regD (T := tab) tOk mixedR hnt rfl (by decide +kernel) ?_ ?_ | refine tr_block ?_ | refine tr_skip ?_)
  · (dsimp only [AllP]; (repeat' first | exact trivial | assumption | exact Nat.le_of_ble_eq_true rfl | apply And.intro | decide | intro _ | exact rfl))
  repeat' (first | refine tr_seq ?_ | refine tr_block ?_ | refine tr_skip ?_)
  refine tr_cond rfl (fun hc => ?_) (fun hc => ?_)
  · have hc : e ≠ 0 := of_decide_eq_true ((neD' e).symm.trans hc)
    rw [if_pos hc]
    repeat' (first | refine tr_seq ?_ | refine reg (T := tab) tOk hnt rfl ?_ ?_ | refine regD (T := tab) tOk mixedR hnt rfl (by decide +kernel) ?_ ?_ | refine tr_block ?_ | refine tr_skip ?_)
    · (dsimp only [AllP]; (repeat' first | exact trivial | assumption | exact Nat.le_of_ble_eq_true rfl | apply And.intro | decide | intro _ | exact rfl))
    exact tr_ret ⟨.inr rfl, _, _, rfl, trivial, rfl⟩
  have hc2 : ¬ e ≠ 0 := of_decide_eq_false ((neD' e).symm.trans hc)
  rw [if_neg hc2]
  obtain ⟨i, rfl⟩ : ∃ m : Nat, i = (m : Int) := ⟨i.toNat, by omega⟩
  obtain ⟨n, rfl⟩ : ∃ m : Nat, n = (m : Int) := ⟨n.toNat, by omega⟩
  obtain ⟨k, hk, rfl⟩ := pow_two n hp
  rw [Int.toNat_natCast, Int.toNat_natCast, Nat.log2_two_pow]
  have hik : i < 2 ^ k := by omega
  generalize hR : endC (upP mode path k i d) root = R
  have hpl : (path.map fun p => [eBytes p]).length = path.length := List.length_map ..
  repeat' (first | refine tr_seq ?_ | refine reg (T := tab) tOk hnt rfl ?_ ?_ | refine regD (T := tab) tOk mixedR hnt rfl (by decide +kernel) ?_ ?_ | refine tr_block ?_ | refine tr_skip ?_)
  · (dsimp only [AllP]; (repeat' first | exact trivial | assumption | exact Nat.le_of_ble_eq_true rfl | apply And.intro | decide | intro _ | exact rfl))
  repeat' (first | refine tr_seq ?_ | refine tr_block ?_ | refine tr_skip ?_)
  refine tr_loop (σ := Nat × Nat × Nat × List UInt8) (fun x => St.of [(0, .one (.e (eI mode))), (1, .one (.e (eBytes root))), (2, .v (.int .i64 ((2 ^ x.2.1 : Nat) : Int))), (3, .v (.int .i64 (x.2.2.1 : Int))), (13, .one (.e (eBytes x.2.2.2))), (41, .one (.e (eLists path))), (42, .v (.int .i64 ((path.map fun p => [eBytes p]).length : Nat))), (43, .v (.int .i64 (x.1 : Int))), ((1000000 + 0), .one (.eptr kE))] []) (fun x => endC (upP mode (path.drop x.1) x.2.1 x.2.2.1 x.2.2.2) root = R ∧ x.1 ≤ path.length ∧ x.1 + x.2.1 = k ∧ x.2.2.1 < 2 ^ x.2.1) (fun x => path.length - x.1) ((0, k, i, d)) (le_of (ad := []) (by refine ⟨?_, ?_, ?_, ?_, ?_, ?_, ?_, ?_, ?_, trivial⟩ <;> first | exact trivial | rfl | exact ⟨rfl, rfl⟩ | exact ⟨rfl, rfl, rfl⟩ | exact ⟨rfl, rfl, rfl, rfl⟩ | exact ⟨rfl, rfl, rfl, rfl, rfl⟩ | exact congrArg (fun z : Int => E.v (.int .i64 z)) (wrap64_id (by omega) (by omega))) trivial) ⟨hR, Nat.zero_le _, Nat.zero_add _, hik⟩ ?_
  rintro ⟨j, k', i', d⟩ ⟨h1, h2, h3, h4⟩
  dsimp only at h1 h2 h3 h4 ⊢
  have h64 : 2 ^ k' ≤ 2 ^ 6 := Nat.pow_le_pow_right (by decide) (by omega)
  repeat' (first | refine tr_seq ?_ | refine reg (T := tab) tOk hnt rfl ?_ ?_ | refine regD (T := tab) tOk mixedR hnt rfl (by decide +kernel) ?_ ?_ | refine tr_block ?_ | refine tr_skip ?_)
  · (dsimp only [AllP]; (repeat' first | exact trivial | assumption | exact Nat.le_of_ble_eq_true rfl | apply And.intro | decide | intro _ | exact rfl))
  repeat' (first | refine tr_seq ?_ | refine tr_block ?_ | refine tr_skip ?_)
  refine tr_cond rfl (fun hc => ?_) (fun hc => ?_)
  · have hc : (j : Int) < ((path.map fun p => [eBytes p]).length : Int) := of_decide_eq_true hc
    have hjl : j < path.length := by omega
    rw [List.drop_eq_getElem_cons hjl] at h1
    repeat' (first | refine tr_seq ?_ | refine reg (T := tab) tOk hnt rfl ?_ ?_ | refine regD (T := tab) tOk mixedR hnt rfl (by decide +kernel) ?_ ?_ | refine tr_block ?_ | refine tr_skip ?_)
    · rw [Int.toNat_natCast, lsGet path hjl]
      (dsimp only [AllP]; (repeat' first | exact trivial | assumption | exact Nat.le_of_ble_eq_true rfl | apply And.intro | exact eCells_len1 _ _ ‹_› | exact eCells_isByte _ _ ‹_› | intro _ | exact rfl | omega))
    · (dsimp only [AllP]; (repeat' first | exact trivial | assumption | exact Nat.le_of_ble_eq_true rfl | apply And.intro | decide | intro _ | exact rfl))
    rw [Int.toNat_natCast, lsGet path hjl, show path.getD j [] = path[j] by simp [List.getD, hjl]]
    generalize path[j] = p at *
    repeat' (first | refine tr_seq ?_ | refine tr_block ?_ | refine tr_skip ?_)
    refine tr_cond rfl (fun hc => ?_) (fun hc => ?_)
    · have hc : ((2 ^ k' : Nat) : Int) = 1 := of_decide_eq_true hc
      have : k' = 0 := by
        rcases Nat.eq_zero_or_pos k' with h | h
        · exact h
        · have := Nat.one_lt_two_pow (n := k') (by omega)
          omega
      subst this
      repeat' (first | refine tr_seq ?_ | refine reg (T := tab) tOk hnt rfl ?_ ?_ | refine regD (T := tab) tOk mixedR hnt rfl (by decide +kernel) ?_ ?_ | refine tr_block ?_ | refine tr_skip ?_)
      · (dsimp only [AllP]; (repeat' first | exact trivial | assumption | exact Nat.le_of_ble_eq_true rfl | apply And.intro | decide | intro _ | exact rfl))
      exact tr_ret ⟨.inr rfl, _, _, rfl, trivial, congrArg (fun z : Int => D.v (.int .i64 z)) h1⟩
    have hc : ¬ ((2 ^ k' : Nat) : Int) = 1 := of_decide_eq_false hc
    obtain ⟨k', rfl⟩ : ∃ m, k' = m + 1 := by
      rcases Nat.eq_zero_or_pos k' with h | h
      · subst h
        exact absurd rfl hc
      · exact ⟨k' - 1, by omega⟩
    have hp2 : 2 ^ (k' + 1) = 2 ^ k' + 2 ^ k' := by rw [Nat.pow_succ]; omega
    have h1 : endC ((if (stepN mode (decide (i' % 2 = 1)) d p).2 = 0 then some (stepN mode (decide (i' % 2 = 1)) d p).1 else none).bind fun d' => upP mode (path.drop (j + 1)) k' (i' / 2) d') root = R := h1
    repeat' (first | refine tr_seq ?_ | refine reg (T := tab) tOk hnt rfl ?_ ?_ | refine regD (T := tab) tOk mixedR hnt rfl (by decide +kernel) ?_ ?_ | refine tr_block ?_ | refine tr_skip ?_)
    · (dsimp only [AllP]; (repeat' first | exact trivial | assumption | exact Nat.le_of_ble_eq_true rfl | apply And.intro | decide | intro _ | exact rfl))
    · (dsimp only [AllP]; (repeat' first | exact trivial | assumption | exact Nat.le_of_ble_eq_true rfl | apply And.intro | decide | intro _ | exact rfl))
    repeat' (first | refine tr_seq ?_ | refine tr_block ?_ | refine tr_skip ?_)
    refine tr_cond rfl (fun hc => ?_) (fun hc => ?_)
    · have hc : (i' : Int).tmod 2 = 1 := of_decide_eq_true hc
      have hc : i' % 2 = 1 := by
        rw [Int.tmod_eq_emod_of_nonneg (by omega)] at hc
        omega
      have hn : FnG Tryd.prog 51 gK [.one (.e (eI mode)), .one (.e (eBytes p)), .one (.e (eBytes d))] (rBE (stepN mode (decide (i' % 2 = 1)) d p)) := by
        rw [stepN, if_pos (decide_eq_true hc)]
        exact node_fn mode p d
      repeat' (first | refine tr_seq ?_ | refine reg (T := tab) tOk hnt rfl ?_ ?_ | refine regD (T := tab) tOk mixedR hnt rfl (by decide +kernel) ?_ ?_ | refine tr_block ?_ | refine tr_skip ?_)
      · (dsimp only [AllP]; (repeat' first | exact trivial | assumption | exact Nat.le_of_ble_eq_true rfl | apply And.intro | decide | intro _ | exact rfl))
      repeat' (first | refine tr_seq ?_ | refine tr_block ?_ | refine tr_skip ?_)
      refine tr_region (lex (T := tab) tOk hnt rfl ?_ (callV rfl rfl rfl rfl rfl rfl rfl hnt rfl (hn) (lex (T := tab) tOk hnt rfl ?_ (Lex.nil _)))) ?_
      · (dsimp only [AllP]; (repeat' first | exact trivial | assumption | exact Nat.le_of_ble_eq_true rfl | apply And.intro | decide | intro _ | exact rfl))
      · (dsimp only [AllP]; (repeat' first | exact trivial | assumption | exact Nat.le_of_ble_eq_true rfl | apply And.intro | decide | intro _ | exact rfl))
      repeat' (first | refine tr_seq ?_ | refine reg (T := tab) tOk hnt rfl ?_ ?_ | refine regD (T := tab) tOk mixedR hnt rfl (by decide +kernel) ?_ ?_ | refine tr_block ?_ | refine tr_skip ?_)
      · (dsimp only [AllP]; (repeat' first | exact trivial | assumption | exact Nat.le_of_ble_eq_true rfl | apply And.intro | decide | intro _ | exact rfl))
      generalize (stepN mode (decide (i' % 2 = 1)) d p) = X2 at *
      obtain ⟨b, e2⟩ := X2
      repeat' (first | refine tr_seq ?_ | refine tr_block ?_ | refine tr_skip ?_)
      refine tr_cond rfl (fun hc => ?_) (fun hc => ?_)
      · have hc : e2 ≠ 0 := of_decide_eq_true ((neD' e2).symm.trans hc)
        rw [if_neg hc] at h1
        repeat' (first | refine tr_seq ?_ | refine reg (T := tab) tOk hnt rfl ?_ ?_ | refine regD (T := tab) tOk mixedR hnt rfl (by decide +kernel) ?_ ?_ | refine tr_block ?_ | refine tr_skip ?_)
        · (dsimp only [AllP]; (repeat' first | exact trivial | assumption | exact Nat.le_of_ble_eq_true rfl | apply And.intro | decide | intro _ | exact rfl))
        exact tr_ret ⟨.inr rfl, _, _, rfl, trivial, congrArg (fun z : Int => D.v (.int .i64 z)) h1⟩
      have hc : ¬ e2 ≠ 0 := of_decide_eq_false ((neD' e2).symm.trans hc)
      rw [if_pos (Decidable.not_not.1 hc)] at h1
      have h1 : endC (upP mode (path.drop (j + 1)) k' (i' / 2) b) root = R := h1
      repeat' (first | refine tr_seq ?_ | refine reg (T := tab) tOk hnt rfl ?_ ?_ | refine regD (T := tab) tOk mixedR hnt rfl (by decide +kernel) ?_ ?_ | refine tr_block ?_ | refine tr_skip ?_)
      · (dsimp only [AllP]; (repeat' first | exact trivial | assumption | exact Nat.le_of_ble_eq_true rfl | apply And.intro | decide | intro _ | exact rfl))
      · (dsimp only [AllP]; (repeat' first | exact trivial | assumption | exact Nat.le_of_ble_eq_true rfl | apply And.intro | decide | intro _ | exact rfl))
      refine ⟨(j + 1, k', i' / 2, b), ⟨h1, by dsimp only; omega, by dsimp only; omega, by dsimp only; omega⟩, by dsimp only; omega, le_of (ad := []) ⟨rfl, rfl, congrArg (fun z : Int => E.v (.int .i64 z)) (two_tdiv k' (by omega)), congrArg (fun z : Int => E.v (.int .i64 z)) (half_tdiv i' (by omega)), rfl, rfl, rfl, congrArg (fun z : Int => E.v (.int .i64 z)) (wrap64_id (by omega) (by omega)), rfl, trivial⟩ trivial⟩
    have hc : ¬ (i' : Int).tmod 2 = 1 := of_decide_eq_false hc
    have hc : ¬ i' % 2 = 1 := by
      rw [Int.tmod_eq_emod_of_nonneg (by omega)] at hc
      omega
    have hn : FnG Tryd.prog 51 gK [.one (.e (eI mode)), .one (.e (eBytes d)), .one (.e (eBytes p))] (rBE (stepN mode (decide (i' % 2 = 1)) d p)) := by
      rw [stepN, if_neg (by simp [hc])]
      exact node_fn mode d p
    repeat' (first | refine tr_seq ?_ | refine tr_block ?_ | refine tr_skip ?_)
    refine tr_region (lex (T := tab) tOk hnt rfl ?_ (callV rfl rfl rfl rfl rfl rfl rfl hnt rfl (hn) (lex (T := tab) tOk hnt rfl ?_ (Lex.nil _)))) ?_
    · (dsimp only [AllP]; (repeat' first | exact trivial | assumption | exact Nat.le_of_ble_eq_true rfl | apply And.intro | decide | intro _ | exact rfl))
    · (dsimp only [AllP]; (repeat' first | exact trivial | assumption | exact Nat.le_of_ble_eq_true rfl | apply And.intro | decide | intro _ | exact rfl))
    repeat' (first | refine tr_seq ?_ | refine reg (T := tab) tOk hnt rfl ?_ ?_ | refine regD (T := tab) tOk mixedR hnt rfl (by decide +kernel) ?_ ?_ | refine tr_block ?_ | refine tr_skip ?_)
    · (dsimp only [AllP]; (repeat' first | exact trivial | assumption | exact Nat.le_of_ble_eq_true rfl | apply And.intro | decide | intro _ | exact rfl))
    generalize (stepN mode (decide (i' % 2 = 1)) d p) = X2 at *
    obtain ⟨b, e2⟩ := X2
    repeat' (first | refine tr_seq ?_ | refine tr_block ?_ | refine tr_skip ?_)
    refine tr_cond rfl (fun hc => ?_) (fun hc => ?_)
    · have hc : e2 ≠ 0 := of_decide_eq_true ((neD' e2).symm.trans hc)
      rw [if_neg hc] at h1
      repeat' (first | refine tr_seq ?_ | refine reg (T := tab) tOk hnt rfl ?_ ?_ | refine regD (T := tab) tOk mixedR hnt rfl (by decide +kernel) ?_ ?_ | refine tr_block ?_ | refine tr_skip ?_)
      · (dsimp only [AllP]; (repeat' first | exact trivial | assumption | exact Nat.le_of_ble_eq_true rfl | apply And.intro | decide | intro _ | exact rfl))
      exact tr_ret ⟨.inr rfl, _, _, rfl, trivial, congrArg (fun z : Int => D.v (.int .i64 z)) h1⟩
    have hc : ¬ e2 ≠ 0 := of_decide_eq_false ((neD' e2).symm.trans hc)
    rw [if_pos (Decidable.not_not.1 hc)] at h1
    have h1 : endC (upP mode (path.drop (j + 1)) k' (i' / 2) b) root = R := h1
    repeat' (first | refine tr_seq ?_ | refine reg (T := tab) tOk hnt rfl ?_ ?_ | refine regD (T := tab) tOk mixedR hnt rfl (by decide +kernel) ?_ ?_ | refine tr_block ?_ | refine tr_skip ?_)
    · (dsimp only [AllP]; (repeat' first | exact trivial | assumption | exact Nat.le_of_ble_eq_true rfl | apply And.intro | decide | intro _ | exact rfl))
    · (dsimp only [AllP]; (repeat' first | exact trivial | assumption | exact Nat.le_of_ble_eq_true rfl | apply And.intro | decide | intro _ | exact rfl))
    refine ⟨(j + 1, k', i' / 2, b), ⟨h1, by dsimp only; omega, by dsimp only; omega, by dsimp only; omega⟩, by dsimp only; omega, le_of (ad := []) ⟨rfl, rfl, congrArg (fun z : Int => E.v (.int .i64 z)) (two_tdiv k' (by omega)), congrArg (fun z : Int => E.v (.int .i64 z)) (half_tdiv i' (by omega)), rfl, rfl, rfl, congrArg (fun z : Int => E.v (.int .i64 z)) (wrap64_id (by omega) (by omega)), rfl, trivial⟩ trivial⟩
  have hc : ¬ (j : Int) < ((path.map fun p => [eBytes p]).length : Int) := of_decide_eq_false hc
  have hjl : j = path.length := by omega
  subst hjl
  rw [List.drop_length] at h1
  refine tr_exit ?_
  repeat' (first | refine tr_seq ?_ | refine tr_block ?_ | refine tr_skip ?_)
  refine tr_region (lex (T := tab) tOk hnt rfl ?_ (callG rfl rfl rfl rfl rfl rfl hnt rfl (fun hq => ?_) (fun hq => Equal_fn d root) (lex (T := tab) tOk hnt rfl ?_ (Lex.nil _)))) ?_
  · (dsimp only [AllP]; (repeat' first | exact trivial | assumption | exact Nat.le_of_ble_eq_true rfl | apply And.intro | decide | intro _ | exact rfl))
  · exact ⟨hq, hq⟩
  · exact ⟨fun h => h, fun h => ⟨h, trivial⟩⟩
  repeat' (first | refine tr_seq ?_ | refine tr_block ?_ | refine tr_skip ?_)
  refine tr_cond rfl (fun hc => ?_) (fun hc => ?_)
  · have hR0 : R = 10 := by
      rw [← h1]
      cases k' with
      | zero =>
        by_cases hd : d = root
        · rw [hd] at hc
          simp at hc
        · exact if_neg hd
      | succ k' => rfl
    rw [hR0]
    repeat' (first | refine tr_seq ?_ | refine reg (T := tab) tOk hnt rfl ?_ ?_ | refine regD (T := tab) tOk mixedR hnt rfl (by decide +kernel) ?_ ?_ | refine tr_block ?_ | refine tr_skip ?_)
    · (dsimp only [AllP]; (repeat' first | exact trivial | assumption | exact Nat.le_of_ble_eq_true rfl | apply And.intro | decide | intro _ | exact rfl))
    exact tr_ret ⟨.inr rfl, _, _, rfl, trivial, rfl⟩
  have hR0 : R = 0 := by
    rw [← h1]
    cases k' with
    | zero =>
      by_cases hd : d = root
      · exact if_pos hd
      · simp [hd] at hc
    | succ k' =>
      have := Nat.one_lt_two_pow (n := k' + 1) (by omega)
      rw [decide_eq_false (show ¬ ((2 ^ (k' + 1) : Nat) : Int) = 1 by omega)] at hc
      simp at hc
  rw [hR0]
  repeat' (first | refine tr_seq ?_ | refine reg (T := tab) tOk hnt rfl ?_ ?_ | refine regD (T := tab) tOk mixedR hnt rfl (by decide +kernel) ?_ ?_ | refine tr_block ?_ | refine tr_skip ?_)
  · (dsimp only [AllP]; (repeat' first | exact trivial | assumption | exact Nat.le_of_ble_eq_true rfl | apply And.intro | decide | intro _ | exact rfl))
  exact tr_ret ⟨.inr rfl, _, _, rfl, trivial, rfl⟩
def rBB (r : List UInt8 × Bool) : D := .tup [(false, .es [eBytes r.1]), (false, .es [.v (.bool r.2)])]
def obF (r : List UInt8 × Bool) : Option (List UInt8) := bif r.2 then some r.1 else none
def climbF (mode : Int) : Nat → Nat → List UInt8 → List (List UInt8) → List UInt8 × Bool
  | 0, _, d, path => (d, decide (path = []))
  | k + 1, i, d, path => match path.getLast? with
    | none => ([], false)
    | some p => if (climbF mode k (i % 2 ^ k) d path.dropLast).2 = false then ([], false) else
      ((stepN mode (decide (2 ^ k ≤ i)) (climbF mode k (i % 2 ^ k) d path.dropLast).1 p).1, decide ((stepN mode (decide (2 ^ k ≤ i)) (climbF mode k (i % 2 ^ k) d path.dropLast).1 p).2 = 0))
theorem climb_dn (mode : Int) : ∀ (k i : Nat) (d : List UInt8) (path : List (List UInt8)), obF (climbF mode k i d path) = dnP mode k i d path
  | 0, i, d, path => by
    show (bif decide (path = []) then some d else none) = if path = [] then some d else none
    by_cases h : path = [] <;> simp [h]
  | k + 1, i, d, path => by
    rw [climbF, dnP]
    cases path.getLast? with
    | none => rfl
    | some p =>
      dsimp only
      rw [← climb_dn mode k (i % 2 ^ k) d path.dropLast]
      generalize climbF mode k (i % 2 ^ k) d path.dropLast = r
      obtain ⟨b, ok⟩ := r
      cases ok with
      | false => rfl
      | true =>
        rw [if_neg (by simp)]
        show obF _ = stepO mode (decide (2 ^ k ≤ i)) b p
        unfold stepO
        generalize stepN mode (decide (2 ^ k ≤ i)) b p = q
        obtain ⟨c, e⟩ := q
        by_cases he : e = 0 <;> simp [obF, he]
theorem lsLen (path : List (List UInt8)) : (path.map fun p => [eBytes p]).length = path.length := List.length_map ..
theorem lsOne (path : List (List UInt8)) : ∀ cs ∈ path.map (fun p => [eBytes p]), cs.length = 1 := fun cs h => by
  obtain ⟨x, _, rfl⟩ := List.mem_map.1 h
  rfl
set_option maxRecDepth 10000 in
theorem climbed_zero (mode : Int) (i : Int) (d : List UInt8) (path : List (List UInt8)) : FnD Tryd.prog 54 [.one (.e (eI mode)), .one (.e (eI ((2 ^ 0 : Nat) : Int))), .one (.e (eI i)), .one (.e (eBytes d)), .one (.e (eLists path))] (rBB (climbF mode 0 0 d path)) := by
  refine fn_intro (T := tab) tOk Tryd.func54 rfl (by kernel_rfl) (by simp [Tryd.ntmps54]) ?_
  intro X hX
  have hnt : X.nt = 69 := hX
  clear hX
  repeat' (first | refine tr_seq ?_ | refine reg (T := tab) tOk hnt rfl ?_ ?_ | refine regD (T := tab) tOk mixedR hnt rfl (by decide +kernel) ?_ ?_ | refine tr_block ?_ | refine tr_skip ?_)
  · (dsimp only [AllP]; (repeat' first | exact trivial | assumption | exact Nat.le_of_ble_eq_true rfl | apply And.intro | decide | intro _ | exact rfl))
  · (dsimp only [AllP]; (repeat' first | exact trivial | assumption | exact Nat.le_of_ble_eq_true rfl | apply And.intro | decide | intro _ | exact rfl))
  refine tr_cond rfl (fun _ => ?_) (fun h => nomatch (show true = false from h))
  repeat' (first | refine tr_seq ?_ | refine reg (T := tab) tOk hnt rfl ?_ ?_ | refine regD (T := tab) tOk mixedR hnt rfl (by decide +kernel) ?_ ?_ | refine tr_block ?_ | refine tr_skip ?_)
  · (dsimp only [AllP]; (repeat' first | exact trivial | assumption | exact Nat.le_of_ble_eq_true rfl | apply And.intro | decide | intro _ | exact rfl))
  have hl := lsLen path
  refine tr_ret ⟨.inr rfl, _, _, rfl, trivial, ?_⟩
  have he : decide (((path.map fun p => [eBytes p]).length : Int) = 0) = decide (path = []) := by
    rw [hl]
    cases path <;> simp <;> omega
  exact congrArg (fun b : Bool => D.tup [(false, .es [eBytes d]), (false, .es [.v (.bool b)])]) he
set_option maxRecDepth 10000 in
theorem climbed_succ (mode : Int) (k : Nat) (hk : k ≤ 6) (ih : ∀ (i : Nat) (d : List UInt8) (path : List (List UInt8)), i < 2 ^ k → FnD Tryd.prog 54 [.one (.e (eI mode)), .one (.e (eI ((2 ^ k : Nat) : Int))), .one (.e (eI (i : Int))), .one (.e (eBytes d)), .one (.e (eLists path))] (rBB (climbF mode k i d path))) (i : Nat) (d : List UInt8) (path : List (List UInt8)) : FnD Tryd.prog 54 [.one (.e (eI mode)), .one (.e (eI ((2 ^ (k + 1) : Nat) : Int))), .one (.e (eI (i : Int))), .one (.e (eBytes d)), .one (.e (eLists path))] (rBB (climbF mode (k + 1) i d path)) := by
  refine FnD.len ⟨_, _, Tryd.func54, rfl, by kernel_rfl⟩ 4 rfl fun hl4 => ?_
  refine fn_intro (T := tab) tOk Tryd.func54 rfl (by kernel_rfl) (by simp [Tryd.ntmps54]) ?_
  intro X hX
  have hnt : X.nt = 69 := hX
  clear hX
  have hk64 : 2 ^ k ≤ 2 ^ 6 := Nat.pow_le_pow_right (by decide) hk
  have hk1 : 1 ≤ 2 ^ k := Nat.one_le_two_pow
  have hp2 : 2 ^ (k + 1) = 2 ^ k + 2 ^ k := by rw [Nat.pow_succ]; omega
  have w1 := two_tdiv k hk
  have w2 : (i : Int).tmod ((2 ^ k : Nat) : Int) = ((i % 2 ^ k : Nat) : Int) := rfl
  repeat' (first | refine tr_seq ?_ | refine reg (T := tab) tOk hnt rfl ?_ ?_ | refine regD (T := tab) tOk mixedR hnt rfl (by decide +kernel) ?_ ?_ | refine tr_block ?_ | refine tr_skip ?_)
  · (dsimp only [AllP]; (repeat' first | exact trivial | assumption | exact Nat.le_of_ble_eq_true rfl | apply And.intro | decide | intro _ | exact rfl))
  · (dsimp only [AllP]; (repeat' first | exact trivial | assumption | exact Nat.le_of_ble_eq_true rfl | apply And.intro | decide | intro _ | exact rfl))
  repeat' (first | refine tr_seq ?_ | refine tr_block ?_ | refine tr_skip ?_)
  refine tr_cond rfl (fun hc => ?_) (fun hc => ?_)
  · have hc : ((2 ^ (k + 1) : Nat) : Int) = 1 := of_decide_eq_true hc
    omega
  repeat' (first | refine tr_seq ?_ | refine reg (T := tab) tOk hnt rfl ?_ ?_ | refine regD (T := tab) tOk mixedR hnt rfl (by decide +kernel) ?_ ?_ | refine tr_block ?_ | refine tr_skip ?_)
  · (dsimp only [AllP]; (repeat' first | exact trivial | assumption | exact Nat.le_of_ble_eq_true rfl | apply And.intro | decide | intro _ | exact rfl))
  have hll := lsLen path
  rw [hll] at hl4
  rw [climbF]
  repeat' (first | refine tr_seq ?_ | refine tr_block ?_ | refine tr_skip ?_)
  refine tr_cond rfl (fun hc => ?_) (fun hc => ?_)
  · have hc : ((path.map fun p => [eBytes p]).length : Int) = 0 := of_decide_eq_true hc
    have : path = [] := List.eq_nil_of_length_eq_zero (by omega)
    subst this
    repeat' (first | refine tr_seq ?_ | refine reg (T := tab) tOk hnt rfl ?_ ?_ | refine regD (T := tab) tOk mixedR hnt rfl (by decide +kernel) ?_ ?_ | refine tr_block ?_ | refine tr_skip ?_)
    · (dsimp only [AllP]; (repeat' first | exact trivial | assumption | exact Nat.le_of_ble_eq_true rfl | apply And.intro | decide | intro _ | exact rfl))
    exact tr_ret ⟨.inr rfl, _, _, rfl, trivial, rfl⟩
  have hc : ¬ ((path.map fun p => [eBytes p]).length : Int) = 0 := of_decide_eq_false hc
  rcases List.eq_nil_or_concat path with rfl | ⟨ps, p, rfl⟩
  · exact absurd rfl hc
  rw [List.concat_eq_append] at hl4 hll hc ⊢
  rw [List.getLast?_concat, List.dropLast_concat]
  dsimp only
  have hl : ((ps ++ [p]).map fun p => [eBytes p]).length = ps.length + 1 := by simp
  have hpl : ps.length + 1 ≤ 9223372036854775807 := by
    simp only [List.length_append, List.length_singleton, maxLen] at hl4
    omega
  have w3 : IntKind.i64.wrap ((((ps ++ [p]).map fun p => [eBytes p]).length : Int) - 1) = (ps.length : Int) := by
    rw [hl, wrap64_id (by omega) (by omega)]
    omega
  repeat' (first | refine tr_seq ?_ | refine reg (T := tab) tOk hnt rfl ?_ ?_ | refine regD (T := tab) tOk mixedR hnt rfl (by decide +kernel) ?_ ?_ | refine tr_block ?_ | refine tr_skip ?_)
  · rw [w3, Int.toNat_natCast, lsGet _ (by simp)]
    have : (ps.length : Int) < (((ps ++ [p]).map fun p => [eBytes p]).length : Int) := by omega
    (dsimp only [AllP]; (repeat' first | exact trivial | assumption | exact Nat.le_of_ble_eq_true rfl | apply And.intro | exact eCells_len1 _ _ ‹_› | exact eCells_isByte _ _ ‹_› | intro _ | exact rfl | omega))
  rw [w3, Int.toNat_natCast, lsGet _ (by simp), show (ps ++ [p]).getD ps.length [] = p by simp [List.getD]]
  have hik : i % 2 ^ k < 2 ^ k := Nat.mod_lt _ hk1
  have h := ih (i % 2 ^ k) d ps hik
  have hsl : eLists ps = .sl (List.take (Int.toNat (IntKind.i64.wrap ((((ps ++ [p]).map fun p => [eBytes p]).length : Int) - 1)) - Int.toNat 0) (List.drop (Int.toNat 0) ((ps ++ [p]).map fun p => [eBytes p]))) := by
    rw [w3]
    simp [eLists]
  rw [hsl, ← w2, ← w1] at h
  have hn0 : IntKind.i64.wrap (((2 ^ (k + 1) : Nat) : Int).tdiv 2) ≠ 0 := by
    rw [w1]
    omega
  repeat' (first | refine tr_seq ?_ | refine tr_block ?_ | refine tr_skip ?_)
  refine tr_draw (T := tab) tOk hnt mixedR (lexD (T := tab) rfl ?_ (callD rfl rfl rfl rfl rfl rfl rfl rfl (h) (lexD (T := tab) rfl ?_ (.nil _)))) (by decide +kernel) ?_
  · have h1 : (0 : Int) ≤ IntKind.i64.wrap ((((ps ++ [p]).map fun p => [eBytes p]).length : Int) - 1) := by rw [w3]; omega
    have h2 : IntKind.i64.wrap ((((ps ++ [p]).map fun p => [eBytes p]).length : Int) - 1) ≤ (((ps ++ [p]).map fun p => [eBytes p]).length : Int) := by rw [w3]; omega
    have h3 := lsOne (ps ++ [p])
    (dsimp only [AllP]; (repeat' first | exact trivial | assumption | exact Nat.le_of_ble_eq_true rfl | apply And.intro | exact eCells_len1 _ _ ‹_› | exact eCells_isByte _ _ ‹_› | intro _ | exact rfl | omega))
  · (dsimp only [AllP]; (repeat' first | exact trivial | assumption | exact Nat.le_of_ble_eq_true rfl | apply And.intro | decide | intro _ | exact rfl))
  generalize climbF mode k (i % 2 ^ k) d ps = r at *
  obtain ⟨b, ok⟩ := r
  repeat' (first | refine tr_seq ?_ | refine reg (T := tab) tOk hnt rfl ?_ ?_ | refine regD (T := tab) tOk mixedR hnt rfl (by decide +kernel) ?_ ?_ | refine tr_block ?_ | refine tr_skip ?_)
  · (dsimp only [AllP]; (repeat' first | exact trivial | assumption | exact Nat.le_of_ble_eq_true rfl | apply And.intro | decide | intro _ | exact rfl))
  cases ok with
  | false =>
    repeat' (first | refine tr_seq ?_ | refine tr_block ?_ | refine tr_skip ?_)
    refine tr_cond rfl (fun _ => ?_) (fun h => nomatch (show true = false from h))
    repeat' (first | refine tr_seq ?_ | refine reg (T := tab) tOk hnt rfl ?_ ?_ | refine regD (T := tab) tOk mixedR hnt rfl (by decide +kernel) ?_ ?_ | refine tr_block ?_ | refine tr_skip ?_)
    · (dsimp only [AllP]; (repeat' first | exact trivial | assumption | exact Nat.le_of_ble_eq_true rfl | apply And.intro | decide | intro _ | exact rfl))
    exact tr_ret ⟨.inr rfl, _, _, rfl, trivial, rfl⟩
  | true =>
  repeat' (first | refine tr_seq ?_ | refine tr_block ?_ | refine tr_skip ?_)
  refine tr_cond rfl (fun h => nomatch (show false = true from h)) (fun _ => ?_)
  repeat' (first | refine tr_seq ?_ | refine reg (T := tab) tOk hnt rfl ?_ ?_ | refine regD (T := tab) tOk mixedR hnt rfl (by decide +kernel) ?_ ?_ | refine tr_block ?_ | refine tr_skip ?_)
  · (dsimp only [AllP]; (repeat' first | exact trivial | assumption | exact Nat.le_of_ble_eq_true rfl | apply And.intro | decide | intro _ | exact rfl))
  · (dsimp only [AllP]; (repeat' first | exact trivial | assumption | exact Nat.le_of_ble_eq_true rfl | apply And.intro | exact eCells_len1 _ _ ‹_› | exact eCells_isByte _ _ ‹_› | intro _ | exact rfl | omega))
  repeat' (first | refine tr_seq ?_ | refine tr_block ?_ | refine tr_skip ?_)
  refine tr_cond rfl (fun hc => ?_) (fun hc => ?_)
  · have hc : IntKind.i64.wrap (((2 ^ (k + 1) : Nat) : Int).tdiv 2) ≤ (i : Int) := of_decide_eq_true hc
    rw [w1] at hc
    have hs : stepN mode (decide (2 ^ k ≤ i)) b p = dgF mode 2 [p, b] := by
      rw [stepN, if_pos (decide_eq_true (by omega))]
      rfl
    rw [hs]
    repeat' (first | refine tr_seq ?_ | refine reg (T := tab) tOk hnt rfl ?_ ?_ | refine regD (T := tab) tOk mixedR hnt rfl (by decide +kernel) ?_ ?_ | refine tr_block ?_ | refine tr_skip ?_)
    · (dsimp only [AllP]; (repeat' first | exact trivial | assumption | exact Nat.le_of_ble_eq_true rfl | apply And.intro | decide | intro _ | exact rfl))
    repeat' (first | refine tr_seq ?_ | refine tr_block ?_ | refine tr_skip ?_)
    refine tr_region (lex (T := tab) tOk hnt rfl ?_ (callU rfl rfl rfl rfl rfl rfl rfl hnt (DigestOf_fn mode 2 [p, b]) (lex (T := tab) tOk hnt rfl ?_ (Lex.nil _)))) ?_
    · (dsimp only [AllP]; (repeat' first | exact trivial | assumption | exact Nat.le_of_ble_eq_true rfl | apply And.intro | decide | intro _ | exact rfl))
    · (dsimp only [AllP]; (repeat' first | exact trivial | assumption | exact Nat.le_of_ble_eq_true rfl | apply And.intro | decide | intro _ | exact rfl))
    repeat' (first | refine tr_seq ?_ | refine reg (T := tab) tOk hnt rfl ?_ ?_ | refine regD (T := tab) tOk mixedR hnt rfl (by decide +kernel) ?_ ?_ | refine tr_block ?_ | refine tr_skip ?_)
    · (dsimp only [AllP]; (repeat' first | exact trivial | assumption | exact Nat.le_of_ble_eq_true rfl | apply And.intro | decide | intro _ | exact rfl))
    exact tr_ret ⟨.inr rfl, _, _, rfl, trivial, rfl⟩
  have hc : ¬ IntKind.i64.wrap (((2 ^ (k + 1) : Nat) : Int).tdiv 2) ≤ (i : Int) := of_decide_eq_false hc
  rw [w1] at hc
  have hs : stepN mode (decide (2 ^ k ≤ i)) b p = dgF mode 2 [b, p] := by
    rw [stepN, if_neg (by simp; omega)]
    rfl
  rw [hs]
  repeat' (first | refine tr_seq ?_ | refine tr_block ?_ | refine tr_skip ?_)
  refine tr_region (lex (T := tab) tOk hnt rfl ?_ (callU rfl rfl rfl rfl rfl rfl rfl hnt (DigestOf_fn mode 2 [b, p]) (lex (T := tab) tOk hnt rfl ?_ (Lex.nil _)))) ?_
  · (dsimp only [AllP]; (repeat' first | exact trivial | assumption | exact Nat.le_of_ble_eq_true rfl | apply And.intro | decide | intro _ | exact rfl))
  · (dsimp only [AllP]; (repeat' first | exact trivial | assumption | exact Nat.le_of_ble_eq_true rfl | apply And.intro | decide | intro _ | exact rfl))
  repeat' (first | refine tr_seq ?_ | refine reg (T := tab) tOk hnt rfl ?_ ?_ | refine regD (T := tab) tOk mixedR hnt rfl (by decide +kernel) ?_ ?_ | refine tr_block ?_ | refine tr_skip ?_)
  · (dsimp only [AllP]; (repeat' first | exact trivial | assumption | exact Nat.le_of_ble_eq_true rfl | apply And.intro | decide | intro _ | exact rfl))
  exact tr_ret ⟨.inr rfl, _, _, rfl, trivial, rfl⟩
theorem climbed_fn (mode : Int) : ∀ (k i : Nat) (d : List UInt8) (path : List (List UInt8)), k ≤ 7 → i < 2 ^ k → FnD Tryd.prog 54 [.one (.e (eI mode)), .one (.e (eI ((2 ^ k : Nat) : Int))), .one (.e (eI (i : Int))), .one (.e (eBytes d)), .one (.e (eLists path))] (rBB (climbF mode k i d path))
  | 0, i, d, path, _, _ => climbed_zero mode i d path
  | k + 1, i, d, path, hk, _ => climbed_succ mode k (by omega) (fun i d path hi => climbed_fn mode k i d path (by omega) hi) i d path
theorem strNe_B (a b : List UInt8) : (!strEq (bytesOf (eCells a)) (bytesOf (eCells b))) = decide (a ≠ b) := by
  rw [strEq_B]
  by_cases h : a = b <;> simp [h]
set_option maxRecDepth 10000 in
theorem PathFault_fn (mode : Int) (root : List UInt8) (n i : Int) (s : SlotT) (path : List (List UInt8)) : FnD Tryd.prog 20 [.one (.e (eI mode)), .one (.e (eBytes root)), .one (.e (eI n)), .one (.e (eI i)), .agg (.es (eS s)), .one (.e (eLists path))] (.one (.e (eI (pcF mode root n i s path)))) := by
  refine fn_intro (T := tab) tOk Tryd.func20 rfl (by kernel_rfl) (by simp [Tryd.ntmps20]) ?_
  intro X hX
  have hnt : X.nt = 58 := hX
  clear hX
  have hlf : FnD Tryd.prog 53 [.one (.e (eI mode)), .agg (.es (eS s))] (rBE (lfX mode s)) := LeafOf_fn mode s.1 s.2.1 s.2.2.1
  unfold pcF
  generalize lfX mode s = r at *
  obtain ⟨d, e⟩ := r
  repeat' (first | refine tr_seq ?_ | refine reg (T := tab) tOk hnt rfl ?_ ?_ | refine regD (T := tab) tOk mixedR hnt rfl (by decide +kernel) ?_ ?_ | refine tr_block ?_ | refine tr_skip ?_)
  · (dsimp only [AllP]; (repeat' first | exact trivial | assumption | exact Nat.le_of_ble_eq_true rfl | apply And.intro | decide | intro _ | exact rfl))
  repeat' (first | refine tr_seq ?_ | refine tr_block ?_ | refine tr_skip ?_)
  refine tr_region (lex (T := tab) tOk hnt rfl ?_ (call rfl rfl rfl rfl rfl rfl rfl hnt (badMode_fn mode) (lex (T := tab) tOk hnt rfl ?_ (Lex.nil _)))) ?_
  · (dsimp only [AllP]; (repeat' first | exact trivial | assumption | exact Nat.le_of_ble_eq_true rfl | apply And.intro | decide | intro _ | exact rfl))
  · (dsimp only [AllP]; (repeat' first | exact trivial | assumption | exact Nat.le_of_ble_eq_true rfl | apply And.intro | decide | intro _ | exact rfl))
  repeat' (first | refine tr_seq ?_ | refine tr_block ?_ | refine tr_skip ?_)
  refine tr_cond rfl (fun hc => ?_) (fun hc => ?_)
  · have hc := of_decide_eq_true hc
    rw [if_pos hc]
    repeat' (first | refine tr_seq ?_ | refine reg (T := tab) tOk hnt rfl ?_ ?_ | refine regD (T := tab) tOk mixedR hnt rfl (by decide +kernel) ?_ ?_ | refine tr_block ?_ | refine tr_skip ?_)
    · (dsimp only [AllP]; (repeat' first | exact trivial | assumption | exact Nat.le_of_ble_eq_true rfl | apply And.intro | decide | intro _ | exact rfl))
    exact tr_ret ⟨.inr rfl, _, _, rfl, trivial, rfl⟩
  have hc := of_decide_eq_false hc
  rw [if_neg hc]
  repeat' (first | refine tr_seq ?_ | refine tr_block ?_ | refine tr_skip ?_)
  refine tr_region (lex (T := tab) tOk hnt rfl ?_ (call rfl rfl rfl rfl rfl rfl rfl hnt (whole_fn n) (lex (T := tab) tOk hnt rfl ?_ (Lex.nil _)))) ?_
  · (dsimp only [AllP]; (repeat' first | exact trivial | assumption | exact Nat.le_of_ble_eq_true rfl | apply And.intro | decide | intro _ | exact rfl))
  · (dsimp only [AllP]; (repeat' first | exact trivial | assumption | exact Nat.le_of_ble_eq_true rfl | apply And.intro | decide | intro _ | exact rfl))
  cases hp : powF n with
  | false =>
    repeat' (first | refine tr_seq ?_ | refine tr_block ?_ | refine tr_skip ?_)
    refine tr_cond rfl (fun _ => ?_) (fun h => nomatch (show true = false from h))
    repeat' (first | refine tr_seq ?_ | refine reg (T := tab) tOk hnt rfl ?_ ?_ | refine regD (T := tab) tOk mixedR hnt rfl (by decide +kernel) ?_ ?_ | refine tr_block ?_ | refine tr_skip ?_)
    · (dsimp only [AllP]; (repeat' first | exact trivial | assumption | exact Nat.le_of_ble_eq_true rfl | apply And.intro | decide | intro _ | exact rfl))
    exact tr_ret ⟨.inr rfl, _, _, rfl, trivial, rfl⟩
  | true =>
  rw [if_neg (fun h => nomatch (show true = false from h))]
  repeat' (first | refine tr_seq ?_ | refine tr_block ?_ | refine tr_skip ?_)
  refine tr_cond rfl (fun h => nomatch (show false = true from h)) (fun _ => ?_)
  repeat' (first | refine tr_seq ?_ | refine reg (T := tab) tOk hnt rfl ?_ ?_ | refine regD (T := tab) tOk mixedR hnt rfl (by decide +kernel) ?_ ?_ | refine tr_block ?_ | refine tr_skip ?_)
  · (dsimp only [AllP]; (repeat' first | exact trivial | assumption | exact Nat.le_of_ble_eq_true rfl | apply And.intro | decide | intro _ | exact rfl))
  repeat' (first | refine tr_seq ?_ | refine tr_block ?_ | refine tr_skip ?_)
  refine tr_cond rfl (fun hc => ?_) (fun hc => ?_)
  · have hc := of_decide_eq_true ((orDn i _).symm.trans hc)
    rw [if_pos hc]
    repeat' (first | refine tr_seq ?_ | refine reg (T := tab) tOk hnt rfl ?_ ?_ | refine regD (T := tab) tOk mixedR hnt rfl (by decide +kernel) ?_ ?_ | refine tr_block ?_ | refine tr_skip ?_)
    · (dsimp only [AllP]; (repeat' first | exact trivial | assumption | exact Nat.le_of_ble_eq_true rfl | apply And.intro | decide | intro _ | exact rfl))
    exact tr_ret ⟨.inr rfl, _, _, rfl, trivial, rfl⟩
  have hc := of_decide_eq_false ((orDn i _).symm.trans hc)
  rw [if_neg hc]
  repeat' (first | refine tr_seq ?_ | refine tr_block ?_ | refine tr_skip ?_)
  refine tr_region (lex (T := tab) tOk hnt rfl ?_ (call rfl rfl rfl rfl rfl rfl rfl hnt (hlf) (lex (T := tab) tOk hnt rfl ?_ (Lex.nil _)))) ?_
  · (dsimp only [AllP]; (repeat' first | exact trivial | assumption | exact Nat.le_of_ble_eq_true rfl | apply And.intro | decide | intro _ | exact rfl))
  · (dsimp only [AllP]; (repeat' first | exact trivial | assumption | exact Nat.le_of_ble_eq_true rfl | apply And.intro | decide | intro _ | exact rfl))
  repeat' (first | refine tr_seq ?_ | refine reg (T := tab) tOk hnt rfl ?_ ?_ | refine regD (T := tab) tOk mixedR hnt rfl (by decide +kernel) ?_ ?_ | refine tr_block ?_ | refine tr_skip ?_)
  · (dsimp only [AllP]; (repeat' first | exact trivial | assumption | exact Nat.le_of_ble_eq_true rfl | apply And.intro | decide | intro _ | exact rfl))
  repeat' (first | refine tr_seq ?_ | refine tr_block ?_ | refine tr_skip ?_)
  refine tr_cond rfl (fun hc => ?_) (fun hc => ?_)
  · have hc : e ≠ 0 := of_decide_eq_true ((neD' e).symm.trans hc)
    rw [if_pos hc]
    repeat' (first | refine tr_seq ?_ | refine reg (T := tab) tOk hnt rfl ?_ ?_ | refine regD (T := tab) tOk mixedR hnt rfl (by decide +kernel) ?_ ?_ | refine tr_block ?_ | refine tr_skip ?_)
    · (dsimp only [AllP]; (repeat' first | exact trivial | assumption | exact Nat.le_of_ble_eq_true rfl | apply And.intro | decide | intro _ | exact rfl))
    exact tr_ret ⟨.inr rfl, _, _, rfl, trivial, rfl⟩
  have hc2 : ¬ e ≠ 0 := of_decide_eq_false ((neD' e).symm.trans hc)
  rw [if_neg hc2]
  obtain ⟨i, rfl⟩ : ∃ m : Nat, i = (m : Int) := ⟨i.toNat, by omega⟩
  obtain ⟨n, rfl⟩ : ∃ m : Nat, n = (m : Int) := ⟨n.toNat, by omega⟩
  obtain ⟨k, hk, rfl⟩ := pow_two n hp
  rw [Int.toNat_natCast, Int.toNat_natCast, Nat.log2_two_pow]
  have hik : i < 2 ^ k := by omega
  rw [up_dn mode k i d path hik, ← climb_dn]
  have hcl := climbed_fn mode k i d path (by omega) hik
  generalize climbF mode k i d path = r at *
  obtain ⟨b, ok⟩ := r
  repeat' (first | refine tr_seq ?_ | refine tr_block ?_ | refine tr_skip ?_)
  refine tr_region (lex (T := tab) tOk hnt rfl ?_ (call rfl rfl rfl rfl rfl rfl rfl hnt (hcl) (lex (T := tab) tOk hnt rfl ?_ (Lex.nil _)))) ?_
  · (dsimp only [AllP]; (repeat' first | exact trivial | assumption | exact Nat.le_of_ble_eq_true rfl | apply And.intro | decide | intro _ | exact rfl))
  · (dsimp only [AllP]; (repeat' first | exact trivial | assumption | exact Nat.le_of_ble_eq_true rfl | apply And.intro | decide | intro _ | exact rfl))
  have hb : ∀ cs ∈ eCells b, isByte cs := eCells_isByte _
  have hb2 : ∀ cs ∈ eCells root, isByte cs := eCells_isByte _
  repeat' (first | refine tr_seq ?_ | refine reg (T := tab) tOk hnt rfl ?_ ?_ | refine regD (T := tab) tOk mixedR hnt rfl (by decide +kernel) ?_ ?_ | refine tr_block ?_ | refine tr_skip ?_)
  · (dsimp only [AllP]; (repeat' first | exact trivial | assumption | exact Nat.le_of_ble_eq_true rfl | apply And.intro | exact eCells_len1 _ _ ‹_› | exact eCells_isByte _ _ ‹_› | intro _ | exact rfl | omega))
  repeat' (first | refine tr_seq ?_ | refine tr_block ?_ | refine tr_skip ?_)
  refine tr_cond rfl (fun hc => ?_) (fun hc => ?_)
  · have hR0 : endC (obF (b, ok)) root = 10 := by
      cases ok with
      | false => rfl
      | true =>
        have hc := of_decide_eq_true ((strNe_B b root).symm.trans hc)
        exact if_neg hc
    rw [hR0]
    repeat' (first | refine tr_seq ?_ | refine reg (T := tab) tOk hnt rfl ?_ ?_ | refine regD (T := tab) tOk mixedR hnt rfl (by decide +kernel) ?_ ?_ | refine tr_block ?_ | refine tr_skip ?_)
    · (dsimp only [AllP]; (repeat' first | exact trivial | assumption | exact Nat.le_of_ble_eq_true rfl | apply And.intro | decide | intro _ | exact rfl))
    exact tr_ret ⟨.inr rfl, _, _, rfl, trivial, rfl⟩
  have hR0 : endC (obF (b, ok)) root = 0 := by
    cases ok with
    | false => nomatch (show true = false from hc)
    | true =>
      have hc := of_decide_eq_false ((strNe_B b root).symm.trans hc)
      exact if_pos (Decidable.not_not.1 hc)
  rw [hR0]
  repeat' (first | refine tr_seq ?_ | refine reg (T := tab) tOk hnt rfl ?_ ?_ | refine regD (T := tab) tOk mixedR hnt rfl (by decide +kernel) ?_ ?_ | refine tr_block ?_ | refine tr_skip ?_)
  · (dsimp only [AllP]; (repeat' first | exact trivial | assumption | exact Nat.le_of_ble_eq_true rfl | apply And.intro | decide | intro _ | exact rfl))
  exact tr_ret ⟨.inr rfl, _, _, rfl, trivial, rfl⟩
set_option maxRecDepth 10000 in
theorem pathChecks_fn (mode : Int) (root : List UInt8) (n i : Int) (s : SlotT) (path : List (List UInt8)) : FnG Tryd.prog 5 gK [.one (.e (eI mode)), .one (.e (eBytes root)), .one (.e (eI n)), .one (.e (eI i)), .agg (.es (eS s)), .one (.e (eLists path))] (.v (.bool true)) := by
  refine fn_introG (T := tab) tOk Tryd.func5 rfl (by kernel_rfl) (by simp [Tryd.ntmps5]) ?_
  intro X hX
  have hnt : X.nt = 32 := hX
  clear hX
  have h1 := CheckPath_fn mode root n i s path
  have h2 := PathFault_fn mode root n i s path
  generalize pcF mode root n i s path = r at *
  repeat' (first | refine tr_seq ?_ | refine reg (T := tab) tOk hnt rfl ?_ ?_ | refine regD (T := tab) tOk mixedR hnt rfl (by decide +kernel) ?_ ?_ | refine tr_block ?_ | refine tr_skip ?_)
  · (dsimp only [AllP]; (repeat' first | exact trivial | assumption | exact Nat.le_of_ble_eq_true rfl | apply And.intro | decide | intro _ | exact rfl))
  repeat' (first | refine tr_seq ?_ | refine tr_block ?_ | refine tr_skip ?_)
  refine tr_region (lex (T := tab) tOk hnt rfl ?_ (callV rfl rfl rfl rfl rfl rfl rfl hnt rfl (h1) (lex (T := tab) tOk hnt rfl ?_ (Lex.nil _)))) ?_
  · (dsimp only [AllP]; (repeat' first | exact trivial | assumption | exact Nat.le_of_ble_eq_true rfl | apply And.intro | decide | intro _ | exact rfl))
  · (dsimp only [AllP]; (repeat' first | exact trivial | assumption | exact Nat.le_of_ble_eq_true rfl | apply And.intro | decide | intro _ | exact rfl))
  repeat' (first | refine tr_seq ?_ | refine tr_block ?_ | refine tr_skip ?_)
  refine tr_region (lex (T := tab) tOk hnt rfl ?_ (call rfl rfl rfl rfl rfl rfl rfl hnt (h2) (lex (T := tab) tOk hnt rfl ?_ (Lex.nil _)))) ?_
  · (dsimp only [AllP]; (repeat' first | exact trivial | assumption | exact Nat.le_of_ble_eq_true rfl | apply And.intro | decide | intro _ | exact rfl))
  · (dsimp only [AllP]; (repeat' first | exact trivial | assumption | exact Nat.le_of_ble_eq_true rfl | apply And.intro | decide | intro _ | exact rfl))
  repeat' (first | refine tr_seq ?_ | refine reg (T := tab) tOk hnt rfl ?_ ?_ | refine regD (T := tab) tOk mixedR hnt rfl (by decide +kernel) ?_ ?_ | refine tr_block ?_ | refine tr_skip ?_)
  · (dsimp only [AllP]; (repeat' first | exact trivial | assumption | exact Nat.le_of_ble_eq_true rfl | apply And.intro | decide | intro _ | exact rfl))
  refine tr_ret ⟨.inr rfl, _, _, rfl, by trivial, ?_⟩
  simp
  rfl
end Go.Proofs.YtjpmghphkkhcjaaDoor
