/- Trees of slots: which sizes they have; pairs. No condition. -/
import Derived.Test.YtphaholcndhonaaDoorTSlA
import Derived.Test.YtphaholcndhonaaDoorAbD
namespace Go.Proofs.YtphaholcndhonaaDoor
open Go Go.RowKit Go.Proofs.YtphaholcndhonaaDoor.Ab

def powF (n : Int) : Bool := decide (n = 1 ∨ n = 2 ∨ n = 4 ∨ n = 8 ∨ n = 16 ∨ n = 32 ∨ n = 64)
theorem pow_small : ∀ k : Fin 65, (bif decide (1 ≤ ((k.val : Nat) : Int)) then decide (IntKind.i64.wrap ((BitVec.ofInt IntKind.i64.bits ((k.val : Nat) : Int) &&& BitVec.ofInt IntKind.i64.bits (IntKind.i64.wrap (((k.val : Nat) : Int) - 1))).toNat : Int) = 0) else false) = powF ((k.val : Nat) : Int) := by decide +kernel
theorem pow_eq (n : Int) : (bif (bif decide (1 ≤ n) then decide (n ≤ 64) else false) then decide (IntKind.i64.wrap ((BitVec.ofInt IntKind.i64.bits n &&& BitVec.ofInt IntKind.i64.bits (IntKind.i64.wrap (n - 1))).toNat : Int) = 0) else false) = powF n := by
  by_cases h1 : 1 ≤ n
  · by_cases h2 : n ≤ 64
    · obtain ⟨k, rfl⟩ : ∃ k : Nat, n = (k : Int) := ⟨n.toNat, by omega⟩
      have := pow_small ⟨k, by omega⟩
      dsimp only at this
      rw [decide_eq_true h1] at this ⊢
      rw [decide_eq_true h2]
      exact this
    · rw [decide_eq_true h1, decide_eq_false h2, cond_true, cond_false, powF, decide_eq_false (by omega)]
  · rw [decide_eq_false h1, cond_false, cond_false, powF, decide_eq_false (by omega)]
set_option maxRecDepth 10000 in
theorem power_fn (n : Int) : FnD Tryd.prog 29 [.one (.e (eI n))] (.v (.bool (powF n))) := by
  refine fn_intro (T := tab) tOk Tryd.func29 rfl (by kernel_rfl) (by simp [Tryd.ntmps29]) ?_
  intro X hX
  have hnt : X.nt = 16 := hX
  clear hX
  repeat' (first | refine tr_seq ?_ | refine reg (T := tab) tOk hnt rfl ?_ ?_ | refine regD (T := tab) tOk mixedR hnt rfl (by decide +kernel) ?_ ?_ | refine tr_block ?_ | refine tr_skip ?_)
  · (dsimp only [AllP]; (repeat' first | exact trivial | assumption | exact Nat.le_of_ble_eq_true rfl | apply And.intro | intro _ | exact rfl))
  · (dsimp only [AllP]; (repeat' first | exact trivial | assumption | exact Nat.le_of_ble_eq_true rfl | apply And.intro | intro _ | exact rfl))
  exact tr_ret ⟨.inr rfl, _, _, rfl, trivial, congrArg (fun z => D.v (.bool z)) (pow_eq n)⟩
def sevL : List Int := [1, 2, 4, 8, 16, 32, 64]
theorem sev_get : ∀ k : Fin 7, ([[eI 1], [eI 2], [eI 4], [eI 8], [eI 16], [eI 32], [eI 64]] : List (List E)).getD k.val [] = [eI (sevL.getD k.val 0)] := by
  intro k
  have : k.val = 0 ∨ k.val = 1 ∨ k.val = 2 ∨ k.val = 3 ∨ k.val = 4 ∨ k.val = 5 ∨ k.val = 6 := by omega
  rcases this with h | h | h | h | h | h | h <;> rw [h] <;> rfl
theorem pow_sev (n : Int) : powF n = true ↔ ∃ k, k < 7 ∧ n = sevL.getD k 0 := by
  unfold powF
  rw [decide_eq_true_eq]
  constructor
  · rintro (h | h | h | h | h | h | h)
    · exact ⟨0, by decide, h⟩
    · exact ⟨1, by decide, h⟩
    · exact ⟨2, by decide, h⟩
    · exact ⟨3, by decide, h⟩
    · exact ⟨4, by decide, h⟩
    · exact ⟨5, by decide, h⟩
    · exact ⟨6, by decide, h⟩
  · rintro ⟨k, hk, h⟩
    have : k = 0 ∨ k = 1 ∨ k = 2 ∨ k = 3 ∨ k = 4 ∨ k = 5 ∨ k = 6 := by omega
    rcases this with rfl | rfl | rfl | rfl | rfl | rfl | rfl <;> simp [sevL] at h <;> simp [h]
set_option maxRecDepth 10000 in
theorem whole_fn (n : Int) : FnD Tryd.prog 32 [.one (.e (eI n))] (.v (.bool (powF n))) := by
  refine fn_intro (T := tab) tOk Tryd.func32 rfl (by kernel_rfl) (by simp [Tryd.ntmps32]) ?_
  intro X hX
  have hnt : X.nt = 15 := hX
  clear hX
  repeat' (first | refine tr_seq ?_ | refine reg (T := tab) tOk hnt rfl ?_ ?_ | refine regD (T := tab) tOk mixedR hnt rfl (by decide +kernel) ?_ ?_ | refine tr_block ?_ | refine tr_skip ?_)
  · (dsimp only [AllP]; (repeat' first | exact trivial | assumption | exact Nat.le_of_ble_eq_true rfl | apply And.intro | intro _ | exact rfl))
  · exact ⟨trivial, trivial, ⟨rfl, rfl, rfl, rfl, rfl, rfl, rfl, trivial⟩, by decide, by decide⟩
  refine tr_loop (σ := Nat) (fun k => St.of [(0, .one (.e (eI n))), (5, .one (.own 5 0)), (6, .v (.int .i64 7)), (7, .v (.int .i64 k))] [(5, ⟨0, .row 1 [[eI 1], [eI 2], [eI 4], [eI 8], [eI 16], [eI 32], [eI 64]], 0⟩)]) (fun k => k ≤ 7 ∧ ∀ j, j < k → n ≠ sevL.getD j 0) (fun k => 7 - k) 0 (le_of (ad := []) ⟨rfl, ⟨rfl, rfl, rfl, rfl⟩, rfl, rfl, trivial⟩ (memOk_row rfl rfl rfl trivial)) ⟨Nat.zero_le _, fun j h => by omega⟩ ?_
  rintro k ⟨hk, hj⟩
  repeat' (first | refine tr_seq ?_ | refine tr_block ?_ | refine tr_skip ?_)
  refine reg (T := tab) tOk hnt rfl (by (dsimp only [AllP]; (repeat' first | exact trivial | assumption | exact Nat.le_of_ble_eq_true rfl | apply And.intro | intro _ | exact rfl))) ?_
  repeat' (first | refine tr_seq ?_ | refine tr_block ?_ | refine tr_skip ?_)
  refine tr_cond rfl (fun hc => ?_) (fun hc => ?_)
  · have hc := of_decide_eq_true hc
    have hk7 : k < 7 := by omega
    repeat' (first | refine tr_seq ?_ | refine tr_block ?_ | refine tr_skip ?_)
    refine reg (T := tab) tOk hnt rfl ?_ ?_
    · have hg := sev_get ⟨k, hk7⟩
      dsimp only [AllP]
      rw [Int.toNat_natCast, hg]
      exact ⟨trivial, ⟨Nat.zero_lt_one, rfl⟩, Int.natCast_nonneg _, by show (k : Int) < ((7 : Nat) : Int); omega⟩
    have hg := sev_get ⟨k, hk7⟩
    dsimp only at hg
    rw [Int.toNat_natCast, hg]
    repeat' (first | refine tr_seq ?_ | refine reg (T := tab) tOk hnt rfl ?_ ?_ | refine regD (T := tab) tOk mixedR hnt rfl (by decide +kernel) ?_ ?_ | refine tr_block ?_ | refine tr_skip ?_)
    · (dsimp only [AllP]; (repeat' first | exact trivial | assumption | exact Nat.le_of_ble_eq_true rfl | apply And.intro | intro _ | exact rfl))
    refine tr_cond rfl (fun hc => ?_) (fun hc => ?_)
    · have hc : n = sevL.getD k 0 := of_decide_eq_true hc
      repeat' (first | refine tr_seq ?_ | refine reg (T := tab) tOk hnt rfl ?_ ?_ | refine regD (T := tab) tOk mixedR hnt rfl (by decide +kernel) ?_ ?_ | refine tr_block ?_ | refine tr_skip ?_)
      · (dsimp only [AllP]; (repeat' first | exact trivial | assumption | exact Nat.le_of_ble_eq_true rfl | apply And.intro | intro _ | exact rfl))
      refine tr_ret ⟨.inr rfl, _, _, rfl, trivial, ?_⟩
      rw [(pow_sev n).2 ⟨k, hk7, hc⟩]
      rfl
    have hc : ¬ n = sevL.getD k 0 := of_decide_eq_false hc
    repeat' (first | refine tr_seq ?_ | refine reg (T := tab) tOk hnt rfl ?_ ?_ | refine regD (T := tab) tOk mixedR hnt rfl (by decide +kernel) ?_ ?_ | refine tr_block ?_ | refine tr_skip ?_)
    · (dsimp only [AllP]; (repeat' first | exact trivial | assumption | exact Nat.le_of_ble_eq_true rfl | apply And.intro | intro _ | exact rfl))
    refine ⟨k + 1, ⟨by omega, fun j h => ?_⟩, by omega, le_of (ad := []) ⟨rfl, ⟨rfl, rfl, rfl, rfl⟩, rfl, congrArg (fun z : Int => E.v (.int .i64 z)) (wrap64_id (by omega) (by omega)), trivial⟩ (memOk_row rfl rfl rfl trivial)⟩
    rcases Nat.lt_or_ge j k with h1 | h1
    · exact hj j h1
    · rw [show j = k by omega]
      exact hc
  have hc := of_decide_eq_false hc
  have hk7 : k = 7 := by omega
  subst hk7
  refine tr_exit ?_
  repeat' (first | refine tr_seq ?_ | refine reg (T := tab) tOk hnt rfl ?_ ?_ | refine regD (T := tab) tOk mixedR hnt rfl (by decide +kernel) ?_ ?_ | refine tr_block ?_ | refine tr_skip ?_)
  · (dsimp only [AllP]; (repeat' first | exact trivial | assumption | exact Nat.le_of_ble_eq_true rfl | apply And.intro | intro _ | exact rfl))
  refine tr_ret ⟨.inr rfl, _, _, rfl, trivial, ?_⟩
  have : powF n = false := by
    cases h : powF n with
    | false => rfl
    | true =>
      obtain ⟨k, hk, e⟩ := (pow_sev n).1 h
      exact absurd e (hj k hk)
  rw [this]
  rfl
/-- two digests under one -/
def ndF (mode : Int) (a b : List UInt8) : List UInt8 × Int := dgF mode 2 [a, b]
set_option maxRecDepth 10000 in
theorem node_fn (mode : Int) (a b : List UInt8) : FnG Tryd.prog 76 gK [.one (.e (eI mode)), .one (.e (eBytes a)), .one (.e (eBytes b))] (rBE (ndF mode a b)) := by
  refine fn_introG (T := tab) tOk Tryd.func76 rfl (by kernel_rfl) (by simp [Tryd.ntmps76]) ?_
  intro X hX
  have hnt : X.nt = 15 := hX
  clear hX
  repeat' (first | refine tr_seq ?_ | refine tr_block ?_ | refine tr_skip ?_)
  refine reg (T := tab) tOk hnt rfl (by (dsimp only [AllP]; (repeat' first | exact trivial | assumption | exact Nat.le_of_ble_eq_true rfl | apply And.intro | intro _ | exact rfl))) ?_
  repeat' (first | refine tr_seq ?_ | refine tr_block ?_ | refine tr_skip ?_)
  refine tr_region (lex (T := tab) tOk hnt rfl ?_ (callV rfl rfl rfl rfl rfl rfl rfl hnt rfl (Digest_fn mode 2 [a, b]) (lex (T := tab) tOk hnt rfl ?_ (Lex.nil _)))) ?_
  · (dsimp only [AllP]; (repeat' first | exact trivial | assumption | exact Nat.le_of_ble_eq_true rfl | apply And.intro | intro _ | exact rfl))
  · (dsimp only [AllP]; (repeat' first | exact trivial | assumption | exact Nat.le_of_ble_eq_true rfl | apply And.intro | intro _ | exact rfl))
  exact tr_ret ⟨.inr rfl, _, _, rfl, trivial, rfl⟩
set_option maxRecDepth 10000 in
theorem joined_fn (mode : Int) (a b : List UInt8) : FnD Tryd.prog 138 [.one (.e (eI mode)), .one (.e (eI 2)), .one (.e (eBytes a)), .one (.e (eBytes b))] (.one (.e (eBytes (ndF mode a b).1))) := by
  refine fn_intro (T := tab) tOk Tryd.func138 rfl (by kernel_rfl) (by simp [Tryd.ntmps138]) ?_
  intro X hX
  have hnt : X.nt = 21 := hX
  clear hX
  repeat' (first | refine tr_seq ?_ | refine tr_block ?_ | refine tr_skip ?_)
  refine reg (T := tab) tOk hnt rfl (by (dsimp only [AllP]; (repeat' first | exact trivial | assumption | exact Nat.le_of_ble_eq_true rfl | apply And.intro | intro _ | exact rfl))) ?_
  repeat' (first | refine tr_seq ?_ | refine tr_block ?_ | refine tr_skip ?_)
  refine tr_region (lex (T := tab) tOk hnt rfl ?_ (callU rfl rfl rfl rfl rfl rfl rfl hnt (DigestOf_fn mode 2 [a, b]) (lex (T := tab) tOk hnt rfl ?_ (Lex.nil _)))) ?_
  · (dsimp only [AllP]; (repeat' first | exact trivial | assumption | exact Nat.le_of_ble_eq_true rfl | apply And.intro | intro _ | exact rfl))
  · (dsimp only [AllP]; (repeat' first | exact trivial | assumption | exact Nat.le_of_ble_eq_true rfl | apply And.intro | intro _ | exact rfl))
  repeat' (first | refine tr_seq ?_ | refine reg (T := tab) tOk hnt rfl ?_ ?_ | refine regD (T := tab) tOk mixedR hnt rfl (by decide +kernel) ?_ ?_ | refine tr_block ?_ | refine tr_skip ?_)
  · (dsimp only [AllP]; (repeat' first | exact trivial | assumption | exact Nat.le_of_ble_eq_true rfl | apply And.intro | intro _ | exact rfl))
  exact tr_ret ⟨.inr rfl, _, _, rfl, trivial, rfl⟩
end Go.Proofs.YtphaholcndhonaaDoor
namespace Go.Proofs.YtphaholcndhonaaDoor
open Go Go.RowKit Go.Proofs.YtphaholcndhonaaDoor.Ab

abbrev SlotT := Bool × (List UInt8 × (List UInt8 × Unit))
def eS (x : SlotT) : List E := slE x.1 x.2.1 x.2.2.1
def eSlots (l : List SlotT) : E := .sl (l.map eS)
def lfX (mode : Int) (x : SlotT) : List UInt8 × Int := leafF mode x.1 x.2.1 x.2.2.1
def errL (mode : Int) : List SlotT → Int
  | [] => 0
  | x :: l => if (lfX mode x).2 ≠ 0 then (lfX mode x).2 else errL mode l
def digL (mode : Int) (l : List SlotT) : List (List UInt8) := l.map fun x => (lfX mode x).1
def leavesF (mode : Int) (l : List SlotT) : List (List UInt8) × Int :=
  if mode ≠ 1 ∧ mode ≠ 2 then ([], 2) else if powF l.length = false then ([], 1) else if errL mode l ≠ 0 then ([], errL mode l) else (digL mode l, 0)
/-- lists and a number -/
def rLE (r : List (List UInt8) × Int) : D := .tup [(false, .es [eLists r.1]), (false, .es [eI r.2])]
theorem slGet (l : List SlotT) {k : Nat} (h : k < l.length) : (l.map eS).getD k [] = eS l[k] := by
  simp [List.getD, h]
theorem errL_at (mode : Int) (l : List SlotT) {k : Nat} (h : k < l.length) : errL mode (l.drop k) = if (lfX mode l[k]).2 ≠ 0 then (lfX mode l[k]).2 else errL mode (l.drop (k + 1)) := by
  rw [List.drop_eq_getElem_cons h, errL]
theorem digL_succ (mode : Int) (l : List SlotT) {k : Nat} (h : k < l.length) : digL mode (l.take (k + 1)) = digL mode (l.take k) ++ [(lfX mode l[k]).1] := by
  unfold digL
  rw [List.take_succ_eq_append_getElem h, List.map_append]
  rfl
theorem digL_len (mode : Int) (l : List SlotT) : (digL mode l).length = l.length := by simp [digL]
theorem pow_le {n : Int} (h : powF n = true) : 1 ≤ n ∧ n ≤ 64 := by
  have := of_decide_eq_true h
  omega
theorem neD' (e : Int) : (!decide (e = 0)) = decide (e ≠ 0) := by simp
set_option maxRecDepth 10000 in
theorem leavesR_fn (mode : Int) (l : List SlotT) : FnG Tryd.prog 36 gK [.one (.e (eI mode)), .one (.e (eSlots l))] (rLE (leavesF mode l)) := by
  refine fn_introG (T := tab) tOk Tryd.func36 rfl (by kernel_rfl) (by simp [Tryd.ntmps36]) ?_
  intro X hX
  have hnt : X.nt = 39 := hX
  clear hX
  repeat' (first | refine tr_seq ?_ | refine tr_block ?_ | refine tr_skip ?_)
  refine reg (T := tab) tOk hnt rfl (by (dsimp only [AllP]; (repeat' first | exact trivial | assumption | exact Nat.le_of_ble_eq_true rfl | apply And.intro | intro _ | exact rfl))) ?_
  repeat' (first | refine tr_seq ?_ | refine tr_block ?_ | refine tr_skip ?_)
  refine tr_region (lex (T := tab) tOk hnt rfl ?_ (call rfl rfl rfl rfl rfl rfl rfl hnt (modes_fn mode) (lex (T := tab) tOk hnt rfl ?_ (Lex.nil _)))) ?_
  · (dsimp only [AllP]; (repeat' first | exact trivial | assumption | exact Nat.le_of_ble_eq_true rfl | apply And.intro | intro _ | exact rfl))
  · (dsimp only [AllP]; (repeat' first | exact trivial | assumption | exact Nat.le_of_ble_eq_true rfl | apply And.intro | intro _ | exact rfl))
  rw [Bool.not_not]
  repeat' (first | refine tr_seq ?_ | refine tr_block ?_ | refine tr_skip ?_)
  refine tr_cond rfl (fun hc => ?_) (fun hc => ?_)
  · have hc := of_decide_eq_true hc
    repeat' (first | refine tr_seq ?_ | refine reg (T := tab) tOk hnt rfl ?_ ?_ | refine regD (T := tab) tOk mixedR hnt rfl (by decide +kernel) ?_ ?_ | refine tr_block ?_ | refine tr_skip ?_)
    · (dsimp only [AllP]; (repeat' first | exact trivial | assumption | exact Nat.le_of_ble_eq_true rfl | apply And.intro | intro _ | exact rfl))
    refine tr_ret ⟨.inr rfl, _, _, rfl, trivial, ?_⟩
    rw [leavesF, if_pos hc]
    rfl
  have hc := of_decide_eq_false hc
  have hr : leavesF mode l = if powF l.length = false then ([], 1) else if errL mode l ≠ 0 then ([], errL mode l) else (digL mode l, 0) := by rw [leavesF, if_neg hc]
  rw [hr]
  clear hr hc
  have hll : (l.map eS).length = l.length := List.length_map ..
  have hpw : FnD Tryd.prog 29 [.one (.e (eI (((l.map eS).length : Nat) : Int)))] (.v (.bool (powF l.length))) := by
    rw [hll]
    exact power_fn _
  repeat' (first | refine tr_seq ?_ | refine tr_block ?_ | refine tr_skip ?_)
  refine tr_region (lex (T := tab) tOk hnt rfl ?_ (call rfl rfl rfl rfl rfl rfl rfl hnt hpw (lex (T := tab) tOk hnt rfl ?_ (Lex.nil _)))) ?_
  · (dsimp only [AllP]; (repeat' first | exact trivial | assumption | exact Nat.le_of_ble_eq_true rfl | apply And.intro | intro _ | exact rfl))
  · (dsimp only [AllP]; (repeat' first | exact trivial | assumption | exact Nat.le_of_ble_eq_true rfl | apply And.intro | intro _ | exact rfl))
  repeat' (first | refine tr_seq ?_ | refine tr_block ?_ | refine tr_skip ?_)
  cases hp : powF (l.length : Int) with
  | false =>
    refine tr_cond rfl (fun _ => ?_) (fun h => nomatch (show true = false from h))
    repeat' (first | refine tr_seq ?_ | refine reg (T := tab) tOk hnt rfl ?_ ?_ | refine regD (T := tab) tOk mixedR hnt rfl (by decide +kernel) ?_ ?_ | refine tr_block ?_ | refine tr_skip ?_)
    · (dsimp only [AllP]; (repeat' first | exact trivial | assumption | exact Nat.le_of_ble_eq_true rfl | apply And.intro | intro _ | exact rfl))
    refine tr_ret ⟨.inr rfl, _, _, rfl, trivial, ?_⟩
    rfl
  | true =>
    have h64 := pow_le hp
    refine tr_cond rfl (fun h => nomatch (show false = true from h)) (fun _ => ?_)
    rw [if_neg (fun h => nomatch (show true = false from h))]
    repeat' (first | refine tr_seq ?_ | refine reg (T := tab) tOk hnt rfl ?_ ?_ | refine regD (T := tab) tOk mixedR hnt rfl (by decide +kernel) ?_ ?_ | refine tr_block ?_ | refine tr_skip ?_)
    · (dsimp only [AllP]; (repeat' first | exact trivial | assumption | exact Nat.le_of_ble_eq_true rfl | apply And.intro | intro _ | exact rfl))
    · (dsimp only [AllP]; (repeat' first | exact trivial | assumption | exact Nat.le_of_ble_eq_true rfl | apply And.intro | intro _ | exact rfl))
    refine tr_loop (σ := Nat) (fun k => St.of [(0, .one (.e (eI mode))), (6, .one (.own 36 0)), (18, .one (.e (eSlots l))), (19, .v (.int .i64 l.length)), (20, .v (.int .i64 k)), ((1000000 + 4), .one (.eptr kE))] [(36, ⟨0, .row 1 ((digL mode (l.take k)).map fun p => [eBytes p]), 0⟩)]) (fun k => k ≤ l.length ∧ errL mode (l.drop k) = errL mode l) (fun k => l.length - k) 0 (le_of (ad := [36]) ⟨rfl, ⟨rfl, rfl⟩, rfl, congrArg (fun z : Nat => E.v (.int .i64 (z : Int))) hll, rfl, rfl, trivial⟩ (memOk_new rfl Nat.zero_lt_one trivial)) ⟨Nat.zero_le _, rfl⟩ ?_
    rintro k ⟨hk, he⟩
    repeat' (first | refine tr_seq ?_ | refine tr_block ?_ | refine tr_skip ?_)
    refine reg (T := tab) tOk hnt rfl (by (dsimp only [AllP]; (repeat' first | exact trivial | assumption | exact Nat.le_of_ble_eq_true rfl | apply And.intro | intro _ | exact rfl))) ?_
    repeat' (first | refine tr_seq ?_ | refine tr_block ?_ | refine tr_skip ?_)
    refine tr_cond rfl (fun hc => ?_) (fun hc => ?_)
    · have hc := of_decide_eq_true hc
      have hkl : k < l.length := by omega
      have hg := slGet l hkl
      have hd := digL_succ mode l hkl
      have hdl : (digL mode (l.take k)).length = k := by rw [digL_len, List.length_take]; omega
      rw [errL_at mode l hkl] at he
      repeat' (first | refine tr_seq ?_ | refine tr_block ?_ | refine tr_skip ?_)
      refine reg (T := tab) tOk hnt rfl ?_ ?_
      · dsimp only [AllP]
        rw [Int.toNat_natCast, hg]
        have hL : (k : Int) < ((l.map eS).length : Int) := by omega
        exact ⟨⟨rfl, Nat.le_of_ble_eq_true rfl, Nat.le_refl _⟩, trivial, Nat.le_of_ble_eq_true rfl, Int.natCast_nonneg _, hL, rfl⟩
      rw [Int.toNat_natCast, hg]
      generalize l[k] = x at *
      have hf := Leaf_fn mode x.1 x.2.1 x.2.2.1
      rw [show leafF mode x.1 x.2.1 x.2.2.1 = lfX mode x from rfl] at hf
      generalize lfX mode x = r at *
      obtain ⟨b, e⟩ := r
      refine tr_le (s' := St.of [(0, .one (.e (eI mode))), (6, .one (.own 36 0)), (8, .one (.ptr 8 0 0)), (18, .one (.e (eSlots l))), (19, .v (.int .i64 l.length)), (20, .v (.int .i64 k)), ((1000000 + 4), .one (.eptr kE))] [(8, ⟨0, .box (.es (eS x)), 0⟩), (36, ⟨0, .row 1 ((digL mode (l.take k)).map fun p => [eBytes p]), 0⟩)]) (le_of (ad := []) ⟨rfl, ⟨rfl, rfl, rfl, rfl⟩, ⟨rfl, rfl, rfl, rfl, rfl⟩, rfl, rfl, rfl, rfl, trivial⟩ (memOk_boxE rfl rfl (by kernel_rfl) (memOk_row rfl rfl rfl trivial))) ?_
      repeat' (first | refine tr_seq ?_ | refine tr_block ?_ | refine tr_skip ?_)
      refine tr_region (lex (T := tab) tOk hnt rfl ?_ (callV rfl rfl rfl rfl rfl rfl rfl hnt rfl hf (lex (T := tab) tOk hnt rfl ?_ (Lex.nil _)))) ?_
      · (dsimp only [AllP]; (repeat' first | exact trivial | assumption | exact Nat.le_of_ble_eq_true rfl | apply And.intro | intro _ | exact rfl))
      · (dsimp only [AllP]; (repeat' first | exact trivial | assumption | exact Nat.le_of_ble_eq_true rfl | apply And.intro | intro _ | exact rfl))
      repeat' (first | refine tr_seq ?_ | refine reg (T := tab) tOk hnt rfl ?_ ?_ | refine regD (T := tab) tOk mixedR hnt rfl (by decide +kernel) ?_ ?_ | refine tr_block ?_ | refine tr_skip ?_)
      · (dsimp only [AllP]; (repeat' first | exact trivial | assumption | exact Nat.le_of_ble_eq_true rfl | apply And.intro | intro _ | exact rfl))
      refine tr_cond rfl (fun hc => ?_) (fun hc => ?_)
      · have hc : e ≠ 0 := of_decide_eq_true ((neD' e).symm.trans hc)
        have he : e = errL mode l := by
          rw [← he, if_pos hc]
        repeat' (first | refine tr_seq ?_ | refine reg (T := tab) tOk hnt rfl ?_ ?_ | refine regD (T := tab) tOk mixedR hnt rfl (by decide +kernel) ?_ ?_ | refine tr_block ?_ | refine tr_skip ?_)
        · (dsimp only [AllP]; (repeat' first | exact trivial | assumption | exact Nat.le_of_ble_eq_true rfl | apply And.intro | intro _ | exact rfl))
        refine tr_ret ⟨.inr rfl, _, _, rfl, trivial, ?_⟩
        rw [← he, if_pos hc]
        rfl
      have hc : ¬ e ≠ 0 := of_decide_eq_false ((neD' e).symm.trans hc)
      have hm : ((digL mode (l.take k)).map fun p => [eBytes p]).length ≤ 64 := by
        rw [List.length_map]
        omega
      repeat' (first | refine tr_seq ?_ | refine reg (T := tab) tOk hnt rfl ?_ ?_ | refine regD (T := tab) tOk mixedR hnt rfl (by decide +kernel) ?_ ?_ | refine tr_block ?_ | refine tr_skip ?_)
      · exact ⟨trivial, ⟨trivial, Nat.le_trans (Nat.add_le_add_right hm 1) (by decide), Nat.le_trans (Nat.mul_le_mul_right _ (Nat.add_le_add_right hm 1)) (by decide)⟩, ⟨⟨rfl, trivial⟩, by decide, by decide⟩, trivial, trivial⟩
      · (dsimp only [AllP]; (repeat' first | exact trivial | assumption | exact Nat.le_of_ble_eq_true rfl | apply And.intro | intro _ | exact rfl))
      refine ⟨k + 1, ⟨by omega, by rw [← he, if_neg hc]⟩, by omega, le_of (ad := []) ⟨rfl, ⟨rfl, rfl, rfl, rfl⟩, rfl, rfl, congrArg (fun z : Int => E.v (.int .i64 z)) (wrap64_id (by omega) (by omega)), rfl, trivial⟩ (memOk_row rfl rfl ?_ trivial)⟩
      rw [hd, List.map_append]
      rfl
    have hc := of_decide_eq_false hc
    have hkl : k = l.length := by omega
    subst hkl
    rw [List.drop_length] at he
    refine tr_exit ?_
    repeat' (first | refine tr_seq ?_ | refine reg (T := tab) tOk hnt rfl ?_ ?_ | refine regD (T := tab) tOk mixedR hnt rfl (by decide +kernel) ?_ ?_ | refine tr_block ?_ | refine tr_skip ?_)
    · (dsimp only [AllP]; (repeat' first | exact trivial | assumption | exact Nat.le_of_ble_eq_true rfl | apply And.intro | intro _ | exact rfl))
    refine tr_ret ⟨.inr rfl, _, _, rfl, trivial, ?_⟩
    rw [← he, List.take_length]
    rfl
/-- nodes over a row -/
def pairsN (mode : Int) (row : List (List UInt8)) (n : Nat) : List (List UInt8) := (List.range n).map fun i => (ndF mode (row.getD (2 * i) []) (row.getD (2 * i + 1) [])).1
theorem pairsN_succ (mode : Int) (row : List (List UInt8)) (n : Nat) : pairsN mode row (n + 1) = pairsN mode row n ++ [(ndF mode (row.getD (2 * n) []) (row.getD (2 * n + 1) [])).1] := by
  unfold pairsN
  rw [List.range_succ, List.map_append]
  rfl
theorem pairsN_len (mode : Int) (row : List (List UInt8)) (n : Nat) : (pairsN mode row n).length = n := by simp [pairsN]
set_option maxRecDepth 10000 in
theorem up_fn (mode : Int) (row : List (List UInt8)) (hn : row.length ≤ 1000) (hok : ∀ i, 2 * i + 1 < row.length → (ndF mode (row.getD (2 * i) []) (row.getD (2 * i + 1) [])).2 = 0) : FnG Tryd.prog 79 gK [.one (.e (eI mode)), .one (.e (eLists row))] (rLE (pairsN mode row (row.length / 2), 0)) := by
  refine fn_introG (T := tab) tOk Tryd.func79 rfl (by kernel_rfl) (by simp [Tryd.ntmps79]) ?_
  intro X hX
  have hnt : X.nt = 39 := hX
  clear hX
  have hll : (row.map fun p => [eBytes p]).length = row.length := List.length_map ..
  repeat' (first | refine tr_seq ?_ | refine reg (T := tab) tOk hnt rfl ?_ ?_ | refine regD (T := tab) tOk mixedR hnt rfl (by decide +kernel) ?_ ?_ | refine tr_block ?_ | refine tr_skip ?_)
  · (dsimp only [AllP]; (repeat' first | exact trivial | assumption | exact Nat.le_of_ble_eq_true rfl | apply And.intro | intro _ | exact rfl))
  · (dsimp only [AllP]; (repeat' first | exact trivial | assumption | exact Nat.le_of_ble_eq_true rfl | apply And.intro | intro _ | exact rfl))
  · (dsimp only [AllP]; (repeat' first | exact trivial | assumption | exact Nat.le_of_ble_eq_true rfl | apply And.intro | intro _ | exact rfl))
  refine tr_loop (σ := Nat) (fun k => St.of [(0, .one (.e (eI mode))), (1, .one (.e (eLists row))), (6, .one (.own 37 0)), (7, .v (.int .i64 ((2 * k : Nat) : Int))), ((1000000 + 4), .one (.eptr kE))] [(37, ⟨0, .row 1 ((pairsN mode row k).map fun p => [eBytes p]), 0⟩)]) (fun k => 2 * k ≤ row.length) (fun k => row.length - k) 0 (le_of (ad := [37]) ⟨rfl, rfl, ⟨rfl, rfl⟩, rfl, rfl, trivial⟩ (memOk_new rfl Nat.zero_lt_one trivial)) (Nat.zero_le _) ?_
  intro k hk
  have hw1 : IntKind.i64.wrap (((2 * k : Nat) : Int) + 1) = ((2 * k + 1 : Nat) : Int) := by
    rw [wrap64_id (by omega) (by omega)]
    omega
  repeat' (first | refine tr_seq ?_ | refine tr_block ?_ | refine tr_skip ?_)
  refine reg (T := tab) tOk hnt rfl (by (dsimp only [AllP]; (repeat' first | exact trivial | assumption | exact Nat.le_of_ble_eq_true rfl | apply And.intro | intro _ | exact rfl))) ?_
  repeat' (first | refine tr_seq ?_ | refine tr_block ?_ | refine tr_skip ?_)
  refine tr_cond rfl (fun hc => ?_) (fun hc => ?_)
  · have hc : IntKind.i64.wrap (((2 * k : Nat) : Int) + 1) < ((row.map fun p => [eBytes p]).length : Int) := of_decide_eq_true hc
    rw [hw1, hll] at hc
    have hkl : 2 * k + 1 < row.length := by omega
    have h0 := hok k hkl
    have hp := pairsN_succ mode row k
    have hf : FnG Tryd.prog 76 gK [.one (.e (eI mode)), .one (.e (.sl (((row.map fun p => [eBytes p]).getD (Int.toNat ((2 * k : Nat) : Int)) []).getD 0 E.dflt).xs)), .one (.e (.sl (((row.map fun p => [eBytes p]).getD (Int.toNat (IntKind.i64.wrap (((2 * k : Nat) : Int) + 1))) []).getD 0 E.dflt).xs))] (rBE (ndF mode (row.getD (2 * k) []) (row.getD (2 * k + 1) []))) := by
      rw [hw1, Int.toNat_natCast, Int.toNat_natCast, lsGet row (by omega), lsGet row hkl]
      exact node_fn mode _ _
    generalize ndF mode (row.getD (2 * k) []) (row.getD (2 * k + 1) []) = r at *
    obtain ⟨b, e⟩ := r
    dsimp only at h0
    subst h0
    repeat' (first | refine tr_seq ?_ | refine tr_block ?_ | refine tr_skip ?_)
    refine tr_draw (T := tab) tOk hnt mixedR (lexD (T := tab) rfl ?_ (callVD rfl rfl rfl rfl rfl rfl rfl rfl rfl hf (lexD (T := tab) rfl ?_ (.nil _)))) (by decide +kernel) ?_
    · have hL : ((2 * k : Nat) : Int) < ((row.map fun p => [eBytes p]).length : Int) := by omega
      have hL2 : IntKind.i64.wrap (((2 * k : Nat) : Int) + 1) < ((row.map fun p => [eBytes p]).length : Int) := by omega
      have hz : 0 ≤ IntKind.i64.wrap (((2 * k : Nat) : Int) + 1) := by omega
      have r1 : 0 < ((row.map fun p => [eBytes p]).getD (Int.toNat ((2 * k : Nat) : Int)) []).length ∧ D0.isA (.slice 5) ((Cs.es ((row.map fun p => [eBytes p]).getD (Int.toNat ((2 * k : Nat) : Int)) [])).at 0) := by
        rw [Int.toNat_natCast, lsGet row (by omega)]
        exact ⟨Nat.zero_lt_one, rfl⟩
      have r2 : 0 < ((row.map fun p => [eBytes p]).getD (Int.toNat (IntKind.i64.wrap (((2 * k : Nat) : Int) + 1))) []).length ∧ D0.isA (.slice 5) ((Cs.es ((row.map fun p => [eBytes p]).getD (Int.toNat (IntKind.i64.wrap (((2 * k : Nat) : Int) + 1))) [])).at 0) := by
        rw [hw1, Int.toNat_natCast, lsGet row hkl]
        exact ⟨Nat.zero_lt_one, rfl⟩
      exact ⟨r2, ⟨hz, hL2, by
        rw [hw1, Int.toNat_natCast, lsGet row hkl]
        rfl⟩, rfl, trivial, trivial, r1, ⟨Int.natCast_nonneg _, hL, by
        rw [Int.toNat_natCast, lsGet row (by omega)]
        rfl⟩, trivial, trivial, trivial⟩
    · (dsimp only [AllP]; (repeat' first | exact trivial | assumption | exact Nat.le_of_ble_eq_true rfl | apply And.intro | intro _ | exact rfl))
    repeat' (first | refine tr_seq ?_ | refine reg (T := tab) tOk hnt rfl ?_ ?_ | refine regD (T := tab) tOk mixedR hnt rfl (by decide +kernel) ?_ ?_ | refine tr_block ?_ | refine tr_skip ?_)
    · (dsimp only [AllP]; (repeat' first | exact trivial | assumption | exact Nat.le_of_ble_eq_true rfl | apply And.intro | intro _ | exact rfl))
    refine tr_cond rfl (fun h => nomatch (show false = true from h)) (fun _ => ?_)
    have hm : ((pairsN mode row k).map fun p => [eBytes p]).length ≤ 1000 := by
      rw [List.length_map, pairsN_len]
      omega
    repeat' (first | refine tr_seq ?_ | refine reg (T := tab) tOk hnt rfl ?_ ?_ | refine regD (T := tab) tOk mixedR hnt rfl (by decide +kernel) ?_ ?_ | refine tr_block ?_ | refine tr_skip ?_)
    · exact ⟨trivial, ⟨trivial, Nat.le_trans (Nat.add_le_add_right hm 1) (by decide), Nat.le_trans (Nat.mul_le_mul_right _ (Nat.add_le_add_right hm 1)) (by decide)⟩, ⟨⟨rfl, trivial⟩, by decide, by decide⟩, trivial, trivial⟩
    · (dsimp only [AllP]; (repeat' first | exact trivial | assumption | exact Nat.le_of_ble_eq_true rfl | apply And.intro | intro _ | exact rfl))
    refine ⟨k + 1, by omega, by omega, le_of (ad := []) ⟨rfl, rfl, ⟨rfl, rfl, rfl, rfl⟩, ?_, rfl, trivial⟩ (memOk_row rfl rfl ?_ trivial)⟩
    · refine congrArg (fun z : Int => E.v (.int .i64 z)) ?_
      show IntKind.i64.wrap (((2 * k : Nat) : Int) + 2) = _
      rw [wrap64_id (by omega) (by omega)]
      omega
    · rw [hp, List.map_append]
      rfl
  have hc : ¬ IntKind.i64.wrap (((2 * k : Nat) : Int) + 1) < ((row.map fun p => [eBytes p]).length : Int) := of_decide_eq_false hc
  rw [hw1, hll] at hc
  have hkl : k = row.length / 2 := by omega
  subst hkl
  refine tr_exit ?_
  repeat' (first | refine tr_seq ?_ | refine reg (T := tab) tOk hnt rfl ?_ ?_ | refine regD (T := tab) tOk mixedR hnt rfl (by decide +kernel) ?_ ?_ | refine tr_block ?_ | refine tr_skip ?_)
  · (dsimp only [AllP]; (repeat' first | exact trivial | assumption | exact Nat.le_of_ble_eq_true rfl | apply And.intro | intro _ | exact rfl))
  exact tr_ret ⟨.inr rfl, _, _, rfl, trivial, rfl⟩
end Go.Proofs.YtphaholcndhonaaDoor
namespace Go.Proofs.YtphaholcndhonaaDoor
open Go Go.RowKit Go.Proofs.YtphaholcndhonaaDoor.Ab

theorem frameF_lenF (tag : Int) (ps : List (List UInt8)) : (frameF tag ps).1.length ≤ lenF ps ps.length := by
  unfold frameF
  split
  · exact Nat.zero_le _
  split
  · exact Nat.zero_le _
  split
  · exact Nat.zero_le _
  show (frB tag ps).length ≤ _
  rw [frB, preF_len tag ps ps.length ps.length (Nat.le_refl _)]
  exact Nat.le_refl _
theorem dgF_max (mode tag : Int) (ps : List (List UInt8)) {n : Nat} (h : lenF ps ps.length ≤ n) (h32 : 32 ≤ n) : (dgF mode tag ps).1.length ≤ n := by
  unfold dgF
  split
  · exact Nat.zero_le _
  split
  · exact Nat.le_trans (frameF_lenF tag ps) h
  show (sumF _).length ≤ _
  rw [sumF_len]
  exact h32
theorem lenF2 (a b : List UInt8) : lenF [a, b] 2 = 10 + a.length + b.length := by
  show 2 + ((4 + a.length) + ((4 + b.length) + 0)) = _
  omega
theorem dgF_ok (mode : Int) (hm : ¬ (mode ≠ 1 ∧ mode ≠ 2)) (tag : Int) (ht : 1 ≤ tag ∧ tag ≤ 9) (a b : List UInt8) (h : a.length + b.length ≤ 16000000) : (dgF mode tag [a, b]).2 = 0 := by
  have hf : frameF tag [a, b] = (frB tag [a, b], 0) := by
    unfold frameF
    rw [if_neg (by omega), if_neg (by show ¬ 8 < 2; decide), if_neg (by show ¬ 16777216 < lenF [a, b] 2; rw [lenF2]; omega)]
  unfold dgF
  rw [if_neg hm, hf]
  split <;> rfl
def nd (mode : Int) (a b : List UInt8) : List UInt8 := (ndF mode a b).1
theorem nd_ok (mode : Int) (hm : ¬ (mode ≠ 1 ∧ mode ≠ 2)) (a b : List UInt8) (h : a.length + b.length ≤ 16000000) : (ndF mode a b).2 = 0 := dgF_ok mode hm 2 (by decide) a b h
theorem nd_len (mode : Int) (a b : List UInt8) {n : Nat} (ha : a.length ≤ n) (hb : b.length ≤ n) (hn : 32 ≤ n) : (nd mode a b).length ≤ 2 * n + 10 := by
  refine dgF_max mode 2 [a, b] ?_ (by omega)
  show lenF [a, b] 2 ≤ _
  rw [lenF2]
  omega
theorem leaf_len (mode : Int) (x : SlotT) : (lfX mode x).1.length ≤ 502 := by
  unfold lfX leafF
  split
  · exact Nat.zero_le _
  split
  · exact Nat.zero_le _
  split
  · exact Nat.zero_le _
  rename_i h
  refine dgF_max mode 1 _ ?_ (by decide)
  show lenF [_, _] 2 ≤ _
  rw [lenF2]
  cases x.1
  · show 10 + x.2.1.length + 1 ≤ _
    omega
  · show 10 + x.2.1.length + (x.2.2.1.length + 1) ≤ _
    omega
/-- a tree of digests, by halves -/
def hT (mode : Int) : Nat → List (List UInt8) → List UInt8
  | 0, xs => xs.getD 0 []
  | k + 1, xs => nd mode (hT mode k (xs.take (2 ^ k))) (hT mode k (xs.drop (2 ^ k)))
theorem pairsN_take (mode : Int) (xs : List (List UInt8)) {m n : Nat} (h : m ≤ n) : (pairsN mode xs n).take m = pairsN mode xs m := by
  unfold pairsN
  rw [← List.map_take, List.take_range, Nat.min_eq_left h]
theorem pairsN_congr (mode : Int) (xs ys : List (List UInt8)) (n : Nat) (h : ∀ i, i < 2 * n → xs.getD i [] = ys.getD i []) : pairsN mode xs n = pairsN mode ys n := by
  unfold pairsN
  refine List.map_congr_left fun i hi => ?_
  have hi := List.mem_range.1 hi
  rw [h (2 * i) (by omega), h (2 * i + 1) (by omega)]
theorem pairsN_drop (mode : Int) (xs : List (List UInt8)) (m n : Nat) : (pairsN mode xs (m + n)).drop m = pairsN mode (xs.drop (2 * m)) n := by
  unfold pairsN
  rw [List.range_add, List.map_append, List.drop_left' (by simp), List.map_map]
  refine List.map_congr_left fun i hi => ?_
  have e : ∀ j, (xs.drop (2 * m)).getD j [] = xs.getD (2 * m + j) [] := fun j => by
    simp [List.getD, List.getElem?_drop]
  show (ndF mode (xs.getD (2 * (m + i)) []) (xs.getD (2 * (m + i) + 1) [])).1 = _
  rw [e, e, show 2 * (m + i) = 2 * m + 2 * i by omega, show 2 * m + 2 * i + 1 = 2 * m + (2 * i + 1) by omega]
theorem pairs_hT (mode : Int) : ∀ (k : Nat) (xs : List (List UInt8)), xs.length = 2 ^ (k + 1) → hT mode (k + 1) xs = hT mode k (pairsN mode xs (2 ^ k))
  | 0, xs, h => by
    match xs, h with
    | [a, b], _ => rfl
  | k + 1, xs, h => by
    have hp : 2 ^ (k + 2) = 2 ^ (k + 1) + 2 ^ (k + 1) := by rw [Nat.pow_succ]; omega
    have hp' : 2 ^ (k + 1) = 2 ^ k + 2 ^ k := by rw [Nat.pow_succ]; omega
    have h : xs.length = 2 ^ (k + 2) := h
    have e1 : (pairsN mode xs (2 ^ (k + 1))).take (2 ^ k) = pairsN mode (xs.take (2 ^ (k + 1))) (2 ^ k) := by
      rw [pairsN_take mode xs (by omega)]
      refine pairsN_congr mode _ _ _ fun i hi => ?_
      simp [List.getD, show i < 2 ^ (k + 1) by omega]
    have e2 : (pairsN mode xs (2 ^ (k + 1))).drop (2 ^ k) = pairsN mode (xs.drop (2 ^ (k + 1))) (2 ^ k) := by
      rw [hp', pairsN_drop, show 2 * 2 ^ k = 2 ^ k + 2 ^ k by omega]
    show nd mode (hT mode (k + 1) (xs.take (2 ^ (k + 1)))) (hT mode (k + 1) (xs.drop (2 ^ (k + 1)))) = nd mode (hT mode k ((pairsN mode xs (2 ^ (k + 1))).take (2 ^ k))) (hT mode k ((pairsN mode xs (2 ^ (k + 1))).drop (2 ^ k)))
    rw [e1, e2, pairs_hT mode k _ (by rw [List.length_take]; omega), pairs_hT mode k _ (by rw [List.length_drop]; omega)]
theorem pow_two (n : Nat) (h : powF (n : Int) = true) : ∃ k, k ≤ 6 ∧ n = 2 ^ k := by
  have := of_decide_eq_true h
  have : n = 1 ∨ n = 2 ∨ n = 4 ∨ n = 8 ∨ n = 16 ∨ n = 32 ∨ n = 64 := by omega
  rcases this with rfl | rfl | rfl | rfl | rfl | rfl | rfl
  · exact ⟨0, by decide, rfl⟩
  · exact ⟨1, by decide, rfl⟩
  · exact ⟨2, by decide, rfl⟩
  · exact ⟨3, by decide, rfl⟩
  · exact ⟨4, by decide, rfl⟩
  · exact ⟨5, by decide, rfl⟩
  · exact ⟨6, by decide, rfl⟩
def rootF (mode : Int) (l : List SlotT) : List UInt8 × Int :=
  if (leavesF mode l).2 ≠ 0 then ([], (leavesF mode l).2) else (hT mode (Nat.log2 l.length) (digL mode l), 0)
theorem log_pow {k : Nat} : Nat.log2 (2 ^ k) = k := Nat.log2_two_pow
/-- what leaves without a fault say -/
theorem leaves_good {mode : Int} {l : List SlotT} (h : (leavesF mode l).2 = 0) : ¬ (mode ≠ 1 ∧ mode ≠ 2) ∧ leavesF mode l = (digL mode l, 0) ∧ ∃ k, k ≤ 6 ∧ l.length = 2 ^ k := by
  unfold leavesF at h ⊢
  split at h
  · cases h
  · rename_i hm
    split at h
    · cases h
    · rename_i hp
      split at h
      · rename_i he
        exact absurd h he
      · rename_i he
        rw [if_neg hm, if_neg hp, if_neg he]
        exact ⟨hm, rfl, pow_two _ (by simpa using hp)⟩
theorem guardE (e : Int) (n : Nat) : (bif decide (e = 0) then decide ((1 : Int) < (n : Int)) else false) = decide (e = 0 ∧ 1 < n) := by
  by_cases h : e = 0 <;> simp [h] <;> omega
set_option maxRecDepth 10000 in
theorem Root_fn (mode : Int) (l : List SlotT) : FnG Tryd.prog 39 gK [.one (.e (eI mode)), .one (.e (eSlots l))] (rBE (rootF mode l)) := by
  refine fn_introG (T := tab) tOk Tryd.func39 rfl (by kernel_rfl) (by simp [Tryd.ntmps39]) ?_
  intro X hX
  have hnt : X.nt = 33 := hX
  clear hX
  have hlv := leavesR_fn mode l
  have hgood := @leaves_good mode l
  unfold rootF
  generalize leavesF mode l = r at *
  obtain ⟨row0, e⟩ := r
  repeat' (first | refine tr_seq ?_ | refine tr_block ?_ | refine tr_skip ?_)
  refine reg (T := tab) tOk hnt rfl (by (dsimp only [AllP]; (repeat' first | exact trivial | assumption | exact Nat.le_of_ble_eq_true rfl | apply And.intro | intro _ | exact rfl))) ?_
  repeat' (first | refine tr_seq ?_ | refine tr_block ?_ | refine tr_skip ?_)
  refine tr_region (lex (T := tab) tOk hnt rfl ?_ (callV rfl rfl rfl rfl rfl rfl rfl hnt rfl hlv (lex (T := tab) tOk hnt rfl ?_ (Lex.nil _)))) ?_
  · (dsimp only [AllP]; (repeat' first | exact trivial | assumption | exact Nat.le_of_ble_eq_true rfl | apply And.intro | intro _ | exact rfl))
  · (dsimp only [AllP]; (repeat' first | exact trivial | assumption | exact Nat.le_of_ble_eq_true rfl | apply And.intro | intro _ | exact rfl))
  repeat' (first | refine tr_seq ?_ | refine tr_block ?_ | refine tr_skip ?_)
  by_cases he : e = 0
  · subst he
    obtain ⟨hm, hrow, k, hk, hlk⟩ := hgood rfl
    cases hrow
    rw [if_neg (fun h => h rfl), hlk, log_pow]
    have hB : ∀ x ∈ digL mode l, x.length ≤ 502 := fun x hx => by
      obtain ⟨y, _, rfl⟩ := List.mem_map.1 hx
      exact leaf_len mode y
    refine tr_loop (σ := Nat × List (List UInt8)) (fun x => St.of [(0, .one (.e (eI mode))), (6, .one (.e (eLists x.2))), (7, .one (.e (eI 0))), ((1000000 + 4), .one (.eptr kE))] []) (fun x => x.1 ≤ k ∧ x.2.length = 2 ^ x.1 ∧ hT mode x.1 x.2 = hT mode k (digL mode l) ∧ ∀ y ∈ x.2, y.length ≤ 512 * 2 ^ (k - x.1) - 10) (fun x => x.1) (k, digL mode l) (le_of (ad := []) ⟨rfl, rfl, rfl, rfl, trivial⟩ trivial) ⟨Nat.le_refl _, by rw [digL_len, hlk], rfl, fun y hy => by rw [Nat.sub_self]; exact hB y hy⟩ ?_
    rintro ⟨j, row⟩ ⟨h1, h2, h3, h4⟩
    dsimp only at h1 h2 h3 h4 ⊢
    have hll : (row.map fun p => [eBytes p]).length = row.length := List.length_map ..
    repeat' (first | refine tr_seq ?_ | refine tr_block ?_ | refine tr_skip ?_)
    refine reg (T := tab) tOk hnt rfl (by (dsimp only [AllP]; (repeat' first | exact trivial | assumption | exact Nat.le_of_ble_eq_true rfl | apply And.intro | intro _ | exact rfl))) ?_
    repeat' (first | refine tr_seq ?_ | refine tr_block ?_ | refine tr_skip ?_)
    refine tr_cond rfl (fun hc => ?_) (fun hc => ?_)
    · have hc : (bif decide ((0 : Int) = 0) then decide ((1 : Int) < ((row.map fun p => [eBytes p]).length : Int)) else false) = true := hc
      rw [guardE, hll] at hc
      have hc := (of_decide_eq_true hc).2
      match j, h1, h2, h3, h4 with
      | 0, h1, h2, h3, h4 => exact absurd hc (by rw [h2]; decide)
      | j + 1, h1, h2, h3, h4 =>
        have hj6 : 2 ^ (k - (j + 1)) ≤ 2 ^ 6 := Nat.pow_le_pow_right (by decide) (by omega)
        have h64 : 2 ^ (j + 1) ≤ 2 ^ 6 := Nat.pow_le_pow_right (by decide) (by omega)
        have hp : 2 ^ (j + 1) = 2 ^ j + 2 ^ j := by rw [Nat.pow_succ]; omega
        have hp1 : 1 ≤ 2 ^ (k - (j + 1)) := Nat.one_le_two_pow
        have hq : 2 ^ (k - j) = 2 * 2 ^ (k - (j + 1)) := by
          rw [show k - j = k - (j + 1) + 1 by omega, Nat.pow_succ]
          omega
        have hbd : ∀ i, (row.getD i []).length ≤ 512 * 2 ^ (k - (j + 1)) - 10 := fun i => by
          rcases Nat.lt_or_ge i row.length with h | h
          · have e : row.getD i [] = row[i] := by simp [List.getD, h]
            rw [e]
            exact h4 _ (List.getElem_mem h)
          · have e : row.getD i [] = [] := by simp [List.getD, h]
            rw [e]
            exact Nat.zero_le _
        have hup := up_fn mode row (by omega) (fun i _ => nd_ok mode hm _ _ (by have := hbd (2 * i); have := hbd (2 * i + 1); omega))
        rw [show row.length / 2 = 2 ^ j by omega] at hup
        repeat' (first | refine tr_seq ?_ | refine tr_block ?_ | refine tr_skip ?_)
        refine tr_region (lex (T := tab) tOk hnt rfl ?_ (callV rfl rfl rfl rfl rfl rfl rfl hnt rfl hup (lex (T := tab) tOk hnt rfl ?_ (Lex.nil _)))) ?_
        · (dsimp only [AllP]; (repeat' first | exact trivial | assumption | exact Nat.le_of_ble_eq_true rfl | apply And.intro | intro _ | exact rfl))
        · (dsimp only [AllP]; (repeat' first | exact trivial | assumption | exact Nat.le_of_ble_eq_true rfl | apply And.intro | intro _ | exact rfl))
        refine ⟨(j, pairsN mode row (2 ^ j)), ⟨by dsimp only; omega, pairsN_len .., ?_, fun y hy => ?_⟩, by dsimp only; omega, le_of (ad := []) ⟨rfl, rfl, rfl, rfl, trivial⟩ trivial⟩
        · dsimp only
          rw [← pairs_hT mode j row h2, h3]
        · obtain ⟨i, _, rfl⟩ := List.mem_map.1 hy
          have := nd_len mode (row.getD (2 * i) []) (row.getD (2 * i + 1) []) (hbd _) (hbd _) (by omega)
          rw [hq]
          unfold nd at this
          omega
    have hc : (bif decide ((0 : Int) = 0) then decide ((1 : Int) < ((row.map fun p => [eBytes p]).length : Int)) else false) = false := hc
    rw [guardE, hll] at hc
    have hc := of_decide_eq_false hc
    have hj0 : j = 0 := by
      match j, h2 with
      | 0, _ => rfl
      | j + 1, h2 =>
        have : 1 < 2 ^ (j + 1) := Nat.one_lt_two_pow (by omega)
        exact absurd ⟨rfl, by omega⟩ hc
    subst hj0
    refine tr_exit ?_
    repeat' (first | refine tr_seq ?_ | refine reg (T := tab) tOk hnt rfl ?_ ?_ | refine regD (T := tab) tOk mixedR hnt rfl (by decide +kernel) ?_ ?_ | refine tr_block ?_ | refine tr_skip ?_)
    · (dsimp only [AllP]; (repeat' first | exact trivial | assumption | exact Nat.le_of_ble_eq_true rfl | apply And.intro | intro _ | exact rfl))
    refine tr_cond rfl (fun h => nomatch (show false = true from h)) (fun _ => ?_)
    have hr1 : 0 < row.length := by omega
    have hg := lsGet row hr1
    repeat' (first | refine tr_seq ?_ | refine reg (T := tab) tOk hnt rfl ?_ ?_ | refine regD (T := tab) tOk mixedR hnt rfl (by decide +kernel) ?_ ?_ | refine tr_block ?_ | refine tr_skip ?_)
    · dsimp only [AllP]
      rw [show Int.toNat 0 = 0 from rfl, hg]
      have hL : (0 : Int) < ((row.map fun p => [eBytes p]).length : Int) := by omega
      exact ⟨trivial, trivial, ⟨Nat.zero_lt_one, rfl⟩, ⟨Int.le_refl _, hL, rfl⟩, trivial⟩
    refine tr_ret ⟨.inr rfl, _, _, rfl, trivial, ?_⟩
    rw [show Int.toNat 0 = 0 from rfl, hg, ← h3]
    rfl
  · rw [if_pos he]
    refine tr_loop (σ := Unit) (fun _ => St.of [(0, .one (.e (eI mode))), (6, .one (.e (eLists row0))), (7, .one (.e (eI e))), ((1000000 + 4), .one (.eptr kE))] []) (fun _ => True) (fun _ => 0) () (le_of (ad := []) ⟨rfl, rfl, rfl, rfl, trivial⟩ trivial) trivial ?_
    intro _ _
    repeat' (first | refine tr_seq ?_ | refine tr_block ?_ | refine tr_skip ?_)
    refine reg (T := tab) tOk hnt rfl (by (dsimp only [AllP]; (repeat' first | exact trivial | assumption | exact Nat.le_of_ble_eq_true rfl | apply And.intro | intro _ | exact rfl))) ?_
    repeat' (first | refine tr_seq ?_ | refine tr_block ?_ | refine tr_skip ?_)
    refine tr_cond rfl (fun hc => ?_) (fun _ => ?_)
    · have hc : (bif decide (e = 0) then decide ((1 : Int) < ((row0.map fun p => [eBytes p]).length : Int)) else false) = true := hc
      rw [guardE] at hc
      exact absurd (of_decide_eq_true hc).1 he
    refine tr_exit ?_
    repeat' (first | refine tr_seq ?_ | refine reg (T := tab) tOk hnt rfl ?_ ?_ | refine regD (T := tab) tOk mixedR hnt rfl (by decide +kernel) ?_ ?_ | refine tr_block ?_ | refine tr_skip ?_)
    · (dsimp only [AllP]; (repeat' first | exact trivial | assumption | exact Nat.le_of_ble_eq_true rfl | apply And.intro | intro _ | exact rfl))
    refine tr_cond rfl (fun hc => ?_) (fun hc => ?_)
    · repeat' (first | refine tr_seq ?_ | refine reg (T := tab) tOk hnt rfl ?_ ?_ | refine regD (T := tab) tOk mixedR hnt rfl (by decide +kernel) ?_ ?_ | refine tr_block ?_ | refine tr_skip ?_)
      · (dsimp only [AllP]; (repeat' first | exact trivial | assumption | exact Nat.le_of_ble_eq_true rfl | apply And.intro | intro _ | exact rfl))
      exact tr_ret ⟨.inr rfl, _, _, rfl, trivial, rfl⟩
    · have hc : (!decide (e = 0)) = false := hc
      simp at hc
      exact absurd hc he
end Go.Proofs.YtphaholcndhonaaDoor
namespace Go.Proofs.YtphaholcndhonaaDoor
open Go Go.RowKit Go.Proofs.YtphaholcndhonaaDoor.Ab

def slFault (mode : Int) (l : List SlotT) : Int :=
  if mode ≠ 1 ∧ mode ≠ 2 then 2 else if powF l.length = false then 1 else errL mode l
theorem slFault_eq (mode : Int) (l : List SlotT) : (leavesF mode l).2 = slFault mode l := by
  unfold leavesF slFault
  split
  · rfl
  split
  · rfl
  split
  · rfl
  · rename_i h
    exact (Decidable.not_not.1 h).symm
set_option maxRecDepth 10000 in
theorem slFault_fn (mode : Int) (l : List SlotT) : FnD Tryd.prog 40 [.one (.e (eI mode)), .one (.e (eSlots l))] (.one (.e (eI (slFault mode l)))) := by
  refine fn_intro (T := tab) tOk Tryd.func40 rfl (by kernel_rfl) (by simp [Tryd.ntmps40]) ?_
  intro X hX
  have hnt : X.nt = 31 := hX
  clear hX
  repeat' (first | refine tr_seq ?_ | refine tr_block ?_ | refine tr_skip ?_)
  refine reg (T := tab) tOk hnt rfl (by (dsimp only [AllP]; (repeat' first | exact trivial | assumption | exact Nat.le_of_ble_eq_true rfl | apply And.intro | intro _ | exact rfl))) ?_
  repeat' (first | refine tr_seq ?_ | refine tr_block ?_ | refine tr_skip ?_)
  refine tr_region (lex (T := tab) tOk hnt rfl ?_ (call rfl rfl rfl rfl rfl rfl rfl hnt (badMode_fn mode) (lex (T := tab) tOk hnt rfl ?_ (Lex.nil _)))) ?_
  · (dsimp only [AllP]; (repeat' first | exact trivial | assumption | exact Nat.le_of_ble_eq_true rfl | apply And.intro | intro _ | exact rfl))
  · (dsimp only [AllP]; (repeat' first | exact trivial | assumption | exact Nat.le_of_ble_eq_true rfl | apply And.intro | intro _ | exact rfl))
  repeat' (first | refine tr_seq ?_ | refine tr_block ?_ | refine tr_skip ?_)
  refine tr_cond rfl (fun hc => ?_) (fun hc => ?_)
  · have hc := of_decide_eq_true hc
    repeat' (first | refine tr_seq ?_ | refine reg (T := tab) tOk hnt rfl ?_ ?_ | refine regD (T := tab) tOk mixedR hnt rfl (by decide +kernel) ?_ ?_ | refine tr_block ?_ | refine tr_skip ?_)
    · (dsimp only [AllP]; (repeat' first | exact trivial | assumption | exact Nat.le_of_ble_eq_true rfl | apply And.intro | intro _ | exact rfl))
    refine tr_ret ⟨.inr rfl, _, _, rfl, trivial, ?_⟩
    rw [slFault, if_pos hc]
    rfl
  have hc := of_decide_eq_false hc
  have hr : slFault mode l = if powF l.length = false then 1 else errL mode l := by rw [slFault, if_neg hc]
  rw [hr]
  clear hr hc
  have hll : (l.map eS).length = l.length := List.length_map ..
  have hpw : FnD Tryd.prog 32 [.one (.e (eI (((l.map eS).length : Nat) : Int)))] (.v (.bool (powF l.length))) := by
    rw [hll]
    exact whole_fn _
  repeat' (first | refine tr_seq ?_ | refine tr_block ?_ | refine tr_skip ?_)
  refine tr_region (lex (T := tab) tOk hnt rfl ?_ (call rfl rfl rfl rfl rfl rfl rfl hnt hpw (lex (T := tab) tOk hnt rfl ?_ (Lex.nil _)))) ?_
  · (dsimp only [AllP]; (repeat' first | exact trivial | assumption | exact Nat.le_of_ble_eq_true rfl | apply And.intro | intro _ | exact rfl))
  · (dsimp only [AllP]; (repeat' first | exact trivial | assumption | exact Nat.le_of_ble_eq_true rfl | apply And.intro | intro _ | exact rfl))
  repeat' (first | refine tr_seq ?_ | refine tr_block ?_ | refine tr_skip ?_)
  cases hp : powF (l.length : Int) with
  | false =>
    refine tr_cond rfl (fun _ => ?_) (fun h => nomatch (show true = false from h))
    repeat' (first | refine tr_seq ?_ | refine reg (T := tab) tOk hnt rfl ?_ ?_ | refine regD (T := tab) tOk mixedR hnt rfl (by decide +kernel) ?_ ?_ | refine tr_block ?_ | refine tr_skip ?_)
    · (dsimp only [AllP]; (repeat' first | exact trivial | assumption | exact Nat.le_of_ble_eq_true rfl | apply And.intro | intro _ | exact rfl))
    exact tr_ret ⟨.inr rfl, _, _, rfl, trivial, rfl⟩
  | true =>
    have h64 := pow_le hp
    refine tr_cond rfl (fun h => nomatch (show false = true from h)) (fun _ => ?_)
    rw [if_neg (fun h => nomatch (show true = false from h))]
    repeat' (first | refine tr_seq ?_ | refine reg (T := tab) tOk hnt rfl ?_ ?_ | refine regD (T := tab) tOk mixedR hnt rfl (by decide +kernel) ?_ ?_ | refine tr_block ?_ | refine tr_skip ?_)
    · (dsimp only [AllP]; (repeat' first | exact trivial | assumption | exact Nat.le_of_ble_eq_true rfl | apply And.intro | intro _ | exact rfl))
    refine tr_loop (σ := Nat) (fun k => St.of [(0, .one (.e (eI mode))), (15, .one (.e (eSlots l))), (16, .v (.int .i64 l.length)), (17, .v (.int .i64 k))] []) (fun k => k ≤ l.length ∧ errL mode (l.drop k) = errL mode l) (fun k => l.length - k) 0 (le_of (ad := []) ⟨rfl, rfl, congrArg (fun z : Nat => E.v (.int .i64 (z : Int))) hll, rfl, trivial⟩ trivial) ⟨Nat.zero_le _, rfl⟩ ?_
    rintro k ⟨hk, he⟩
    repeat' (first | refine tr_seq ?_ | refine tr_block ?_ | refine tr_skip ?_)
    refine reg (T := tab) tOk hnt rfl (by (dsimp only [AllP]; (repeat' first | exact trivial | assumption | exact Nat.le_of_ble_eq_true rfl | apply And.intro | intro _ | exact rfl))) ?_
    repeat' (first | refine tr_seq ?_ | refine tr_block ?_ | refine tr_skip ?_)
    refine tr_cond rfl (fun hc => ?_) (fun hc => ?_)
    · have hc := of_decide_eq_true hc
      have hkl : k < l.length := by omega
      have hg := slGet l hkl
      rw [errL_at mode l hkl] at he
      repeat' (first | refine tr_seq ?_ | refine tr_block ?_ | refine tr_skip ?_)
      refine reg (T := tab) tOk hnt rfl ?_ ?_
      · dsimp only [AllP]
        rw [Int.toNat_natCast, hg]
        have hL : (k : Int) < ((l.map eS).length : Int) := by omega
        exact ⟨⟨rfl, Nat.le_of_ble_eq_true rfl, Nat.le_refl _⟩, trivial, Nat.le_of_ble_eq_true rfl, Int.natCast_nonneg _, hL, rfl⟩
      rw [Int.toNat_natCast, hg]
      generalize l[k] = x at *
      have hf := LeafOf_fn mode x.1 x.2.1 x.2.2.1
      rw [show leafF mode x.1 x.2.1 x.2.2.1 = lfX mode x from rfl] at hf
      generalize lfX mode x = r at *
      obtain ⟨b, e⟩ := r
      refine tr_le (s' := St.of [(0, .one (.e (eI mode))), (6, .one (.ptr 6 0 0)), (15, .one (.e (eSlots l))), (16, .v (.int .i64 l.length)), (17, .v (.int .i64 k))] [(6, ⟨0, .box (.es (eS x)), 0⟩)]) (le_of (ad := []) ⟨rfl, ⟨rfl, rfl, rfl, rfl, rfl⟩, rfl, rfl, rfl, trivial⟩ (memOk_boxE rfl rfl (by kernel_rfl) trivial)) ?_
      repeat' (first | refine tr_seq ?_ | refine tr_block ?_ | refine tr_skip ?_)
      refine tr_region (lex (T := tab) tOk hnt rfl ?_ (call rfl rfl rfl rfl rfl rfl rfl hnt hf (lex (T := tab) tOk hnt rfl ?_ (Lex.nil _)))) ?_
      · (dsimp only [AllP]; (repeat' first | exact trivial | assumption | exact Nat.le_of_ble_eq_true rfl | apply And.intro | intro _ | exact rfl))
      · (dsimp only [AllP]; (repeat' first | exact trivial | assumption | exact Nat.le_of_ble_eq_true rfl | apply And.intro | intro _ | exact rfl))
      repeat' (first | refine tr_seq ?_ | refine reg (T := tab) tOk hnt rfl ?_ ?_ | refine regD (T := tab) tOk mixedR hnt rfl (by decide +kernel) ?_ ?_ | refine tr_block ?_ | refine tr_skip ?_)
      · (dsimp only [AllP]; (repeat' first | exact trivial | assumption | exact Nat.le_of_ble_eq_true rfl | apply And.intro | intro _ | exact rfl))
      refine tr_cond rfl (fun hc => ?_) (fun hc => ?_)
      · have hc : e ≠ 0 := of_decide_eq_true ((neD' e).symm.trans hc)
        have he : e = errL mode l := by
          rw [← he, if_pos hc]
        repeat' (first | refine tr_seq ?_ | refine reg (T := tab) tOk hnt rfl ?_ ?_ | refine regD (T := tab) tOk mixedR hnt rfl (by decide +kernel) ?_ ?_ | refine tr_block ?_ | refine tr_skip ?_)
        · (dsimp only [AllP]; (repeat' first | exact trivial | assumption | exact Nat.le_of_ble_eq_true rfl | apply And.intro | intro _ | exact rfl))
        refine tr_ret ⟨.inr rfl, _, _, rfl, trivial, ?_⟩
        rw [← he]
        rfl
      have hc : ¬ e ≠ 0 := of_decide_eq_false ((neD' e).symm.trans hc)
      repeat' (first | refine tr_seq ?_ | refine reg (T := tab) tOk hnt rfl ?_ ?_ | refine regD (T := tab) tOk mixedR hnt rfl (by decide +kernel) ?_ ?_ | refine tr_block ?_ | refine tr_skip ?_)
      · (dsimp only [AllP]; (repeat' first | exact trivial | assumption | exact Nat.le_of_ble_eq_true rfl | apply And.intro | intro _ | exact rfl))
      exact ⟨k + 1, ⟨by omega, by rw [← he, if_neg hc]⟩, by omega, le_of (ad := []) ⟨rfl, rfl, rfl, congrArg (fun z : Int => E.v (.int .i64 z)) (wrap64_id (by omega) (by omega)), trivial⟩ trivial⟩
    have hc := of_decide_eq_false hc
    have hkl : k = l.length := by omega
    subst hkl
    rw [List.drop_length] at he
    refine tr_exit ?_
    repeat' (first | refine tr_seq ?_ | refine reg (T := tab) tOk hnt rfl ?_ ?_ | refine regD (T := tab) tOk mixedR hnt rfl (by decide +kernel) ?_ ?_ | refine tr_block ?_ | refine tr_skip ?_)
    · (dsimp only [AllP]; (repeat' first | exact trivial | assumption | exact Nat.le_of_ble_eq_true rfl | apply And.intro | intro _ | exact rfl))
    refine tr_ret ⟨.inr rfl, _, _, rfl, trivial, ?_⟩
    rw [← he]
    rfl
theorem digL_take (mode : Int) (l : List SlotT) (n : Nat) : (digL mode l).take n = digL mode (l.take n) := by
  unfold digL
  rw [List.map_take]
theorem digL_drop (mode : Int) (l : List SlotT) (n : Nat) : (digL mode l).drop n = digL mode (l.drop n) := by
  unfold digL
  rw [List.map_drop]
set_option maxRecDepth 10000 in
theorem rootOf_fn (mode : Int) : ∀ (k : Nat) (l : List SlotT), k ≤ 6 → l.length = 2 ^ k → FnD Tryd.prog 80 [.one (.e (eI mode)), .one (.e (eSlots l))] (.one (.e (eBytes (hT mode k (digL mode l)))))
  | 0, l, hk, hl => by
    refine fn_intro (T := tab) tOk Tryd.func80 rfl (by kernel_rfl) (by simp [Tryd.ntmps80]) ?_
    intro X hX
    have hnt : X.nt = 35 := hX
    clear hX
    obtain ⟨x, rfl⟩ : ∃ x, l = [x] := by
      match l, hl with
      | [x], _ => exact ⟨x, rfl⟩
    have hf := LeafOf_fn mode x.1 x.2.1 x.2.2.1
    rw [show hT mode 0 (digL mode [x]) = (lfX mode x).1 from rfl]
    rw [show leafF mode x.1 x.2.1 x.2.2.1 = lfX mode x from rfl] at hf
    generalize lfX mode x = r at *
    obtain ⟨b, e⟩ := r
    repeat' (first | refine tr_seq ?_ | refine reg (T := tab) tOk hnt rfl ?_ ?_ | refine regD (T := tab) tOk mixedR hnt rfl (by decide +kernel) ?_ ?_ | refine tr_block ?_ | refine tr_skip ?_)
    · (dsimp only [AllP]; (repeat' first | exact trivial | assumption | exact Nat.le_of_ble_eq_true rfl | apply And.intro | intro _ | exact rfl))
    · (dsimp only [AllP]; (repeat' first | exact trivial | assumption | exact Nat.le_of_ble_eq_true rfl | apply And.intro | intro _ | exact rfl))
    refine tr_cond rfl (fun _ => ?_) (fun h => nomatch (show true = false from h))
    repeat' (first | refine tr_seq ?_ | refine tr_block ?_ | refine tr_skip ?_)
    refine tr_region (lex (T := tab) tOk hnt rfl ?_ (call rfl rfl rfl rfl rfl rfl rfl hnt hf (lex (T := tab) tOk hnt rfl ?_ (Lex.nil _)))) ?_
    · exact ⟨Nat.le_of_ble_eq_true rfl, ⟨Int.le_refl _, (show (0 : Int) < 1 by decide), rfl⟩, trivial, trivial⟩
    · (dsimp only [AllP]; (repeat' first | exact trivial | assumption | exact Nat.le_of_ble_eq_true rfl | apply And.intro | intro _ | exact rfl))
    repeat' (first | refine tr_seq ?_ | refine reg (T := tab) tOk hnt rfl ?_ ?_ | refine regD (T := tab) tOk mixedR hnt rfl (by decide +kernel) ?_ ?_ | refine tr_block ?_ | refine tr_skip ?_)
    · (dsimp only [AllP]; (repeat' first | exact trivial | assumption | exact Nat.le_of_ble_eq_true rfl | apply And.intro | intro _ | exact rfl))
    exact tr_ret ⟨.inr rfl, _, _, rfl, trivial, rfl⟩
  | k + 1, l, hk, hl => by
    have ih1 := rootOf_fn mode k (l.take (2 ^ k)) (by omega) (by rw [List.length_take, hl, Nat.pow_succ]; omega)
    have ih2 := rootOf_fn mode k (l.drop (2 ^ k)) (by omega) (by rw [List.length_drop, hl, Nat.pow_succ]; omega)
    rw [show hT mode (k + 1) (digL mode l) = (ndF mode (hT mode k ((digL mode l).take (2 ^ k))) (hT mode k ((digL mode l).drop (2 ^ k)))).1 from rfl, digL_take, digL_drop]
    refine fn_intro (T := tab) tOk Tryd.func80 rfl (by kernel_rfl) (by simp [Tryd.ntmps80]) ?_
    intro X hX
    have hnt : X.nt = 35 := hX
    clear hX
    have hll : (l.map eS).length = l.length := List.length_map ..
    have h64 : 2 ^ (k + 1) ≤ 2 ^ 6 := Nat.pow_le_pow_right (by decide) hk
    have hp : 2 ^ (k + 1) = 2 ^ k + 2 ^ k := by rw [Nat.pow_succ]; omega
    have hp1 : 1 ≤ 2 ^ k := Nat.one_le_two_pow
    have hjn := joined_fn mode (hT mode k (digL mode (l.take (2 ^ k)))) (hT mode k (digL mode (l.drop (2 ^ k))))
    generalize hT mode k (digL mode (l.take (2 ^ k))) = a at *
    generalize hT mode k (digL mode (l.drop (2 ^ k))) = b at *
    generalize hN : 2 ^ k = N at *
    repeat' (first | refine tr_seq ?_ | refine tr_block ?_ | refine tr_skip ?_)
    refine reg (T := tab) tOk hnt rfl (by (dsimp only [AllP]; (repeat' first | exact trivial | assumption | exact Nat.le_of_ble_eq_true rfl | apply And.intro | intro _ | exact rfl))) ?_
    repeat' (first | refine tr_seq ?_ | refine tr_block ?_ | refine tr_skip ?_)
    refine reg (T := tab) tOk hnt rfl (by (dsimp only [AllP]; (repeat' first | exact trivial | assumption | exact Nat.le_of_ble_eq_true rfl | apply And.intro | intro _ | exact rfl))) ?_
    repeat' (first | refine tr_seq ?_ | refine tr_block ?_ | refine tr_skip ?_)
    refine tr_cond rfl (fun hc => ?_) (fun _ => ?_)
    · have hc : ((l.map eS).length : Int) = 1 := of_decide_eq_true hc
      omega
    have hq : IntKind.i64.wrap (Int.tdiv ((l.map eS).length : Int) 2) = (N : Int) := by
      rw [hll, hl, hp, show ((N + N : Nat) : Int) = 2 * (N : Int) by omega, Int.mul_tdiv_cancel_left _ (by decide), wrap64_id (by omega) (by omega)]
    repeat' (first | refine tr_seq ?_ | refine tr_block ?_ | refine tr_skip ?_)
    refine reg (T := tab) tOk hnt rfl ?_ ?_
    · exact ⟨trivial, ⟨rfl, by decide⟩, trivial, trivial⟩
    rw [hq]
    have hs1 : List.take (Int.toNat (N : Int) - Int.toNat 0) (List.drop (Int.toNat 0) (l.map eS)) = (l.take N).map eS := by
      rw [Int.toNat_natCast, List.map_take]
      rfl
    have hs2 : List.take (Int.toNat (((l.map eS).length : Nat) : Int) - Int.toNat (N : Int)) (List.drop (Int.toNat (N : Int)) (l.map eS)) = (l.drop N).map eS := by
      rw [Int.toNat_natCast, Int.toNat_natCast, List.map_drop, List.take_of_length_le (by rw [List.length_drop]; exact Nat.le_refl _)]
    have ih1 : FnD Tryd.prog 80 [.one (.e (eI mode)), .one (.e (.sl (List.take (Int.toNat (N : Int) - Int.toNat 0) (List.drop (Int.toNat 0) (l.map eS)))))] (.one (.e (eBytes a))) := by
      rw [hs1]
      exact ih1
    have ih2 : FnD Tryd.prog 80 [.one (.e (eI mode)), .one (.e (.sl (List.take (Int.toNat (((l.map eS).length : Nat) : Int) - Int.toNat (N : Int)) (List.drop (Int.toNat (N : Int)) (l.map eS)))))] (.one (.e (eBytes b))) := by
      rw [hs2]
      exact ih2
    have hz : ∀ cs ∈ l.map eS, cs.length = 3 := fun cs hc => by
      obtain ⟨x, _, rfl⟩ := List.mem_map.1 hc
      rfl
    repeat' (first | refine tr_seq ?_ | refine tr_block ?_ | refine tr_skip ?_)
    refine tr_draw (T := tab) tOk hnt mixedR (lexD (T := tab) rfl ?_ (callD rfl rfl rfl rfl rfl rfl rfl rfl ih1 (lexD (T := tab) rfl ?_ (callD rfl rfl rfl rfl rfl rfl rfl rfl ih2 (lexD (T := tab) rfl ?_ (callD rfl rfl rfl rfl rfl rfl rfl rfl hjn (lexD (T := tab) rfl ?_ (.nil _)))))))) (by decide +kernel) ?_
    · have hL : (N : Int) ≤ ((l.map eS).length : Int) := by omega
      exact ⟨⟨Int.le_refl _, Int.natCast_nonneg _, hL, hz⟩, trivial, trivial, trivial, trivial⟩
    · have hL : (N : Int) ≤ ((l.map eS).length : Int) := by omega
      exact ⟨⟨Int.natCast_nonneg _, hL, Int.le_refl _, hz⟩, trivial, trivial, trivial⟩
    · (dsimp only [AllP]; (repeat' first | exact trivial | assumption | exact Nat.le_of_ble_eq_true rfl | apply And.intro | intro _ | exact rfl))
    · (dsimp only [AllP]; (repeat' first | exact trivial | assumption | exact Nat.le_of_ble_eq_true rfl | apply And.intro | intro _ | exact rfl))
    exact tr_ret ⟨.inr rfl, _, _, rfl, trivial, rfl⟩
end Go.Proofs.YtphaholcndhonaaDoor
