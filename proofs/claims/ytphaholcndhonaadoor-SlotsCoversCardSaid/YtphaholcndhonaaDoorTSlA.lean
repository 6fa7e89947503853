/- Leaves of a tree of slots. No condition. -/
import Derived.Test.YtphaholcndhonaaDoorTOrB
namespace Go.Proofs.YtphaholcndhonaaDoor
open Go Go.RowKit Go.Proofs.YtphaholcndhonaaDoor.Ab

/-- a slot's cells -/
def slE (f : Bool) (s d : List UInt8) : List E := [.v (.bool f), eBytes s, eBytes d]
def leafF (mode : Int) (f : Bool) (s d : List UInt8) : List UInt8 × Int :=
  if mode ≠ 1 ∧ mode ≠ 2 then ([], 2) else if f = false ∧ 0 < d.length then ([], 3) else if 80 < s.length ∨ 400 < d.length then ([], 1) else dgF mode 1 [s, bif f then 1 :: d else [0]]
theorem eqOr (m : Int) : (bif decide (m = 1) then true else decide (m = 2)) = !decide (m ≠ 1 ∧ m ≠ 2) := by
  by_cases h1 : m = 1 <;> by_cases h2 : m = 2 <;> simp [h1, h2]
theorem andF (f : Bool) (d : List UInt8) : (bif !f then decide ((0 : Int) < ((eCells d).length : Int)) else false) = decide (f = false ∧ 0 < d.length) := by
  rw [eCells_length]
  cases f <;> simp
theorem orL (s d : List UInt8) : (bif decide ((80 : Int) < ((eCells s).length : Int)) then true else decide ((400 : Int) < ((eCells d).length : Int))) = decide (80 < s.length ∨ 400 < d.length) := by
  rw [eCells_length, eCells_length]
  by_cases h : 80 < s.length
  · rw [decide_eq_true (show (80 : Int) < (s.length : Int) by omega), decide_eq_true (show 80 < s.length ∨ 400 < d.length from .inl h)]
    rfl
  · rw [decide_eq_false (show ¬ (80 : Int) < (s.length : Int) by omega), cond_false]
    by_cases h2 : 400 < d.length
    · rw [decide_eq_true (show (400 : Int) < (d.length : Int) by omega), decide_eq_true (.inr h2)]
    · rw [decide_eq_false (show ¬ (400 : Int) < (d.length : Int) by omega), decide_eq_false (fun h' => h'.elim h h2)]
set_option maxRecDepth 10000 in
theorem modes_fn (m : Int) : FnD Tryd.prog 28 [.one (.e (eI m))] (.v (.bool (!decide (m ≠ 1 ∧ m ≠ 2)))) := by
  refine fn_intro (T := tab) tOk Tryd.func28 rfl (by kernel_rfl) (by simp [Tryd.ntmps28]) ?_
  intro X hX
  have hnt : X.nt = 9 := hX
  clear hX
  repeat' (first | refine tr_seq ?_ | refine reg (T := tab) tOk hnt rfl ?_ ?_ | refine regD (T := tab) tOk mixedR hnt rfl (by decide +kernel) ?_ ?_ | refine tr_block ?_ | refine tr_skip ?_)
  · (dsimp only [AllP]; (repeat' first | exact trivial | assumption | exact Nat.le_of_ble_eq_true rfl | apply And.intro | intro _ | exact rfl))
  · (dsimp only [AllP]; (repeat' first | exact trivial | assumption | exact Nat.le_of_ble_eq_true rfl | apply And.intro | intro _ | exact rfl))
  exact tr_ret ⟨.inr rfl, _, _, rfl, trivial, congrArg (fun z => D.v (.bool z)) (eqOr m)⟩
set_option maxRecDepth 10000 in
theorem Leaf_fn (mode : Int) (f : Bool) (s d : List UInt8) : FnG Tryd.prog 75 gK [.one (.e (eI mode)), .agg (.es (slE f s d))] (rBE (leafF mode f s d)) := by
  refine fn_introG (T := tab) tOk Tryd.func75 rfl (by kernel_rfl) (by simp [Tryd.ntmps75]) ?_
  intro X hX
  have hnt : X.nt = 44 := hX
  clear hX
  repeat' (first | refine tr_seq ?_ | refine reg (T := tab) tOk hnt rfl ?_ ?_ | refine regD (T := tab) tOk mixedR hnt rfl (by decide +kernel) ?_ ?_ | refine tr_block ?_ | refine tr_skip ?_)
  · (dsimp only [AllP]; (repeat' first | exact trivial | assumption | exact Nat.le_of_ble_eq_true rfl | apply And.intro | intro _ | exact rfl))
  refine tr_region (lex (T := tab) tOk hnt rfl ?_ (call rfl rfl rfl rfl rfl rfl rfl hnt (modes_fn mode) (lex (T := tab) tOk hnt rfl ?_ (Lex.nil _)))) ?_
  · exact trivial
  · (dsimp only [AllP]; (repeat' first | exact trivial | assumption | exact Nat.le_of_ble_eq_true rfl | apply And.intro | intro _ | exact rfl))
  repeat' (first | refine tr_seq ?_ | refine tr_block ?_ | refine tr_skip ?_)
  rw [Bool.not_not]
  refine tr_cond rfl (fun hc => ?_) (fun hc => ?_)
  · have hc := of_decide_eq_true hc
    repeat' (first | refine tr_seq ?_ | refine reg (T := tab) tOk hnt rfl ?_ ?_ | refine regD (T := tab) tOk mixedR hnt rfl (by decide +kernel) ?_ ?_ | refine tr_block ?_ | refine tr_skip ?_)
    · (dsimp only [AllP]; (repeat' first | exact trivial | assumption | exact Nat.le_of_ble_eq_true rfl | apply And.intro | intro _ | exact rfl))
    refine tr_ret ⟨.inr rfl, _, _, rfl, trivial, ?_⟩
    rw [leafF, if_pos hc]
    rfl
  have hc := of_decide_eq_false hc
  have hr : leafF mode f s d = if f = false ∧ 0 < d.length then ([], 3) else if 80 < s.length ∨ 400 < d.length then ([], 1) else dgF mode 1 [s, bif f then 1 :: d else [0]] := by rw [leafF, if_neg hc]
  rw [hr]
  clear hr
  repeat' (first | refine tr_seq ?_ | refine reg (T := tab) tOk hnt rfl ?_ ?_ | refine regD (T := tab) tOk mixedR hnt rfl (by decide +kernel) ?_ ?_ | refine tr_block ?_ | refine tr_skip ?_)
  · (dsimp only [AllP]; (repeat' first | exact trivial | assumption | exact Nat.le_of_ble_eq_true rfl | apply And.intro | intro _ | exact rfl))
  refine tr_cond rfl (fun hc => ?_) (fun hc => ?_)
  · have hc : f = false ∧ 0 < d.length := by
      have := (andF f d).symm.trans hc
      exact of_decide_eq_true this
    repeat' (first | refine tr_seq ?_ | refine reg (T := tab) tOk hnt rfl ?_ ?_ | refine regD (T := tab) tOk mixedR hnt rfl (by decide +kernel) ?_ ?_ | refine tr_block ?_ | refine tr_skip ?_)
    · (dsimp only [AllP]; (repeat' first | exact trivial | assumption | exact Nat.le_of_ble_eq_true rfl | apply And.intro | intro _ | exact rfl))
    refine tr_ret ⟨.inr rfl, _, _, rfl, trivial, ?_⟩
    rw [if_pos hc]
    rfl
  have hc : ¬ (f = false ∧ 0 < d.length) := of_decide_eq_false ((andF f d).symm.trans hc)
  rw [if_neg hc]
  repeat' (first | refine tr_seq ?_ | refine reg (T := tab) tOk hnt rfl ?_ ?_ | refine regD (T := tab) tOk mixedR hnt rfl (by decide +kernel) ?_ ?_ | refine tr_block ?_ | refine tr_skip ?_)
  · (dsimp only [AllP]; (repeat' first | exact trivial | assumption | exact Nat.le_of_ble_eq_true rfl | apply And.intro | intro _ | exact rfl))
  refine tr_cond rfl (fun hc => ?_) (fun hc => ?_)
  · have hc : 80 < s.length ∨ 400 < d.length := of_decide_eq_true ((orL s d).symm.trans hc)
    repeat' (first | refine tr_seq ?_ | refine reg (T := tab) tOk hnt rfl ?_ ?_ | refine regD (T := tab) tOk mixedR hnt rfl (by decide +kernel) ?_ ?_ | refine tr_block ?_ | refine tr_skip ?_)
    · (dsimp only [AllP]; (repeat' first | exact trivial | assumption | exact Nat.le_of_ble_eq_true rfl | apply And.intro | intro _ | exact rfl))
    refine tr_ret ⟨.inr rfl, _, _, rfl, trivial, ?_⟩
    rw [if_pos hc]
    rfl
  have hc : ¬ (80 < s.length ∨ 400 < d.length) := of_decide_eq_false ((orL s d).symm.trans hc)
  rw [if_neg hc]
  repeat' (first | refine tr_seq ?_ | refine reg (T := tab) tOk hnt rfl ?_ ?_ | refine regD (T := tab) tOk mixedR hnt rfl (by decide +kernel) ?_ ?_ | refine tr_block ?_ | refine tr_skip ?_)
  · (dsimp only [AllP]; (repeat' first | exact trivial | assumption | exact Nat.le_of_ble_eq_true rfl | apply And.intro | intro _ | exact rfl))
  · (dsimp only [AllP]; (repeat' first | exact trivial | assumption | exact Nat.le_of_ble_eq_true rfl | apply And.intro | intro _ | exact rfl))
  cases f with
  | true =>
    refine tr_cond rfl (fun _ => ?_) (fun h => nomatch (show true = false from h))
    repeat' (first | refine tr_seq ?_ | refine reg (T := tab) tOk hnt rfl ?_ ?_ | refine regD (T := tab) tOk mixedR hnt rfl (by decide +kernel) ?_ ?_ | refine tr_block ?_ | refine tr_skip ?_)
    · refine ⟨trivial, ⟨eCells_len1 d, ?_, ?_⟩, ⟨Nat.le_of_ble_eq_true rfl, rfl⟩, trivial, ⟨rfl, trivial⟩, by decide, by decide⟩
      · show 1 + (eCells d).length ≤ maxLen
        rw [eCells_length, maxLen]
        omega
      · show (1 + (eCells d).length) * 1 ≤ 140737488355328
        rw [eCells_length]
        omega
    refine tr_region (lex (T := tab) tOk hnt rfl ?_ (callV rfl rfl rfl rfl rfl rfl rfl hnt rfl (Digest_fn mode 1 [s, 1 :: d]) (lex (T := tab) tOk hnt rfl ?_ (Lex.nil _)))) ?_
    · (dsimp only [AllP]; (repeat' first | exact trivial | assumption | exact Nat.le_of_ble_eq_true rfl | apply And.intro | intro _ | exact rfl))
    · (dsimp only [AllP]; (repeat' first | exact trivial | assumption | exact Nat.le_of_ble_eq_true rfl | apply And.intro | intro _ | exact rfl))
    exact tr_ret ⟨.inr rfl, _, _, rfl, trivial, rfl⟩
  | false =>
    refine tr_cond rfl (fun h => nomatch (show false = true from h)) (fun _ => ?_)
    repeat' (first | refine tr_seq ?_ | refine tr_block ?_ | refine tr_skip ?_)
    refine tr_region (lex (T := tab) tOk hnt rfl ?_ (callV rfl rfl rfl rfl rfl rfl rfl hnt rfl (Digest_fn mode 1 [s, [0]]) (lex (T := tab) tOk hnt rfl ?_ (Lex.nil _)))) ?_
    · (dsimp only [AllP]; (repeat' first | exact trivial | assumption | exact Nat.le_of_ble_eq_true rfl | apply And.intro | intro _ | exact rfl))
    · (dsimp only [AllP]; (repeat' first | exact trivial | assumption | exact Nat.le_of_ble_eq_true rfl | apply And.intro | intro _ | exact rfl))
    exact tr_ret ⟨.inr rfl, _, _, rfl, trivial, rfl⟩
set_option maxRecDepth 10000 in
theorem LeafOf_fn (mode : Int) (f : Bool) (s d : List UInt8) : FnD Tryd.prog 77 [.one (.e (eI mode)), .agg (.es (slE f s d))] (rBE (leafF mode f s d)) := by
  refine fn_intro (T := tab) tOk Tryd.func77 rfl (by kernel_rfl) (by simp [Tryd.ntmps77]) ?_
  intro X hX
  have hnt : X.nt = 46 := hX
  clear hX
  repeat' (first | refine tr_seq ?_ | refine reg (T := tab) tOk hnt rfl ?_ ?_ | refine regD (T := tab) tOk mixedR hnt rfl (by decide +kernel) ?_ ?_ | refine tr_block ?_ | refine tr_skip ?_)
  · (dsimp only [AllP]; (repeat' first | exact trivial | assumption | exact Nat.le_of_ble_eq_true rfl | apply And.intro | intro _ | exact rfl))
  refine tr_region (lex (T := tab) tOk hnt rfl ?_ (call rfl rfl rfl rfl rfl rfl rfl hnt (badMode_fn mode) (lex (T := tab) tOk hnt rfl ?_ (Lex.nil _)))) ?_
  · exact trivial
  · (dsimp only [AllP]; (repeat' first | exact trivial | assumption | exact Nat.le_of_ble_eq_true rfl | apply And.intro | intro _ | exact rfl))
  repeat' (first | refine tr_seq ?_ | refine tr_block ?_ | refine tr_skip ?_)
  refine tr_cond rfl (fun hc => ?_) (fun hc => ?_)
  · have hc := of_decide_eq_true hc
    repeat' (first | refine tr_seq ?_ | refine reg (T := tab) tOk hnt rfl ?_ ?_ | refine regD (T := tab) tOk mixedR hnt rfl (by decide +kernel) ?_ ?_ | refine tr_block ?_ | refine tr_skip ?_)
    · (dsimp only [AllP]; (repeat' first | exact trivial | assumption | exact Nat.le_of_ble_eq_true rfl | apply And.intro | intro _ | exact rfl))
    refine tr_ret ⟨.inr rfl, _, _, rfl, trivial, ?_⟩
    rw [leafF, if_pos hc]
    rfl
  have hc := of_decide_eq_false hc
  have hr : leafF mode f s d = if f = false ∧ 0 < d.length then ([], 3) else if 80 < s.length ∨ 400 < d.length then ([], 1) else dgF mode 1 [s, bif f then 1 :: d else [0]] := by rw [leafF, if_neg hc]
  rw [hr]
  clear hr
  repeat' (first | refine tr_seq ?_ | refine reg (T := tab) tOk hnt rfl ?_ ?_ | refine regD (T := tab) tOk mixedR hnt rfl (by decide +kernel) ?_ ?_ | refine tr_block ?_ | refine tr_skip ?_)
  · (dsimp only [AllP]; (repeat' first | exact trivial | assumption | exact Nat.le_of_ble_eq_true rfl | apply And.intro | intro _ | exact rfl))
  refine tr_cond rfl (fun hc => ?_) (fun hc => ?_)
  · have hc : f = false ∧ 0 < d.length := by
      have := (andF f d).symm.trans hc
      exact of_decide_eq_true this
    repeat' (first | refine tr_seq ?_ | refine reg (T := tab) tOk hnt rfl ?_ ?_ | refine regD (T := tab) tOk mixedR hnt rfl (by decide +kernel) ?_ ?_ | refine tr_block ?_ | refine tr_skip ?_)
    · (dsimp only [AllP]; (repeat' first | exact trivial | assumption | exact Nat.le_of_ble_eq_true rfl | apply And.intro | intro _ | exact rfl))
    refine tr_ret ⟨.inr rfl, _, _, rfl, trivial, ?_⟩
    rw [if_pos hc]
    rfl
  have hc : ¬ (f = false ∧ 0 < d.length) := of_decide_eq_false ((andF f d).symm.trans hc)
  rw [if_neg hc]
  repeat' (first | refine tr_seq ?_ | refine reg (T := tab) tOk hnt rfl ?_ ?_ | refine regD (T := tab) tOk mixedR hnt rfl (by decide +kernel) ?_ ?_ | refine tr_block ?_ | refine tr_skip ?_)
  · (dsimp only [AllP]; (repeat' first | exact trivial | assumption | exact Nat.le_of_ble_eq_true rfl | apply And.intro | intro _ | exact rfl))
  refine tr_cond rfl (fun hc => ?_) (fun hc => ?_)
  · have hc : 80 < s.length ∨ 400 < d.length := of_decide_eq_true ((orL s d).symm.trans hc)
    repeat' (first | refine tr_seq ?_ | refine reg (T := tab) tOk hnt rfl ?_ ?_ | refine regD (T := tab) tOk mixedR hnt rfl (by decide +kernel) ?_ ?_ | refine tr_block ?_ | refine tr_skip ?_)
    · (dsimp only [AllP]; (repeat' first | exact trivial | assumption | exact Nat.le_of_ble_eq_true rfl | apply And.intro | intro _ | exact rfl))
    refine tr_ret ⟨.inr rfl, _, _, rfl, trivial, ?_⟩
    rw [if_pos hc]
    rfl
  have hc : ¬ (80 < s.length ∨ 400 < d.length) := of_decide_eq_false ((orL s d).symm.trans hc)
  rw [if_neg hc]
  repeat' (first | refine tr_seq ?_ | refine reg (T := tab) tOk hnt rfl ?_ ?_ | refine regD (T := tab) tOk mixedR hnt rfl (by decide +kernel) ?_ ?_ | refine tr_block ?_ | refine tr_skip ?_)
  · (dsimp only [AllP]; (repeat' first | exact trivial | assumption | exact Nat.le_of_ble_eq_true rfl | apply And.intro | intro _ | exact rfl))
  · (dsimp only [AllP]; (repeat' first | exact trivial | assumption | exact Nat.le_of_ble_eq_true rfl | apply And.intro | intro _ | exact rfl))
  cases f with
  | true =>
    refine tr_cond rfl (fun _ => ?_) (fun h => nomatch (show true = false from h))
    repeat' (first | refine tr_seq ?_ | refine tr_block ?_ | refine tr_skip ?_)
    first | refine reg (T := tab) tOk hnt rfl ?_ ?_ | refine regD (T := tab) tOk mixedR hnt rfl (by decide +kernel) ?_ ?_
    · refine ⟨trivial, ?_, eCells_isByte d, ⟨Nat.le_of_ble_eq_true rfl, rfl⟩, trivial⟩
      show 1 + (bytesOf (eCells d)).size ≤ maxLen
      rw [strB_of, strB_size, maxLen]
      omega
    refine tr_le (s' := St.of [(0, .one (.e (eI mode))), (3, .one (.ptr 3 0 0)), (6, .v (.string (strB (1 :: d))))] [(3, ⟨0, .box (.es (slE true s d)), 0⟩)]) (le_of (ad := []) ⟨rfl, ⟨rfl, rfl, rfl, rfl, rfl⟩, ?_, trivial⟩ (memOk_box rfl rfl rfl trivial)) ?_
    · refine congrArg (fun z => E.v (.string z)) ?_
      show strB [1] ++ bytesOf (eCells d) = _
      rw [strB_of, strB_app]
      rfl
    have hz : (strB (1 :: d)).size ≤ maxLen := by
      rw [strB_size, List.length_cons, maxLen]
      omega
    have hg : FnD Tryd.prog 78 [.one (.e (eI mode)), .one (.e (eI 1)), .one (.e (.sl [[eBytes s], [.sl (strBytes (strB (1 :: d)))]]))] (rBE (dgF mode 1 [s, 1 :: d])) := by
      rw [strBytes_B]
      exact DigestOf_fn mode 1 [s, 1 :: d]
    repeat' (first | refine tr_seq ?_ | refine tr_block ?_ | refine tr_skip ?_)
    refine tr_region (lex (T := tab) tOk hnt rfl ?_ (callU rfl rfl rfl rfl rfl rfl rfl hnt hg (lex (T := tab) tOk hnt rfl ?_ (Lex.nil _)))) ?_
    · (dsimp only [AllP]; (repeat' first | exact trivial | assumption | exact Nat.le_of_ble_eq_true rfl | apply And.intro | intro _ | exact rfl))
    · (dsimp only [AllP]; (repeat' first | exact trivial | assumption | exact Nat.le_of_ble_eq_true rfl | apply And.intro | intro _ | exact rfl))
    exact tr_ret ⟨.inr rfl, _, _, rfl, trivial, rfl⟩
  | false =>
    refine tr_cond rfl (fun h => nomatch (show false = true from h)) (fun _ => ?_)
    repeat' (first | refine tr_seq ?_ | refine tr_block ?_ | refine tr_skip ?_)
    refine tr_region (lex (T := tab) tOk hnt rfl ?_ (callU rfl rfl rfl rfl rfl rfl rfl hnt (DigestOf_fn mode 1 [s, [0]]) (lex (T := tab) tOk hnt rfl ?_ (Lex.nil _)))) ?_
    · (dsimp only [AllP]; (repeat' first | exact trivial | assumption | exact Nat.le_of_ble_eq_true rfl | apply And.intro | intro _ | exact rfl))
    · (dsimp only [AllP]; (repeat' first | exact trivial | assumption | exact Nat.le_of_ble_eq_true rfl | apply And.intro | intro _ | exact rfl))
    exact tr_ret ⟨.inr rfl, _, _, rfl, trivial, rfl⟩
end Go.Proofs.YtphaholcndhonaaDoor
