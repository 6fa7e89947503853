/- Package audit: what is told, and entries. No condition. -/
import Derived.Test.YtmicapdbgjafnabDoorTSlA
namespace Go.Proofs.YtmicapdbgjafnabDoor
open Go Go.RowKit Go.Proofs.YtmicapdbgjafnabDoor.Ab

def tellF (mode kind e : Int) (t : List UInt8) : List UInt8 × Int :=
  if kind < 0 ∨ 3 ≤ kind ∨ e < 0 ∨ 12 < e then ([], 6) else if 300 < t.length then ([], 1) else if (dgF mode 9 [t]).2 ≠ 0 then ([], (dgF mode 9 [t]).2) else (UInt8.ofNat (u64I kind) :: UInt8.ofNat (u64I e) :: (dgF mode 9 [t]).1, 0)
theorem or4 (k e : Int) : (bif (bif (bif decide (k < 0) then true else decide (3 ≤ k)) then true else decide (e < 0)) then true else decide (12 < e)) = decide (k < 0 ∨ 3 ≤ k ∨ e < 0 ∨ 12 < e) := by
  by_cases h1 : k < 0 <;> by_cases h2 : 3 ≤ k <;> by_cases h3 : e < 0 <;> by_cases h4 : 12 < e <;> simp [h1, h2, h3, h4]
theorem strB_self (s : ByteArray) : strB s.data.toList = s := by
  unfold strB
  rfl
theorem dgF_len (mode tag : Int) (ps : List (List UInt8)) : (dgF mode tag ps).1.length ≤ 16777216 := by
  unfold dgF
  split
  · exact Nat.zero_le _
  split
  · exact frameF_len tag ps
  show (sumF _).length ≤ _
  rw [sumF_len]
  decide
theorem u64I_wrap (n : Int) : IntKind.u64.wrap n = (u64I n : Int) := by
  unfold IntKind.wrap u64I
  simp [IntKind.bits, IntKind.signed]
  omega
theorem neD (e : Int) : (!decide (e = 0)) = decide (e ≠ 0) := by simp
set_option maxRecDepth 10000 in
theorem Data_fn (mode kind e : Int) (t : List UInt8) : FnG Tryd.prog 17 gK [.one (.e (eI mode)), .one (.e (eI kind)), .one (.e (eI e)), .v (.string (strB t))] (rBE (tellF mode kind e t)) := by
  refine fn_introG (T := tab) tOk Tryd.func17 rfl (by kernel_rfl) (by simp [Tryd.ntmps17]) ?_
  intro X hX
  have hnt : X.nt = 47 := hX
  clear hX
  repeat' (first | refine tr_seq ?_ | refine reg (T := tab) tOk hnt rfl ?_ ?_ | refine regD (T := tab) tOk mixedR hnt rfl (by decide +kernel) ?_ ?_ | refine tr_block ?_ | refine tr_skip ?_)
  · (dsimp only [AllP]; (repeat' first | exact trivial | assumption | exact Nat.le_of_ble_eq_true rfl | apply And.intro | intro _ | exact rfl))
  · (dsimp only [AllP]; (repeat' first | exact trivial | assumption | exact Nat.le_of_ble_eq_true rfl | apply And.intro | intro _ | exact rfl))
  refine tr_cond rfl (fun hc => ?_) (fun hc => ?_)
  · have hc := of_decide_eq_true ((or4 kind e).symm.trans hc)
    repeat' (first | refine tr_seq ?_ | refine reg (T := tab) tOk hnt rfl ?_ ?_ | refine regD (T := tab) tOk mixedR hnt rfl (by decide +kernel) ?_ ?_ | refine tr_block ?_ | refine tr_skip ?_)
    · (dsimp only [AllP]; (repeat' first | exact trivial | assumption | exact Nat.le_of_ble_eq_true rfl | apply And.intro | intro _ | exact rfl))
    refine tr_ret ⟨.inr rfl, _, _, rfl, trivial, ?_⟩
    rw [tellF, if_pos hc]
    rfl
  have hc := of_decide_eq_false ((or4 kind e).symm.trans hc)
  have hr : tellF mode kind e t = if 300 < t.length then ([], 1) else if (dgF mode 9 [t]).2 ≠ 0 then ([], (dgF mode 9 [t]).2) else (UInt8.ofNat (u64I kind) :: UInt8.ofNat (u64I e) :: (dgF mode 9 [t]).1, 0) := by rw [tellF, if_neg hc]
  rw [hr]
  clear hr
  repeat' (first | refine tr_seq ?_ | refine reg (T := tab) tOk hnt rfl ?_ ?_ | refine regD (T := tab) tOk mixedR hnt rfl (by decide +kernel) ?_ ?_ | refine tr_block ?_ | refine tr_skip ?_)
  · (dsimp only [AllP]; (repeat' first | exact trivial | assumption | exact Nat.le_of_ble_eq_true rfl | apply And.intro | intro _ | exact rfl))
  refine tr_cond rfl (fun hc => ?_) (fun hc => ?_)
  · have hc : (300 : Int) < ((strB t).size : Int) := of_decide_eq_true hc
    rw [strB_size] at hc
    repeat' (first | refine tr_seq ?_ | refine reg (T := tab) tOk hnt rfl ?_ ?_ | refine regD (T := tab) tOk mixedR hnt rfl (by decide +kernel) ?_ ?_ | refine tr_block ?_ | refine tr_skip ?_)
    · (dsimp only [AllP]; (repeat' first | exact trivial | assumption | exact Nat.le_of_ble_eq_true rfl | apply And.intro | intro _ | exact rfl))
    refine tr_ret ⟨.inr rfl, _, _, rfl, trivial, ?_⟩
    rw [if_pos (by omega)]
    rfl
  have hc : ¬ (300 : Int) < ((strB t).size : Int) := of_decide_eq_false hc
  rw [strB_size] at hc
  rw [if_neg (by omega)]
  have hz : (strB t).size ≤ maxLen := by
    rw [strB_size, maxLen]
    omega
  have hg := Digest_fn mode 9 [t]
  have hl := dgF_len mode 9 [t]
  generalize dgF mode 9 [t] = r at hg hl ⊢
  obtain ⟨b, x⟩ := r
  have hg : FnG Tryd.prog 15 gK [.one (.e (eI mode)), .one (.e (eI 9)), .one (.e (.sl [[.sl (strBytes (strB t))]]))] (rBE (b, x)) := by
    rw [strBytes_B]
    exact hg
  repeat' (first | refine tr_seq ?_ | refine tr_block ?_ | refine tr_skip ?_)
  refine tr_region (lex (T := tab) tOk hnt rfl ?_ (callV rfl rfl rfl rfl rfl rfl rfl hnt rfl hg (lex (T := tab) tOk hnt rfl ?_ (Lex.nil _)))) ?_
  · (dsimp only [AllP]; (repeat' first | exact trivial | assumption | exact Nat.le_of_ble_eq_true rfl | apply And.intro | intro _ | exact rfl))
  · (dsimp only [AllP]; (repeat' first | exact trivial | assumption | exact Nat.le_of_ble_eq_true rfl | apply And.intro | intro _ | exact rfl))
  repeat' (first | refine tr_seq ?_ | refine reg (T := tab) tOk hnt rfl ?_ ?_ | refine regD (T := tab) tOk mixedR hnt rfl (by decide +kernel) ?_ ?_ | refine tr_block ?_ | refine tr_skip ?_)
  · (dsimp only [AllP]; (repeat' first | exact trivial | assumption | exact Nat.le_of_ble_eq_true rfl | apply And.intro | intro _ | exact rfl))
  refine tr_cond rfl (fun hc => ?_) (fun hc => ?_)
  · have hc : x ≠ 0 := of_decide_eq_true ((neD x).symm.trans hc)
    repeat' (first | refine tr_seq ?_ | refine reg (T := tab) tOk hnt rfl ?_ ?_ | refine regD (T := tab) tOk mixedR hnt rfl (by decide +kernel) ?_ ?_ | refine tr_block ?_ | refine tr_skip ?_)
    · (dsimp only [AllP]; (repeat' first | exact trivial | assumption | exact Nat.le_of_ble_eq_true rfl | apply And.intro | intro _ | exact rfl))
    refine tr_ret ⟨.inr rfl, _, _, rfl, trivial, ?_⟩
    rw [if_pos hc]
    rfl
  have hc : ¬ x ≠ 0 := of_decide_eq_false ((neD x).symm.trans hc)
  rw [if_neg hc]
  repeat' (first | refine tr_seq ?_ | refine reg (T := tab) tOk hnt rfl ?_ ?_ | refine regD (T := tab) tOk mixedR hnt rfl (by decide +kernel) ?_ ?_ | refine tr_block ?_ | refine tr_skip ?_)
  · have hL : (eCells b).length ≤ 16777216 := Nat.le_trans (Nat.le_of_eq (eCells_length b)) hl
    have hm : (2 : Nat) + (eCells b).length ≤ maxLen := Nat.le_trans (Nat.add_le_add_left hL 2) (by decide)
    have hm2 : (2 + (eCells b).length) * 1 ≤ 140737488355328 := by omega
    exact ⟨trivial, trivial, ⟨eCells_len1 b, hm, hm2⟩, trivial, ⟨⟨rfl, rfl, trivial⟩, by decide, by decide⟩, trivial, trivial, trivial, trivial⟩
  refine tr_ret ⟨.inr rfl, _, _, rfl, trivial, ?_⟩
  show rBE0 ([[E.v (Value.int IntKind.u8 (IntKind.u8.wrap kind))], [E.v (Value.int IntKind.u8 (IntKind.u8.wrap e))]] ++ eCells b) 0 = _
  rw [byteI0, byteI0]
  rfl
set_option maxRecDepth 10000 in
theorem AuditData_fn (mode kind e : Int) (t : List UInt8) : FnD Tryd.prog 18 [.one (.e (eI mode)), .one (.e (eI kind)), .one (.e (eI e)), .v (.string (strB t))] (rBE (tellF mode kind e t)) := by
  refine fn_intro (T := tab) tOk Tryd.func18 rfl (by kernel_rfl) (by simp [Tryd.ntmps18]) ?_
  intro X hX
  have hnt : X.nt = 51 := hX
  clear hX
  repeat' (first | refine tr_seq ?_ | refine reg (T := tab) tOk hnt rfl ?_ ?_ | refine regD (T := tab) tOk mixedR hnt rfl (by decide +kernel) ?_ ?_ | refine tr_block ?_ | refine tr_skip ?_)
  · (dsimp only [AllP]; (repeat' first | exact trivial | assumption | exact Nat.le_of_ble_eq_true rfl | apply And.intro | intro _ | exact rfl))
  · (dsimp only [AllP]; (repeat' first | exact trivial | assumption | exact Nat.le_of_ble_eq_true rfl | apply And.intro | intro _ | exact rfl))
  refine tr_cond rfl (fun hc => ?_) (fun hc => ?_)
  · have hc := of_decide_eq_true ((or4 kind e).symm.trans hc)
    repeat' (first | refine tr_seq ?_ | refine reg (T := tab) tOk hnt rfl ?_ ?_ | refine regD (T := tab) tOk mixedR hnt rfl (by decide +kernel) ?_ ?_ | refine tr_block ?_ | refine tr_skip ?_)
    · (dsimp only [AllP]; (repeat' first | exact trivial | assumption | exact Nat.le_of_ble_eq_true rfl | apply And.intro | intro _ | exact rfl))
    refine tr_ret ⟨.inr rfl, _, _, rfl, trivial, ?_⟩
    rw [tellF, if_pos hc]
    rfl
  have hc := of_decide_eq_false ((or4 kind e).symm.trans hc)
  have hr : tellF mode kind e t = if 300 < t.length then ([], 1) else if (dgF mode 9 [t]).2 ≠ 0 then ([], (dgF mode 9 [t]).2) else (UInt8.ofNat (u64I kind) :: UInt8.ofNat (u64I e) :: (dgF mode 9 [t]).1, 0) := by rw [tellF, if_neg hc]
  rw [hr]
  clear hr
  repeat' (first | refine tr_seq ?_ | refine reg (T := tab) tOk hnt rfl ?_ ?_ | refine regD (T := tab) tOk mixedR hnt rfl (by decide +kernel) ?_ ?_ | refine tr_block ?_ | refine tr_skip ?_)
  · (dsimp only [AllP]; (repeat' first | exact trivial | assumption | exact Nat.le_of_ble_eq_true rfl | apply And.intro | intro _ | exact rfl))
  refine tr_cond rfl (fun hc => ?_) (fun hc => ?_)
  · have hc : (300 : Int) < ((strB t).size : Int) := of_decide_eq_true hc
    rw [strB_size] at hc
    repeat' (first | refine tr_seq ?_ | refine reg (T := tab) tOk hnt rfl ?_ ?_ | refine regD (T := tab) tOk mixedR hnt rfl (by decide +kernel) ?_ ?_ | refine tr_block ?_ | refine tr_skip ?_)
    · (dsimp only [AllP]; (repeat' first | exact trivial | assumption | exact Nat.le_of_ble_eq_true rfl | apply And.intro | intro _ | exact rfl))
    refine tr_ret ⟨.inr rfl, _, _, rfl, trivial, ?_⟩
    rw [if_pos (by omega)]
    rfl
  have hc : ¬ (300 : Int) < ((strB t).size : Int) := of_decide_eq_false hc
  rw [strB_size] at hc
  rw [if_neg (by omega)]
  have hz : (strB t).size ≤ maxLen := by
    rw [strB_size, maxLen]
    omega
  have hg := DigestOf_fn mode 9 [t]
  have hl := dgF_len mode 9 [t]
  generalize dgF mode 9 [t] = r at hg hl ⊢
  obtain ⟨b, x⟩ := r
  have hg : FnD Tryd.prog 16 [.one (.e (eI mode)), .one (.e (eI 9)), .one (.e (.sl [[.sl (strBytes (strB t))]]))] (rBE (b, x)) := by
    rw [strBytes_B]
    exact hg
  repeat' (first | refine tr_seq ?_ | refine tr_block ?_ | refine tr_skip ?_)
  refine tr_region (lex (T := tab) tOk hnt rfl ?_ (callU rfl rfl rfl rfl rfl rfl rfl hnt hg (lex (T := tab) tOk hnt rfl ?_ (Lex.nil _)))) ?_
  · (dsimp only [AllP]; (repeat' first | exact trivial | assumption | exact Nat.le_of_ble_eq_true rfl | apply And.intro | intro _ | exact rfl))
  · (dsimp only [AllP]; (repeat' first | exact trivial | assumption | exact Nat.le_of_ble_eq_true rfl | apply And.intro | intro _ | exact rfl))
  repeat' (first | refine tr_seq ?_ | refine reg (T := tab) tOk hnt rfl ?_ ?_ | refine regD (T := tab) tOk mixedR hnt rfl (by decide +kernel) ?_ ?_ | refine tr_block ?_ | refine tr_skip ?_)
  · (dsimp only [AllP]; (repeat' first | exact trivial | assumption | exact Nat.le_of_ble_eq_true rfl | apply And.intro | intro _ | exact rfl))
  refine tr_cond rfl (fun hc => ?_) (fun hc => ?_)
  · have hc : x ≠ 0 := of_decide_eq_true ((neD x).symm.trans hc)
    repeat' (first | refine tr_seq ?_ | refine reg (T := tab) tOk hnt rfl ?_ ?_ | refine regD (T := tab) tOk mixedR hnt rfl (by decide +kernel) ?_ ?_ | refine tr_block ?_ | refine tr_skip ?_)
    · (dsimp only [AllP]; (repeat' first | exact trivial | assumption | exact Nat.le_of_ble_eq_true rfl | apply And.intro | intro _ | exact rfl))
    refine tr_ret ⟨.inr rfl, _, _, rfl, trivial, ?_⟩
    rw [if_pos hc]
    rfl
  have hc : ¬ x ≠ 0 := of_decide_eq_false ((neD x).symm.trans hc)
  rw [if_neg hc]
  have hb1 : ∀ n : Int, FnD Tryd.prog 34 [.v (.int .u64 (IntKind.u64.wrap n)), .one (.e (eI 1))] (.v (.string (strB [UInt8.ofNat (u64I n)]))) := fun n => by
    rw [u64I_wrap]
    exact big_fn (u64I n) 1 (by decide)
  repeat' (first | refine tr_seq ?_ | refine tr_block ?_ | refine tr_skip ?_)
  refine tr_draw (T := tab) tOk hnt mixedR (lexD (T := tab) rfl ?_ (callD rfl rfl rfl rfl rfl rfl rfl rfl (hb1 kind) (lexD (T := tab) rfl ?_ (callD rfl rfl rfl rfl rfl rfl rfl rfl (hb1 e) (lexD (T := tab) rfl ?_ (.nil _)))))) (by decide +kernel) ?_
  · (dsimp only [AllP]; (repeat' first | exact trivial | assumption | exact Nat.le_of_ble_eq_true rfl | apply And.intro | intro _ | exact rfl))
  · (dsimp only [AllP]; (repeat' first | exact trivial | assumption | exact Nat.le_of_ble_eq_true rfl | apply And.intro | intro _ | exact rfl))
  · have hL : b.length ≤ 16777216 := hl
    have e2 : (strB [UInt8.ofNat (u64I kind)] ++ strB [UInt8.ofNat (u64I e)]).size = 2 := by
      rw [strB_app, strB_size]
      rfl
    have e3 : (bytesOf (eCells b)).size ≤ 16777216 := by
      rw [strB_of, strB_size]
      exact hL
    have e4 : (strB [UInt8.ofNat (u64I kind)] ++ strB [UInt8.ofNat (u64I e)] ++ bytesOf (eCells b)).size ≤ maxLen := by
      rw [strB_of, strB_app, strB_app, strB_size, List.length_append, maxLen]
      show 2 + b.length ≤ _
      omega
    have e5 : (strB [UInt8.ofNat (u64I kind)] ++ strB [UInt8.ofNat (u64I e)]).size + (bytesOf (eCells b)).size ≤ maxLen := by
      rw [e2, maxLen]
      omega
    have e6 : (strB [UInt8.ofNat (u64I kind)]).size + (strB [UInt8.ofNat (u64I e)]).size ≤ maxLen := by
      rw [strB_size, strB_size, maxLen]
      exact (show 1 + 1 ≤ 2 ^ 63 - 1 by decide)
    exact ⟨trivial, trivial, e4, e5, eCells_isByte b, trivial, e6⟩
  refine tr_ret ⟨.inr rfl, _, _, rfl, trivial, ?_⟩
  show rBE0 (strBytes (strB [UInt8.ofNat (u64I kind)] ++ strB [UInt8.ofNat (u64I e)] ++ bytesOf (eCells b))) 0 = _
  rw [strB_of, strB_app, strB_app, strBytes_B]
  rfl
set_option maxRecDepth 10000 in
theorem tells_fn (mode kind e : Int) (t : List UInt8) : FnG Tryd.prog 5 gK [.one (.e (eI mode)), .one (.e (eI kind)), .one (.e (eI e)), .v (.string (strB t))] (.v (.bool true)) := by
  refine fn_introG (T := tab) tOk Tryd.func5 rfl (by kernel_rfl) (by simp [Tryd.ntmps5]) ?_
  intro X hX
  have hnt : X.nt = 37 := hX
  clear hX
  have h1 := Data_fn mode kind e t
  have h2 := AuditData_fn mode kind e t
  generalize tellF mode kind e t = r at h1 h2
  obtain ⟨b, e⟩ := r
  repeat' (first | refine tr_seq ?_ | refine reg (T := tab) tOk hnt rfl ?_ ?_ | refine regD (T := tab) tOk mixedR hnt rfl (by decide +kernel) ?_ ?_ | refine tr_block ?_ | refine tr_skip ?_)
  · (dsimp only [AllP]; (repeat' first | exact trivial | assumption | exact Nat.le_of_ble_eq_true rfl | apply And.intro | intro _ | exact rfl))
  refine tr_region (lex (T := tab) tOk hnt rfl ?_ (callV rfl rfl rfl rfl rfl rfl rfl hnt rfl h1 (lex (T := tab) tOk hnt rfl ?_ (Lex.nil _)))) ?_
  · (dsimp only [AllP]; (repeat' first | exact trivial | assumption | exact Nat.le_of_ble_eq_true rfl | apply And.intro | intro _ | exact rfl))
  · (dsimp only [AllP]; (repeat' first | exact trivial | assumption | exact Nat.le_of_ble_eq_true rfl | apply And.intro | intro _ | exact rfl))
  repeat' (first | refine tr_seq ?_ | refine tr_block ?_ | refine tr_skip ?_)
  refine tr_region (lex (T := tab) tOk hnt rfl ?_ (call rfl rfl rfl rfl rfl rfl rfl hnt h2 (lex (T := tab) tOk hnt rfl ?_ (Lex.nil _)))) ?_
  · (dsimp only [AllP]; (repeat' first | exact trivial | assumption | exact Nat.le_of_ble_eq_true rfl | apply And.intro | intro _ | exact rfl))
  · (dsimp only [AllP]; (repeat' first | exact trivial | assumption | exact Nat.le_of_ble_eq_true rfl | apply And.intro | intro _ | exact rfl))
  repeat' (first | refine tr_seq ?_ | refine tr_block ?_ | refine tr_skip ?_)
  refine tr_region (lex (T := tab) tOk hnt rfl ?_ (callG rfl rfl rfl rfl rfl rfl hnt rfl (fun hq => ?_) (fun _ => sameB_fn b) (lex (T := tab) tOk hnt rfl ?_ (Lex.nil _)))) ?_
  · (dsimp only [AllP]; (repeat' first | exact trivial | assumption | exact Nat.le_of_ble_eq_true rfl | apply And.intro | intro _ | exact rfl))
  · exact ⟨hq, hq⟩
  · exact ⟨trivial, fun h => h⟩
  refine tr_ret ⟨.inr rfl, _, _, rfl, by trivial, ?_⟩
  simp
  rfl
def entryF (mode : Int) (prev : List UInt8) (f : Bool) (s d : List UInt8) : List UInt8 × Int :=
  if (leafF mode f s d).2 ≠ 0 then ([], (leafF mode f s d).2) else dgF mode 8 [prev, (leafF mode f s d).1]
set_option maxRecDepth 10000 in
theorem Entry_fn (mode : Int) (p : List UInt8) (f : Bool) (s d : List UInt8) : FnG Tryd.prog 23 gK [.one (.e (eI mode)), .one (.e (eBytes p)), .agg (.es (slE f s d))] (rBE (entryF mode p f s d)) := by
  refine fn_introG (T := tab) tOk Tryd.func23 rfl (by kernel_rfl) (by simp [Tryd.ntmps23]) ?_
  intro X hX
  have hnt : X.nt = 26 := hX
  clear hX
  have h1 := Leaf_fn mode f s d
  unfold entryF
  generalize leafF mode f s d = r at h1 ⊢
  obtain ⟨b, x⟩ := r
  repeat' (first | refine tr_seq ?_ | refine reg (T := tab) tOk hnt rfl ?_ ?_ | refine regD (T := tab) tOk mixedR hnt rfl (by decide +kernel) ?_ ?_ | refine tr_block ?_ | refine tr_skip ?_)
  · (dsimp only [AllP]; (repeat' first | exact trivial | assumption | exact Nat.le_of_ble_eq_true rfl | apply And.intro | intro _ | exact rfl))
  refine tr_region (lex (T := tab) tOk hnt rfl ?_ (callV rfl rfl rfl rfl rfl rfl rfl hnt rfl h1 (lex (T := tab) tOk hnt rfl ?_ (Lex.nil _)))) ?_
  · (dsimp only [AllP]; (repeat' first | exact trivial | assumption | exact Nat.le_of_ble_eq_true rfl | apply And.intro | intro _ | exact rfl))
  · (dsimp only [AllP]; (repeat' first | exact trivial | assumption | exact Nat.le_of_ble_eq_true rfl | apply And.intro | intro _ | exact rfl))
  repeat' (first | refine tr_seq ?_ | refine reg (T := tab) tOk hnt rfl ?_ ?_ | refine regD (T := tab) tOk mixedR hnt rfl (by decide +kernel) ?_ ?_ | refine tr_block ?_ | refine tr_skip ?_)
  · (dsimp only [AllP]; (repeat' first | exact trivial | assumption | exact Nat.le_of_ble_eq_true rfl | apply And.intro | intro _ | exact rfl))
  refine tr_cond rfl (fun hc => ?_) (fun hc => ?_)
  · have hc : x ≠ 0 := of_decide_eq_true ((neD x).symm.trans hc)
    repeat' (first | refine tr_seq ?_ | refine reg (T := tab) tOk hnt rfl ?_ ?_ | refine regD (T := tab) tOk mixedR hnt rfl (by decide +kernel) ?_ ?_ | refine tr_block ?_ | refine tr_skip ?_)
    · (dsimp only [AllP]; (repeat' first | exact trivial | assumption | exact Nat.le_of_ble_eq_true rfl | apply And.intro | intro _ | exact rfl))
    refine tr_ret ⟨.inr rfl, _, _, rfl, trivial, ?_⟩
    rw [if_pos hc]
    rfl
  have hc : ¬ x ≠ 0 := of_decide_eq_false ((neD x).symm.trans hc)
  rw [if_neg hc]
  repeat' (first | refine tr_seq ?_ | refine tr_block ?_ | refine tr_skip ?_)
  refine tr_region (lex (T := tab) tOk hnt rfl ?_ (callV rfl rfl rfl rfl rfl rfl rfl hnt rfl (Digest_fn mode 8 [p, b]) (lex (T := tab) tOk hnt rfl ?_ (Lex.nil _)))) ?_
  · (dsimp only [AllP]; (repeat' first | exact trivial | assumption | exact Nat.le_of_ble_eq_true rfl | apply And.intro | intro _ | exact rfl))
  · (dsimp only [AllP]; (repeat' first | exact trivial | assumption | exact Nat.le_of_ble_eq_true rfl | apply And.intro | intro _ | exact rfl))
  exact tr_ret ⟨.inr rfl, _, _, rfl, trivial, rfl⟩
set_option maxRecDepth 10000 in
theorem EntryOf_fn (mode : Int) (p : List UInt8) (f : Bool) (s d : List UInt8) : FnD Tryd.prog 24 [.one (.e (eI mode)), .one (.e (eBytes p)), .agg (.es (slE f s d))] (rBE (entryF mode p f s d)) := by
  refine fn_intro (T := tab) tOk Tryd.func24 rfl (by kernel_rfl) (by simp [Tryd.ntmps24]) ?_
  intro X hX
  have hnt : X.nt = 26 := hX
  clear hX
  have h1 := LeafOf_fn mode f s d
  unfold entryF
  generalize leafF mode f s d = r at h1 ⊢
  obtain ⟨b, x⟩ := r
  repeat' (first | refine tr_seq ?_ | refine reg (T := tab) tOk hnt rfl ?_ ?_ | refine regD (T := tab) tOk mixedR hnt rfl (by decide +kernel) ?_ ?_ | refine tr_block ?_ | refine tr_skip ?_)
  · (dsimp only [AllP]; (repeat' first | exact trivial | assumption | exact Nat.le_of_ble_eq_true rfl | apply And.intro | intro _ | exact rfl))
  refine tr_region (lex (T := tab) tOk hnt rfl ?_ (call rfl rfl rfl rfl rfl rfl rfl hnt h1 (lex (T := tab) tOk hnt rfl ?_ (Lex.nil _)))) ?_
  · (dsimp only [AllP]; (repeat' first | exact trivial | assumption | exact Nat.le_of_ble_eq_true rfl | apply And.intro | intro _ | exact rfl))
  · (dsimp only [AllP]; (repeat' first | exact trivial | assumption | exact Nat.le_of_ble_eq_true rfl | apply And.intro | intro _ | exact rfl))
  repeat' (first | refine tr_seq ?_ | refine reg (T := tab) tOk hnt rfl ?_ ?_ | refine regD (T := tab) tOk mixedR hnt rfl (by decide +kernel) ?_ ?_ | refine tr_block ?_ | refine tr_skip ?_)
  · (dsimp only [AllP]; (repeat' first | exact trivial | assumption | exact Nat.le_of_ble_eq_true rfl | apply And.intro | intro _ | exact rfl))
  refine tr_cond rfl (fun hc => ?_) (fun hc => ?_)
  · have hc : x ≠ 0 := of_decide_eq_true ((neD x).symm.trans hc)
    repeat' (first | refine tr_seq ?_ | refine reg (T := tab) tOk hnt rfl ?_ ?_ | refine regD (T := tab) tOk mixedR hnt rfl (by decide +kernel) ?_ ?_ | refine tr_block ?_ | refine tr_skip ?_)
    · (dsimp only [AllP]; (repeat' first | exact trivial | assumption | exact Nat.le_of_ble_eq_true rfl | apply And.intro | intro _ | exact rfl))
    refine tr_ret ⟨.inr rfl, _, _, rfl, trivial, ?_⟩
    rw [if_pos hc]
    rfl
  have hc : ¬ x ≠ 0 := of_decide_eq_false ((neD x).symm.trans hc)
  rw [if_neg hc]
  repeat' (first | refine tr_seq ?_ | refine tr_block ?_ | refine tr_skip ?_)
  refine tr_region (lex (T := tab) tOk hnt rfl ?_ (callU rfl rfl rfl rfl rfl rfl rfl hnt (DigestOf_fn mode 8 [p, b]) (lex (T := tab) tOk hnt rfl ?_ (Lex.nil _)))) ?_
  · (dsimp only [AllP]; (repeat' first | exact trivial | assumption | exact Nat.le_of_ble_eq_true rfl | apply And.intro | intro _ | exact rfl))
  · (dsimp only [AllP]; (repeat' first | exact trivial | assumption | exact Nat.le_of_ble_eq_true rfl | apply And.intro | intro _ | exact rfl))
  exact tr_ret ⟨.inr rfl, _, _, rfl, trivial, rfl⟩
set_option maxRecDepth 10000 in
theorem entries_fn (mode : Int) (p : List UInt8) (f : Bool) (s d : List UInt8) : FnG Tryd.prog 8 gK [.one (.e (eI mode)), .one (.e (eBytes p)), .agg (.es (slE f s d))] (.v (.bool true)) := by
  refine fn_introG (T := tab) tOk Tryd.func8 rfl (by kernel_rfl) (by simp [Tryd.ntmps8]) ?_
  intro X hX
  have hnt : X.nt = 33 := hX
  clear hX
  have h1 := Entry_fn mode p f s d
  have h2 := EntryOf_fn mode p f s d
  generalize entryF mode p f s d = r at h1 h2
  obtain ⟨b, e⟩ := r
  repeat' (first | refine tr_seq ?_ | refine reg (T := tab) tOk hnt rfl ?_ ?_ | refine regD (T := tab) tOk mixedR hnt rfl (by decide +kernel) ?_ ?_ | refine tr_block ?_ | refine tr_skip ?_)
  · (dsimp only [AllP]; (repeat' first | exact trivial | assumption | exact Nat.le_of_ble_eq_true rfl | apply And.intro | intro _ | exact rfl))
  refine tr_region (lex (T := tab) tOk hnt rfl ?_ (callV rfl rfl rfl rfl rfl rfl rfl hnt rfl h1 (lex (T := tab) tOk hnt rfl ?_ (Lex.nil _)))) ?_
  · (dsimp only [AllP]; (repeat' first | exact trivial | assumption | exact Nat.le_of_ble_eq_true rfl | apply And.intro | intro _ | exact rfl))
  · (dsimp only [AllP]; (repeat' first | exact trivial | assumption | exact Nat.le_of_ble_eq_true rfl | apply And.intro | intro _ | exact rfl))
  repeat' (first | refine tr_seq ?_ | refine tr_block ?_ | refine tr_skip ?_)
  refine tr_region (lex (T := tab) tOk hnt rfl ?_ (call rfl rfl rfl rfl rfl rfl rfl hnt h2 (lex (T := tab) tOk hnt rfl ?_ (Lex.nil _)))) ?_
  · (dsimp only [AllP]; (repeat' first | exact trivial | assumption | exact Nat.le_of_ble_eq_true rfl | apply And.intro | intro _ | exact rfl))
  · (dsimp only [AllP]; (repeat' first | exact trivial | assumption | exact Nat.le_of_ble_eq_true rfl | apply And.intro | intro _ | exact rfl))
  repeat' (first | refine tr_seq ?_ | refine tr_block ?_ | refine tr_skip ?_)
  refine tr_region (lex (T := tab) tOk hnt rfl ?_ (callG rfl rfl rfl rfl rfl rfl hnt rfl (fun hq => ?_) (fun _ => sameB_fn b) (lex (T := tab) tOk hnt rfl ?_ (Lex.nil _)))) ?_
  · (dsimp only [AllP]; (repeat' first | exact trivial | assumption | exact Nat.le_of_ble_eq_true rfl | apply And.intro | intro _ | exact rfl))
  · exact ⟨hq, hq⟩
  · exact ⟨trivial, fun h => h⟩
  refine tr_ret ⟨.inr rfl, _, _, rfl, by trivial, ?_⟩
  simp
  rfl
end Go.Proofs.YtmicapdbgjafnabDoor
