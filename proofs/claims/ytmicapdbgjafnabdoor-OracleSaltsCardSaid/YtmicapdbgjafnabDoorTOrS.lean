/- Package oracle: salts. No condition. -/
import Derived.Test.YtmicapdbgjafnabDoorTOrB
import Derived.Test.YtmicapdbgjafnabDoorTShM
namespace Go.Proofs.YtmicapdbgjafnabDoor
open Go Go.RowKit Go.Proofs.YtmicapdbgjafnabDoor.Ab

theorem big4_mod {a b : Nat} (h : a % 4294967296 = b % 4294967296) : bigF a 4 = bigF b 4 := by
  have e : ∀ x y : Nat, x % 256 = y % 256 → UInt8.ofNat x = UInt8.ofNat y := fun x y h => by
    apply UInt8.toNat_inj.1
    simpa using h
  rw [big4N, big4N, e (a / 2 ^ 24) (b / 2 ^ 24) (by omega), e (a / 2 ^ 16) (b / 2 ^ 16) (by omega), e (a / 2 ^ 8) (b / 2 ^ 8) (by omega), e a b (by omega)]
theorem big8 (n : Int) : bigF (u64I (Int.fdiv n 4294967296)) 4 ++ bigF (u64I n) 4 = bigF (u64I n) 8 := by
  have e : bigF (u64I n) 8 = bigF (u64I n / 4294967296) 4 ++ bigF (u64I n) 4 := by
    show (((bigF (u64I n / 256 / 256 / 256 / 256) 4 ++ [_]) ++ [_]) ++ [_]) ++ [_] = bigF (u64I n / 4294967296) 4 ++ ((((bigF (u64I n / 256 / 256 / 256 / 256) 0 ++ [_]) ++ [_]) ++ [_]) ++ [_])
    rw [show u64I n / 256 / 256 / 256 / 256 = u64I n / 4294967296 by omega]
    simp [bigF]
  rw [e, big4_mod (a := u64I (Int.fdiv n 4294967296)) (b := u64I n / 4294967296)]
  rw [Int.fdiv_eq_ediv_of_nonneg _ (by decide)]
  unfold u64I
  omega
theorem four_eq (n : Int) : [[E.v (.int .u8 (IntKind.u8.wrap (Int.fdiv n (2 ^ min (Int.toNat 24) IntKind.i64.bits))))], [E.v (.int .u8 (IntKind.u8.wrap (Int.fdiv n (2 ^ min (Int.toNat 16) IntKind.i64.bits))))], [E.v (.int .u8 (IntKind.u8.wrap (Int.fdiv n (2 ^ min (Int.toNat 8) IntKind.i64.bits))))], [E.v (.int .u8 (IntKind.u8.wrap n))]] = eCells (bigF (u64I n) 4) := by
  rw [big4N]
  have h24 := byteI n 24 (by decide)
  have h16 := byteI n 16 (by decide)
  have h8 := byteI n 8 (by decide)
  rw [show Int.toNat 24 = Int.toNat ((24 : Nat) : Int) from rfl, show Int.toNat 16 = Int.toNat ((16 : Nat) : Int) from rfl, show Int.toNat 8 = Int.toNat ((8 : Nat) : Int) from rfl, h24, h16, h8, byteI0]
  rfl
set_option maxRecDepth 10000 in
theorem four_fnO (n : Int) : FnO Tryd.prog 60 [] [.one (.e (eI n))] (.one (.own 14 0)) [(14, ⟨0, .row 1 (eCells (bigF (u64I n) 4)), 0⟩)] := by
  refine fn_introO (T := tab) tOk Tryd.func60 rfl (by kernel_rfl) (by simp [Tryd.ntmps60]) ?_
  intro X hX
  have hnt : X.nt = 15 := hX
  clear hX
  repeat' (first | refine tr_seq ?_ | refine reg (T := tab) tOk hnt rfl ?_ ?_ | refine regD (T := tab) tOk mixedR hnt rfl (by decide +kernel) ?_ ?_ | refine tr_block ?_ | refine tr_skip ?_)
  · (dsimp only [AllP]; (repeat' first | exact trivial | assumption | exact Nat.le_of_ble_eq_true rfl | apply And.intro | intro _ | exact rfl))
  · (dsimp only [AllP]; (repeat' first | exact trivial | assumption | exact Nat.le_of_ble_eq_true rfl | apply And.intro | intro _ | exact rfl | decide))
  exact tr_ret ⟨.inr rfl, _, _, _, rfl, trivial, rfl, fun X => le_of (ad := []) ⟨⟨rfl, rfl, rfl, rfl⟩, trivial⟩ (memOk_row rfl rfl (four_eq n) trivial)⟩
set_option maxRecDepth 10000 in
theorem eight_fn (n : Int) : FnD Tryd.prog 31 [.one (.e (eI n))] (.one (.e (eBytes (bigF (u64I n) 8)))) := by
  refine fn_intro (T := tab) tOk Tryd.func31 rfl (by kernel_rfl) (by simp [Tryd.ntmps31]) ?_
  intro X hX
  have hnt : X.nt = 9 := hX
  clear hX
  repeat' (first | refine tr_seq ?_ | refine tr_block ?_ | refine tr_skip ?_)
  refine reg (T := tab) tOk hnt rfl (by (dsimp only [AllP]; (repeat' first | exact trivial | assumption | exact Nat.le_of_ble_eq_true rfl | apply And.intro | intro _ | exact rfl))) ?_
  repeat' (first | refine tr_seq ?_ | refine tr_block ?_ | refine tr_skip ?_)
  have h4 := four_fnO (Int.fdiv n (2 ^ min (Int.toNat 32) IntKind.i64.bits))
  refine tr_region (lex (T := tab) tOk hnt rfl ?_ (callO (base := 2000) rfl rfl rfl rfl rfl rfl rfl hnt rfl rfl h4 rfl (lex (T := tab) tOk hnt rfl ?_ (call rfl rfl rfl rfl rfl rfl rfl hnt (four_fn n) (lex (T := tab) tOk hnt rfl ?_ (Lex.nil _)))))) ?_
  · (dsimp only [AllP]; (repeat' first | exact trivial | assumption | exact Nat.le_of_ble_eq_true rfl | apply And.intro | intro _ | exact rfl | decide))
  · (dsimp only [AllP]; (repeat' first | exact trivial | assumption | exact Nat.le_of_ble_eq_true rfl | apply And.intro | intro _ | exact rfl))
  · have hL : ∀ x : Nat, (eCells (bigF x 4)).length = 4 := fun x => by rw [eCells_length, bigF_len]
    refine ⟨trivial, eCells_len1 _, ?_, ?_⟩
    · rw [hL, hL, maxLen]
      decide
    · rw [hL, hL]
      decide
  refine tr_ret ⟨.inr rfl, _, _, rfl, trivial, ?_⟩
  refine congrArg (fun z => D.one (.e (.sl z))) ?_
  have h := big8 n
  rw [← h]
  exact eCells_append _ _
def saltF (mode : Int) (s : List UInt8) (st pl : Int) : List UInt8 × Int :=
  if mode ≠ 1 ∧ mode ≠ 2 then ([], 2) else if 16 < s.length then ([], 1) else if mode = 2 then (frB 3 [s, bigF (u64I st) 8, bigF (u64I pl) 8], 0) else (macF s (frB 3 [bigF (u64I st) 8, bigF (u64I pl) 8]), 0)
theorem len3 (s a b : List UInt8) (h1 : a.length = 8) (h2 : b.length = 8) (hs : s.length ≤ 16) : lenF [s, a, b] 3 ≤ 1000 := by
  show 2 + ((4 + s.length) + ((4 + a.length) + ((4 + b.length) + 0))) ≤ 1000
  omega
theorem len2 (a b : List UInt8) (h1 : a.length = 8) (h2 : b.length = 8) : lenF [a, b] 2 ≤ 1000 := by
  show 2 + ((4 + a.length) + ((4 + b.length) + 0)) ≤ 1000
  omega
set_option maxRecDepth 10000 in
theorem Salt_fn (mode : Int) (s : List UInt8) (st pl : Int) : FnG Tryd.prog 12 gK [.one (.e (eI mode)), .one (.e (eBytes s)), .one (.e (eI st)), .one (.e (eI pl))] (rBE (saltF mode s st pl)) := by
  refine fn_introG (T := tab) tOk Tryd.func12 rfl (by kernel_rfl) (by simp [Tryd.ntmps12]) ?_
  intro X hX
  have hnt : X.nt = 40 := hX
  clear hX
  repeat' (first | refine tr_seq ?_ | refine reg (T := tab) tOk hnt rfl ?_ ?_ | refine regD (T := tab) tOk mixedR hnt rfl (by decide +kernel) ?_ ?_ | refine tr_block ?_ | refine tr_skip ?_)
  · (dsimp only [AllP]; (repeat' first | exact trivial | assumption | exact Nat.le_of_ble_eq_true rfl | apply And.intro | intro _ | exact rfl))
  · (dsimp only [AllP]; (repeat' first | exact trivial | assumption | exact Nat.le_of_ble_eq_true rfl | apply And.intro | intro _ | exact rfl))
  refine tr_cond rfl (fun hc => ?_) (fun hc => ?_)
  · have hc := of_decide_eq_true ((neAnd mode).symm.trans hc)
    repeat' (first | refine tr_seq ?_ | refine reg (T := tab) tOk hnt rfl ?_ ?_ | refine regD (T := tab) tOk mixedR hnt rfl (by decide +kernel) ?_ ?_ | refine tr_block ?_ | refine tr_skip ?_)
    · (dsimp only [AllP]; (repeat' first | exact trivial | assumption | exact Nat.le_of_ble_eq_true rfl | apply And.intro | intro _ | exact rfl))
    refine tr_ret ⟨.inr rfl, _, _, rfl, trivial, ?_⟩
    rw [saltF, if_pos hc]
    rfl
  have hc := of_decide_eq_false ((neAnd mode).symm.trans hc)
  have hr : saltF mode s st pl = if 16 < s.length then ([], 1) else if mode = 2 then (frB 3 [s, bigF (u64I st) 8, bigF (u64I pl) 8], 0) else (macF s (frB 3 [bigF (u64I st) 8, bigF (u64I pl) 8]), 0) := by rw [saltF, if_neg hc]
  rw [hr]
  clear hr hc
  repeat' (first | refine tr_seq ?_ | refine reg (T := tab) tOk hnt rfl ?_ ?_ | refine regD (T := tab) tOk mixedR hnt rfl (by decide +kernel) ?_ ?_ | refine tr_block ?_ | refine tr_skip ?_)
  · (dsimp only [AllP]; (repeat' first | exact trivial | assumption | exact Nat.le_of_ble_eq_true rfl | apply And.intro | intro _ | exact rfl))
  refine tr_cond rfl (fun hc => ?_) (fun hc => ?_)
  · have hc : (16 : Int) < ((eCells s).length : Int) := of_decide_eq_true hc
    rw [eCells_length] at hc
    repeat' (first | refine tr_seq ?_ | refine reg (T := tab) tOk hnt rfl ?_ ?_ | refine regD (T := tab) tOk mixedR hnt rfl (by decide +kernel) ?_ ?_ | refine tr_block ?_ | refine tr_skip ?_)
    · (dsimp only [AllP]; (repeat' first | exact trivial | assumption | exact Nat.le_of_ble_eq_true rfl | apply And.intro | intro _ | exact rfl))
    refine tr_ret ⟨.inr rfl, _, _, rfl, trivial, ?_⟩
    rw [if_pos (by omega)]
    rfl
  have hc : ¬ (16 : Int) < ((eCells s).length : Int) := of_decide_eq_false hc
  rw [eCells_length] at hc
  have hs : s.length ≤ 16 := by omega
  rw [if_neg (by omega)]
  clear hc
  have h8a := bigF_len (u64I st) 8
  have h8b := bigF_len (u64I pl) 8
  have ea := eight_fn st
  have eb := eight_fn pl
  generalize bigF (u64I st) 8 = a at *
  generalize bigF (u64I pl) 8 = b at *
  repeat' (first | refine tr_seq ?_ | refine reg (T := tab) tOk hnt rfl ?_ ?_ | refine regD (T := tab) tOk mixedR hnt rfl (by decide +kernel) ?_ ?_ | refine tr_block ?_ | refine tr_skip ?_)
  · (dsimp only [AllP]; (repeat' first | exact trivial | assumption | exact Nat.le_of_ble_eq_true rfl | apply And.intro | intro _ | exact rfl))
  refine tr_cond rfl (fun hc => ?_) (fun hc => ?_)
  · have hc : mode = 2 := of_decide_eq_true hc
    rw [if_pos hc]
    repeat' (first | refine tr_seq ?_ | refine tr_block ?_ | refine tr_skip ?_)
    refine tr_region (lex (T := tab) tOk hnt rfl ?_ (call rfl rfl rfl rfl rfl rfl rfl hnt ea (lex (T := tab) tOk hnt rfl ?_ (call rfl rfl rfl rfl rfl rfl rfl hnt eb (lex (T := tab) tOk hnt rfl ?_ (callU rfl rfl rfl rfl rfl rfl rfl hnt (frame_fn 3 [s, a, b] (by show 3 ≤ _; decide) (Nat.le_trans (len3 s a b h8a h8b hs) (by decide))) (lex (T := tab) tOk hnt rfl ?_ (Lex.nil _)))))))) ?_
    · (dsimp only [AllP]; (repeat' first | exact trivial | assumption | exact Nat.le_of_ble_eq_true rfl | apply And.intro | intro _ | exact rfl))
    · (dsimp only [AllP]; (repeat' first | exact trivial | assumption | exact Nat.le_of_ble_eq_true rfl | apply And.intro | intro _ | exact rfl))
    · (dsimp only [AllP]; (repeat' first | exact trivial | assumption | exact Nat.le_of_ble_eq_true rfl | apply And.intro | intro _ | exact rfl))
    · (dsimp only [AllP]; (repeat' first | exact trivial | assumption | exact Nat.le_of_ble_eq_true rfl | apply And.intro | intro _ | exact rfl))
    exact tr_ret ⟨.inr rfl, _, _, rfl, trivial, rfl⟩
  have hc : ¬ mode = 2 := of_decide_eq_false hc
  rw [if_neg hc]
  have hfl : (frB 3 [a, b]).length ≤ 1000000000 := by
    rw [frB, preF_len 3 [a, b] [a, b].length [a, b].length (Nat.le_refl _)]
    exact Nat.le_trans (len2 a b h8a h8b) (by decide)
  have hf := frame_fn 3 [a, b] (by show 2 ≤ _; decide) (Nat.le_trans (len2 a b h8a h8b) (by decide))
  have hm := Mac_fn s (frB 3 [a, b]) (Nat.le_trans hs (by decide)) hfl
  have ho : (macF s (frB 3 [a, b])).length = 32 := sum_len _
  generalize frB 3 [a, b] = fr at *
  generalize macF s fr = o at *
  have hr : (bE o).length = 32 := by simp [bE, ho]
  repeat' (first | refine tr_seq ?_ | refine tr_block ?_ | refine tr_skip ?_)
  refine tr_region (lex (T := tab) tOk hnt rfl ?_ (call rfl rfl rfl rfl rfl rfl rfl hnt ea (lex (T := tab) tOk hnt rfl ?_ (call rfl rfl rfl rfl rfl rfl rfl hnt eb (lex (T := tab) tOk hnt rfl ?_ (callU rfl rfl rfl rfl rfl rfl rfl hnt hf (lex (T := tab) tOk hnt rfl ?_ (callV rfl rfl rfl rfl rfl rfl rfl hnt rfl hm (lex (T := tab) tOk hnt rfl ?_ (Lex.nil _)))))))))) ?_
  · (dsimp only [AllP]; (repeat' first | exact trivial | assumption | exact Nat.le_of_ble_eq_true rfl | apply And.intro | intro _ | exact rfl))
  · (dsimp only [AllP]; (repeat' first | exact trivial | assumption | exact Nat.le_of_ble_eq_true rfl | apply And.intro | intro _ | exact rfl))
  · (dsimp only [AllP]; (repeat' first | exact trivial | assumption | exact Nat.le_of_ble_eq_true rfl | apply And.intro | intro _ | exact rfl))
  · (dsimp only [AllP]; (repeat' first | exact trivial | assumption | exact Nat.le_of_ble_eq_true rfl | apply And.intro | intro _ | exact rfl))
  · exact ⟨⟨hr, Nat.le_of_ble_eq_true (by kernel_rfl), Nat.zero_le _⟩, trivial⟩
  refine tr_le (s' := St.of [(10, .one (.ptr 10 0 0))] [(10, ⟨0, .box (.es (bE o)), 0⟩)]) (le_of (ad := []) ⟨⟨rfl, rfl, rfl, rfl, rfl⟩, trivial⟩ (memOk_boxE rfl rfl (Eq.trans (b := List.take 0 (bE z32) ++ bE o ++ List.drop (0 + 32) (bE z32)) (by kernel_rfl) (put_all2 _ _ 32 rfl)) trivial)) ?_
  repeat' (first | refine tr_seq ?_ | refine tr_block ?_ | refine tr_skip ?_)
  first | refine reg (T := tab) tOk hnt rfl ?_ ?_ | refine regD (T := tab) tOk mixedR hnt rfl (by decide +kernel) ?_ ?_
  · have hch : (chunksE 1 (((32 : Nat) : Int) - 0).toNat (List.drop (0 + Int.toNat 0 * 1) (bE o))).length = 32 := by rw [show chunksE 1 (((32 : Nat) : Int) - 0).toNat (List.drop (0 + Int.toNat 0 * 1) (bE o)) = eCells o from ch32 o ho, eCells_length, ho]
    refine ⟨trivial, trivial, ⟨trivial, ?_, ?_⟩, ⟨by decide, by decide, by decide, by decide, Nat.le_of_eq hr.symm, by decide, by decide⟩, trivial, by decide, by decide⟩
    · exact Nat.le_trans (Nat.le_of_eq ((Nat.zero_add _).trans hch)) (by decide)
    · exact Nat.le_trans (Nat.le_of_eq ((Nat.mul_one _).trans ((Nat.zero_add _).trans hch))) (by decide)
  refine tr_ret ⟨.inr rfl, _, _, rfl, trivial, ?_⟩
  exact congrArg (fun z => rBE0 z 0) (ch32 o ho)
end Go.Proofs.YtmicapdbgjafnabDoor
namespace Go.Proofs.YtmicapdbgjafnabDoor
open Go Go.RowKit Go.Proofs.YtmicapdbgjafnabDoor.Ab

theorem u64I_wr (n : Int) : IntKind.u64.wrap n = (u64I n : Int) := by
  unfold IntKind.wrap u64I
  simp [IntKind.bits, IntKind.signed]
  omega
set_option maxRecDepth 10000 in
theorem SaltOf_fn (mode : Int) (s : List UInt8) (st pl : Int) : FnD Tryd.prog 13 [.one (.e (eI mode)), .one (.e (eBytes s)), .one (.e (eI st)), .one (.e (eI pl))] (rBE (saltF mode s st pl)) := by
  refine fn_intro (T := tab) tOk Tryd.func13 rfl (by kernel_rfl) (by simp [Tryd.ntmps13]) ?_
  intro X hX
  have hnt : X.nt = 44 := hX
  clear hX
  repeat' (first | refine tr_seq ?_ | refine tr_block ?_ | refine tr_skip ?_)
  refine reg (T := tab) tOk hnt rfl (by (dsimp only [AllP]; (repeat' first | exact trivial | assumption | exact Nat.le_of_ble_eq_true rfl | apply And.intro | intro _ | exact rfl))) ?_
  repeat' (first | refine tr_seq ?_ | refine tr_block ?_ | refine tr_skip ?_)
  refine tr_region (lex (T := tab) tOk hnt rfl ?_ (call rfl rfl rfl rfl rfl rfl rfl hnt (badMode_fn mode) (lex (T := tab) tOk hnt rfl ?_ (Lex.nil _)))) ?_
  · exact trivial
  · exact trivial
  repeat' (first | refine tr_seq ?_ | refine tr_block ?_ | refine tr_skip ?_)
  refine tr_cond rfl (fun hc => ?_) (fun hc => ?_)
  · have hc := of_decide_eq_true hc
    repeat' (first | refine tr_seq ?_ | refine reg (T := tab) tOk hnt rfl ?_ ?_ | refine regD (T := tab) tOk mixedR hnt rfl (by decide +kernel) ?_ ?_ | refine tr_block ?_ | refine tr_skip ?_)
    · (dsimp only [AllP]; (repeat' first | exact trivial | assumption | exact Nat.le_of_ble_eq_true rfl | apply And.intro | intro _ | exact rfl))
    refine tr_ret ⟨.inr rfl, _, _, rfl, trivial, ?_⟩
    rw [saltF, if_pos hc]
    rfl
  have hc := of_decide_eq_false hc
  have hr : saltF mode s st pl = if 16 < s.length then ([], 1) else if mode = 2 then (frB 3 [s, bigF (u64I st) 8, bigF (u64I pl) 8], 0) else (macF s (frB 3 [bigF (u64I st) 8, bigF (u64I pl) 8]), 0) := by rw [saltF, if_neg hc]
  rw [hr]
  clear hr hc
  repeat' (first | refine tr_seq ?_ | refine reg (T := tab) tOk hnt rfl ?_ ?_ | refine regD (T := tab) tOk mixedR hnt rfl (by decide +kernel) ?_ ?_ | refine tr_block ?_ | refine tr_skip ?_)
  · (dsimp only [AllP]; (repeat' first | exact trivial | assumption | exact Nat.le_of_ble_eq_true rfl | apply And.intro | intro _ | exact rfl))
  refine tr_cond rfl (fun hc => ?_) (fun hc => ?_)
  · have hc : (16 : Int) < ((eCells s).length : Int) := of_decide_eq_true hc
    rw [eCells_length] at hc
    repeat' (first | refine tr_seq ?_ | refine reg (T := tab) tOk hnt rfl ?_ ?_ | refine regD (T := tab) tOk mixedR hnt rfl (by decide +kernel) ?_ ?_ | refine tr_block ?_ | refine tr_skip ?_)
    · (dsimp only [AllP]; (repeat' first | exact trivial | assumption | exact Nat.le_of_ble_eq_true rfl | apply And.intro | intro _ | exact rfl))
    refine tr_ret ⟨.inr rfl, _, _, rfl, trivial, ?_⟩
    rw [if_pos (by omega)]
    rfl
  have hc : ¬ (16 : Int) < ((eCells s).length : Int) := of_decide_eq_false hc
  rw [eCells_length] at hc
  have hs : s.length ≤ 16 := by omega
  rw [if_neg (by omega)]
  clear hc
  have h8a := bigF_len (u64I st) 8
  have h8b := bigF_len (u64I pl) 8
  have ea : FnD Tryd.prog 34 [.v (.int .u64 (IntKind.u64.wrap st)), .one (.e (eI 8))] (.v (.string (strB (bigF (u64I st) 8)))) := by
    rw [u64I_wr]
    exact big_fn (u64I st) 8 (by decide)
  have eb : FnD Tryd.prog 34 [.v (.int .u64 (IntKind.u64.wrap pl)), .one (.e (eI 8))] (.v (.string (strB (bigF (u64I pl) 8)))) := by
    rw [u64I_wr]
    exact big_fn (u64I pl) 8 (by decide)
  generalize bigF (u64I st) 8 = a at *
  generalize bigF (u64I pl) 8 = b at *
  have za : (strB a).size ≤ maxLen := by
    rw [strB_size, h8a, maxLen]
    decide
  have zb : (strB b).size ≤ maxLen := by
    rw [strB_size, h8b, maxLen]
    decide
  repeat' (first | refine tr_seq ?_ | refine tr_block ?_ | refine tr_skip ?_)
  refine tr_region (lex (T := tab) tOk hnt rfl ?_ (call rfl rfl rfl rfl rfl rfl rfl hnt ea (lex (T := tab) tOk hnt rfl ?_ (call rfl rfl rfl rfl rfl rfl rfl hnt eb (lex (T := tab) tOk hnt rfl ?_ (Lex.nil _)))))) ?_
  · (dsimp only [AllP]; (repeat' first | exact trivial | assumption | exact Nat.le_of_ble_eq_true rfl | apply And.intro | intro _ | exact rfl))
  · (dsimp only [AllP]; (repeat' first | exact trivial | assumption | exact Nat.le_of_ble_eq_true rfl | apply And.intro | intro _ | exact rfl))
  · (dsimp only [AllP]; (repeat' first | exact trivial | assumption | exact Nat.le_of_ble_eq_true rfl | apply And.intro | intro _ | exact rfl))
  rw [strBytes_B, strBytes_B]
  repeat' (first | refine tr_seq ?_ | refine reg (T := tab) tOk hnt rfl ?_ ?_ | refine regD (T := tab) tOk mixedR hnt rfl (by decide +kernel) ?_ ?_ | refine tr_block ?_ | refine tr_skip ?_)
  · (dsimp only [AllP]; (repeat' first | exact trivial | assumption | exact Nat.le_of_ble_eq_true rfl | apply And.intro | intro _ | exact rfl))
  refine tr_cond rfl (fun hc => ?_) (fun hc => ?_)
  · have hc : mode = 2 := of_decide_eq_true hc
    rw [if_pos hc]
    have hfl : (frB 3 [s, a, b]).length ≤ 1000000000 := by
      rw [frB, preF_len 3 [s, a, b] [s, a, b].length [s, a, b].length (Nat.le_refl _)]
      exact Nat.le_trans (len3 s a b h8a h8b hs) (by decide)
    have hf := framed_fn 3 [s, a, b] (by show 3 ≤ _; decide) (Nat.le_trans (len3 s a b h8a h8b hs) (by decide))
    generalize frB 3 [s, a, b] = fr at *
    have zf : (strB fr).size ≤ maxLen := by
      rw [strB_size, maxLen]
      omega
    repeat' (first | refine tr_seq ?_ | refine tr_block ?_ | refine tr_skip ?_)
    refine tr_region (lex (T := tab) tOk hnt rfl ?_ (callU rfl rfl rfl rfl rfl rfl rfl hnt hf (lex (T := tab) tOk hnt rfl ?_ (Lex.nil _)))) ?_
    · (dsimp only [AllP]; (repeat' first | exact trivial | assumption | exact Nat.le_of_ble_eq_true rfl | apply And.intro | intro _ | exact rfl))
    · (dsimp only [AllP]; (repeat' first | exact trivial | assumption | exact Nat.le_of_ble_eq_true rfl | apply And.intro | intro _ | exact rfl))
    refine tr_ret ⟨.inr rfl, _, _, rfl, trivial, ?_⟩
    exact congrArg (fun z => rBE0 z 0) (strBytes_B fr)
  have hc : ¬ mode = 2 := of_decide_eq_false hc
  rw [if_neg hc]
  have hfl : (frB 3 [a, b]).length ≤ 1000000000 := by
    rw [frB, preF_len 3 [a, b] [a, b].length [a, b].length (Nat.le_refl _)]
    exact Nat.le_trans (len2 a b h8a h8b) (by decide)
  have hf := framed_fn 3 [a, b] (by show 2 ≤ _; decide) (Nat.le_trans (len2 a b h8a h8b) (by decide))
  have hm := Maced_fn s (frB 3 [a, b]) (Nat.le_trans hs (by decide)) hfl
  have ho : (macF s (frB 3 [a, b])).length = 32 := sum_len _
  generalize frB 3 [a, b] = fr at *
  generalize macF s fr = o at *
  have hr : (bE o).length = 32 := by simp [bE, ho]
  have zf : (strB fr).size ≤ maxLen := by
    rw [strB_size, maxLen]
    omega
  have hm : FnD Tryd.prog 36 [.one (.e (eBytes s)), .one (.e (.sl (strBytes (strB fr))))] (.agg (.es (bE o))) := by
    rw [strBytes_B]
    exact hm
  repeat' (first | refine tr_seq ?_ | refine tr_block ?_ | refine tr_skip ?_)
  refine tr_region (lex (T := tab) tOk hnt rfl ?_ (callU rfl rfl rfl rfl rfl rfl rfl hnt hf (lex (T := tab) tOk hnt rfl ?_ (callU rfl rfl rfl rfl rfl rfl rfl hnt hm (lex (T := tab) tOk hnt rfl ?_ (Lex.nil _)))))) ?_
  · (dsimp only [AllP]; (repeat' first | exact trivial | assumption | exact Nat.le_of_ble_eq_true rfl | apply And.intro | intro _ | exact rfl))
  · (dsimp only [AllP]; (repeat' first | exact trivial | assumption | exact Nat.le_of_ble_eq_true rfl | apply And.intro | intro _ | exact rfl))
  · exact ⟨⟨hr, Nat.le_of_ble_eq_true (by kernel_rfl), Nat.zero_le _⟩, trivial⟩
  refine tr_le (s' := St.of [(12, .one (.ptr 12 0 0))] [(12, ⟨0, .box (.es (bE o)), 0⟩)]) (le_of (ad := []) ⟨⟨rfl, rfl, rfl, rfl, rfl⟩, trivial⟩ (memOk_boxE rfl rfl (Eq.trans (b := List.take 0 (bE z32) ++ bE o ++ List.drop (0 + 32) (bE z32)) (by kernel_rfl) (put_all2 _ _ 32 rfl)) trivial)) ?_
  have hch : chunksE 1 (((32 : Nat) : Int) - 0).toNat (List.drop (0 + Int.toNat 0 * 1) (bE o)) = eCells o := ch32 o ho
  repeat' (first | refine tr_seq ?_ | refine tr_block ?_ | refine tr_skip ?_)
  first | refine reg (T := tab) tOk hnt rfl ?_ ?_ | refine regD (T := tab) tOk mixedR hnt rfl (by decide +kernel) ?_ ?_
  · refine ⟨trivial, trivial, ?_, ?_, by decide, by decide, by decide, by decide, Nat.le_of_eq hr.symm, by decide, by decide⟩
    · refine Nat.le_trans (Nat.le_of_eq ((congrArg (fun z => (bytesOf z).size) hch).trans ?_)) (show 32 ≤ maxLen by decide)
      show (bytesOf (eCells o)).size = 32
      rw [strB_of, strB_size, ho]
    · intro c hc
      exact eCells_isByte o c (hch ▸ hc)
  refine tr_ret ⟨.inr rfl, _, _, rfl, trivial, ?_⟩
  refine (congrArg (fun z => rBE0 (strBytes (bytesOf z)) 0) (ch32 o ho)).trans ?_
  rw [strB_of, strBytes_B]
  rfl
set_option maxRecDepth 10000 in
theorem salts_fn (mode : Int) (s : List UInt8) (st pl : Int) : FnG Tryd.prog 3 gK [.one (.e (eI mode)), .one (.e (eBytes s)), .one (.e (eI st)), .one (.e (eI pl))] (.v (.bool true)) := by
  refine fn_introG (T := tab) tOk Tryd.func3 rfl (by kernel_rfl) (by simp [Tryd.ntmps3]) ?_
  intro X hX
  have hnt : X.nt = 37 := hX
  clear hX
  have h1 := Salt_fn mode s st pl
  have h2 := SaltOf_fn mode s st pl
  generalize saltF mode s st pl = r at h1 h2
  obtain ⟨b, e⟩ := r
  repeat' (first | refine tr_seq ?_ | refine reg (T := tab) tOk hnt rfl ?_ ?_ | refine regD (T := tab) tOk mixedR hnt rfl (by decide +kernel) ?_ ?_ | refine tr_block ?_ | refine tr_skip ?_)
  · (dsimp only [AllP]; (repeat' first | exact trivial | assumption | exact Nat.le_of_ble_eq_true rfl | apply And.intro | intro _ | exact rfl))
  refine tr_region (lex (T := tab) tOk hnt rfl ?_ (callV rfl rfl rfl rfl rfl rfl rfl hnt rfl h1 (lex (T := tab) tOk hnt rfl ?_ (Lex.nil _)))) ?_
  · (dsimp only [AllP]; (repeat' first | exact trivial | assumption | exact Nat.le_of_ble_eq_true rfl | apply And.intro | intro _ | exact rfl))
  · (dsimp only [AllP]; (repeat' first | exact trivial | assumption | exact Nat.le_of_ble_eq_true rfl | apply And.intro | intro _ | exact rfl))
  repeat' (first | refine tr_seq ?_ | refine tr_block ?_ | refine tr_skip ?_)
  refine tr_region (lex (T := tab) tOk hnt rfl ?_ (call rfl rfl rfl rfl rfl rfl rfl hnt h2 (lex (T := tab) tOk hnt rfl ?_ (Lex.nil _)))) ?_
  · (dsimp only [AllP]; (repeat' first | exact trivial | assumption | exact Nat.le_of_ble_eq_true rfl | apply And.intro | intro _ | exact rfl))
  · (dsimp only [AllP]; (repeat' first | exact trivial | assumption | exact Nat.le_of_ble_eq_true rfl | apply And.intro | intro _ | exact rfl))
  repeat' (first | refine tr_seq ?_ | refine tr_block ?_ | refine tr_skip ?_)
  refine tr_region (lex (T := tab) tOk hnt rfl ?_ (callG rfl rfl rfl rfl rfl rfl hnt rfl (fun hq => ?_) (fun _ => sameB_fn b) (lex (T := tab) tOk hnt rfl ?_ (Lex.nil _)))) ?_
  · (dsimp only [AllP]; (repeat' first | exact trivial | assumption | exact Nat.le_of_ble_eq_true rfl | apply And.intro | intro _ | exact rfl))
  · exact ⟨hq, hq⟩
  · exact ⟨trivial, fun h => h⟩
  refine tr_ret ⟨.inr rfl, _, _, rfl, by trivial, ?_⟩
  simp
  rfl
end Go.Proofs.YtmicapdbgjafnabDoor
