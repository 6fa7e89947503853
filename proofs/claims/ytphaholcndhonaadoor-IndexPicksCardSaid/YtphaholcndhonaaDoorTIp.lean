/- Keys of rows, by a number. No condition. -/
import Derived.Test.YtphaholcndhonaaDoorTEnI
import Derived.Test.YtphaholcndhonaaDoorRZC
namespace Go.Proofs.YtphaholcndhonaaDoor
open Go Go.RowKit Go.Proofs.YtphaholcndhonaaDoor.Ab
set_option linter.unusedSimpArgs false
set_option linter.unusedVariables false

set_option maxRecDepth 10000 in
set_option maxHeartbeats 2000000 in
theorem vb2n_fn (i : Int) (b : BitVec 64) (t : Byt) : FnD Tryd.prog 132 [.agg (.es (eVal ⟨2, i, b, t⟩))] (.v (.string (strB (3 :: bigF (BitVec.ofInt 64 i + topQ).toNat 8)))) := by
  refine fn_intro (T := tab) tOk Tryd.func132 rfl (by kernel_rfl) (by simp [Tryd.ntmps132]) ?_
  intro X hX
  have hnt : X.nt = 35 := hX
  clear hX
  have h := big_fn (BitVec.ofInt 64 i + topQ).toNat 8 (by decide)
  have hx : IntKind.u64.wrap (IntKind.u64.wrap i + 9223372036854775808) = ((BitVec.ofInt 64 i + topQ).toNat : Int) := by
    rw [intq i, ← topQ_nat]; exact q_add _ _
  rw [← hx] at h
  have hl : (strB (bigF (BitVec.ofInt 64 i + topQ).toNat 8)).size = 8 := by rw [strB_size, bigF_len]
  repeat' (first | refine tr_seq ?_ | refine reg (T := tab) tOk hnt rfl ?_ ?_ | refine regD (T := tab) tOk mixedR hnt rfl (by first | decide +kernel | kernel_rfl) ?_ ?_ | refine tr_block ?_ | refine tr_skip ?_)
  · (dsimp only [AllP]; (repeat' first | exact trivial | assumption | exact Nat.le_of_ble_eq_true rfl | apply And.intro | decide | intro _ | exact rfl))
  · (dsimp only [AllP]; (repeat' first | exact trivial | assumption | exact Nat.le_of_ble_eq_true rfl | apply And.intro | decide | intro _ | exact rfl))
  · (dsimp only [AllP]; (repeat' first | exact trivial | assumption | exact Nat.le_of_ble_eq_true rfl | apply And.intro | decide | intro _ | exact rfl))
  repeat' (first | refine tr_seq ?_ | refine tr_block ?_ | refine tr_skip ?_)
  refine tr_cond rfl (fun hc => ?_) (fun hc => ?_)
  · first | exact absurd (show false = true from hc) Bool.false_ne_true | exact absurd (show true = false from hc).symm Bool.false_ne_true
  repeat' (first | refine tr_seq ?_ | refine reg (T := tab) tOk hnt rfl ?_ ?_ | refine regD (T := tab) tOk mixedR hnt rfl (by first | decide +kernel | kernel_rfl) ?_ ?_ | refine tr_block ?_ | refine tr_skip ?_)
  · (dsimp only [AllP]; (repeat' first | exact trivial | assumption | exact Nat.le_of_ble_eq_true rfl | apply And.intro | decide | intro _ | exact rfl))
  repeat' (first | refine tr_seq ?_ | refine tr_block ?_ | refine tr_skip ?_)
  refine tr_cond rfl (fun hc => ?_) (fun hc => ?_)
  · repeat' (first | refine tr_seq ?_ | refine tr_block ?_ | refine tr_skip ?_)
    refine tr_region (lex (T := tab) tOk hnt rfl ?_ (call rfl rfl rfl rfl rfl rfl rfl hnt (h) (lex (T := tab) tOk hnt rfl ?_ (Lex.nil _)))) ?_
    · (dsimp only [AllP]; (repeat' first | exact trivial | assumption | exact Nat.le_of_ble_eq_true rfl | apply And.intro | exact eCells_len1 _ _ ‹_› | exact eCells_isByte _ _ ‹_› | (intro hh_; have hg_ := hh_; (try simp only [condT_ff, condF_tt, notE_t, notE_f, Bool.and_eq_true, ne_eq, decide_eq_true_eq, decide_eq_false_iff_not] at hg_)) | intro _ | exact rfl | omega))
    · (dsimp only [AllP]; (repeat' first | exact trivial | assumption | exact Nat.le_of_ble_eq_true rfl | apply And.intro | exact eCells_len1 _ _ ‹_› | exact eCells_isByte _ _ ‹_› | (intro hh_; have hg_ := hh_; (try simp only [condT_ff, condF_tt, notE_t, notE_f, Bool.and_eq_true, ne_eq, decide_eq_true_eq, decide_eq_false_iff_not] at hg_)) | intro _ | exact rfl | omega))
      all_goals trace_state
    repeat' (first | refine tr_seq ?_ | refine tr_block ?_ | refine tr_skip ?_)
    refine tr_ret ⟨.inr rfl, _, _, rfl, by (repeat' first | exact trivial | exact Nat.le_of_ble_eq_true rfl | apply And.intro), ?_⟩
    show D.v (.string (strB [3] ++ strB (bigF (BitVec.ofInt 64 i + topQ).toNat 8))) = _
    rw [strB_app]
    rfl
  first | exact absurd (show false = true from hc) Bool.false_ne_true | exact absurd (show true = false from hc).symm Bool.false_ne_true
def kv (k : Int) : Val := ⟨2, k, 0#64, []⟩
set_option maxRecDepth 10000 in
set_option maxHeartbeats 2000000 in
theorem kv_fn (k : Int) : FnD Tryd.prog 69 [.one (.e (eI k))] (.agg (.es (eVal (kv k)))) := by
  refine fn_intro (T := tab) tOk Tryd.func69 rfl (by kernel_rfl) (by simp [Tryd.ntmps69]) ?_
  intro X hX
  have hnt : X.nt = 5 := hX
  clear hX
  repeat' (first | refine tr_seq ?_ | refine reg (T := tab) tOk hnt rfl ?_ ?_ | refine regD (T := tab) tOk mixedR hnt rfl (by first | decide +kernel | kernel_rfl) ?_ ?_ | refine tr_block ?_ | refine tr_skip ?_)
  · (dsimp only [AllP]; (repeat' first | exact trivial | assumption | exact Nat.le_of_ble_eq_true rfl | apply And.intro | decide | intro _ | exact rfl))
  · (dsimp only [AllP]; (repeat' first | exact trivial | assumption | exact Nat.le_of_ble_eq_true rfl | apply And.intro | decide | intro _ | exact rfl))
  repeat' (first | refine tr_seq ?_ | refine tr_block ?_ | refine tr_skip ?_)
  refine tr_ret ⟨.inr rfl, _, _, rfl, by (repeat' first | exact trivial | exact Nat.le_of_ble_eq_true rfl | apply And.intro), ?_⟩
  rfl
def kyB (k : Int) (i : Nat) : Byt := (3 :: bigF (BitVec.ofInt 64 k + topQ).toNat 8) ++ bigF i 2
theorem enc_kv (k : Int) : encF [kv k] 0 = (3 :: bigF (BitVec.ofInt 64 k + topQ).toNat 8, 0) := by
  have hv : vld ([] : Byt) = true := by decide
  have h1 : chk (kv k) = 0 := by
    unfold chk kv
    simp
  have h2 : oneB (kv k) = 3 :: bigF (BitVec.ofInt 64 k + topQ).toNat 8 := rfl
  have h3 : ∀ l, clB 0 0 l = l := fun l => by
    have hd : dnB 0 0 = false := by decide
    unfold clB
    rw [hd]
    simp
  unfold encF
  rw [if_neg (show ¬ 5 < [kv k].length from by show ¬ 5 < 1; decide), fsF, h1, if_neg (not_not_intro rfl), fsF, if_neg (not_not_intro rfl), encB, h3, h2, encB, List.append_nil]
set_option maxRecDepth 10000 in
set_option maxHeartbeats 2000000 in
theorem key_fn (k : Int) (i : Nat) (hi : i < 65536) : FnG Tryd.prog 71 gK [.agg (.es (eVal (kv k))), .one (.e (eI (i : Int)))] (.v (.string (strB (kyB k i)))) := by
  refine fn_introG (T := tab) tOk Tryd.func71 rfl (by kernel_rfl) (by simp [Tryd.ntmps71]) ?_
  intro X hX
  have hnt : X.nt = 23 := hX
  clear hX
  have h1 := Encode_fn [kv k] 0
  rw [enc_kv] at h1
  have hl : (strB (3 :: bigF (BitVec.ofInt 64 k + topQ).toNat 8)).size = 9 := by rw [strB_size, List.length_cons, bigF_len]
  repeat' (first | refine tr_seq ?_ | refine reg (T := tab) tOk hnt rfl ?_ ?_ | refine regD (T := tab) tOk mixedR hnt rfl (by first | decide +kernel | kernel_rfl) ?_ ?_ | refine tr_block ?_ | refine tr_skip ?_)
  · (dsimp only [AllP]; (repeat' first | exact trivial | assumption | exact Nat.le_of_ble_eq_true rfl | apply And.intro | decide | intro _ | exact rfl))
  repeat' (first | refine tr_seq ?_ | refine tr_block ?_ | refine tr_skip ?_)
  refine tr_region (lex (T := tab) tOk hnt rfl ?_ (callV rfl rfl rfl rfl rfl rfl rfl hnt rfl (h1) (lex (T := tab) tOk hnt rfl ?_ (Lex.nil _)))) ?_
  · (dsimp only [AllP]; (repeat' first | exact trivial | assumption | exact Nat.le_of_ble_eq_true rfl | apply And.intro | exact eCells_len1 _ _ ‹_› | exact eCells_isByte _ _ ‹_› | (intro hh_; have hg_ := hh_; (try simp only [condT_ff, condF_tt, notE_t, notE_f, Bool.and_eq_true, ne_eq, decide_eq_true_eq, decide_eq_false_iff_not] at hg_)) | intro _ | exact rfl | omega))
    all_goals trace_state
  · (dsimp only [AllP]; (repeat' first | exact trivial | assumption | exact Nat.le_of_ble_eq_true rfl | apply And.intro | exact eCells_len1 _ _ ‹_› | exact eCells_isByte _ _ ‹_› | (intro hh_; have hg_ := hh_; (try simp only [condT_ff, condF_tt, notE_t, notE_f, Bool.and_eq_true, ne_eq, decide_eq_true_eq, decide_eq_false_iff_not] at hg_)) | intro _ | exact rfl | omega))
    all_goals trace_state
  have b1 : IntKind.u8.wrap (Int.fdiv (i : Int) (2 ^ min 8 IntKind.i64.bits)) = ((UInt8.ofNat (i / 256)).toNat : Int) := by
    rw [show (2 : Int) ^ min 8 IntKind.i64.bits = ((256 : Nat) : Int) from rfl, Int.fdiv_eq_ediv_of_nonneg _ (Int.natCast_nonneg _), ← Int.natCast_ediv]
    exact ofNatB _
  have b2 : IntKind.u8.wrap (i : Int) = ((UInt8.ofNat i).toNat : Int) := ofNatB _
  have hby := eCells_isByte (3 :: bigF (BitVec.ofInt 64 k + topQ).toNat 8)
  have hby2 : ∀ cs ∈ ([[E.v (.int .u8 (IntKind.u8.wrap (Int.fdiv (i : Int) (2 ^ min 8 IntKind.i64.bits))))], [E.v (.int .u8 (IntKind.u8.wrap (i : Int)))]] : List (List E)), isByte cs := by
    rw [b1, b2]
    exact eCells_isByte [UInt8.ofNat (i / 256), UInt8.ofNat i]
  have hs2 : bytesOf ([[E.v (.int .u8 (IntKind.u8.wrap (Int.fdiv (i : Int) (2 ^ min 8 IntKind.i64.bits))))], [E.v (.int .u8 (IntKind.u8.wrap (i : Int)))]] : List (List E)) = strB [UInt8.ofNat (i / 256), UInt8.ofNat i] := by
    rw [b1, b2]
    exact strB_of [UInt8.ofNat (i / 256), UInt8.ofNat i]
  have hl2 : (bytesOf (eCells (3 :: bigF (BitVec.ofInt 64 k + topQ).toNat 8))).size = 9 := by rw [strB_of]; exact hl
  have hl3 : (bytesOf ([[E.v (.int .u8 (IntKind.u8.wrap (Int.fdiv (i : Int) (2 ^ min 8 IntKind.i64.bits))))], [E.v (.int .u8 (IntKind.u8.wrap (i : Int)))]] : List (List E))).size = 2 := by rw [hs2]; rfl
  repeat' (first | refine tr_seq ?_ | refine tr_block ?_ | refine tr_skip ?_)
  first | refine reg (T := tab) tOk hnt rfl ?_ ?_ | refine regD (T := tab) tOk mixedR hnt rfl (by first | decide +kernel | kernel_rfl) ?_ ?_
  · (dsimp only [AllP]; (repeat' first | exact trivial | assumption | exact Nat.le_of_ble_eq_true rfl | apply And.intro | exact eCells_len1 _ _ ‹_› | exact eCells_isByte _ _ ‹_› | (intro hh_; have hg_ := hh_; (try simp only [condT_ff, condF_tt, notE_t, notE_f, Bool.and_eq_true, ne_eq, decide_eq_true_eq, decide_eq_false_iff_not] at hg_)) | intro _ | exact rfl | omega))
    all_goals first | exact hby _ ‹_› | exact hby2 _ ‹_› | trace_state
  repeat' (first | refine tr_seq ?_ | refine tr_block ?_ | refine tr_skip ?_)
  refine tr_ret ⟨.inr rfl, _, _, rfl, by (repeat' first | exact trivial | exact Nat.le_of_ble_eq_true rfl | apply And.intro), ?_⟩
  show D.v (.string (bytesOf (eCells (3 :: bigF (BitVec.ofInt 64 k + topQ).toNat 8)) ++ bytesOf ([[E.v (.int .u8 (IntKind.u8.wrap (Int.fdiv (i : Int) (2 ^ min 8 IntKind.i64.bits))))], [E.v (.int .u8 (IntKind.u8.wrap (i : Int)))]] : List (List E)))) = _
  rw [hs2, strB_of, strB_app]
  rfl
set_option maxRecDepth 10000 in
set_option maxHeartbeats 2000000 in
theorem IndexKey_fn (k : Int) (i : Nat) (hi : i < 65536) : FnD Tryd.prog 73 [.agg (.es (eVal (kv k))), .one (.e (eI (i : Int)))] (.v (.string (strB (kyB k i)))) := by
  refine fn_intro (T := tab) tOk Tryd.func73 rfl (by kernel_rfl) (by simp [Tryd.ntmps73]) ?_
  intro X hX
  have hnt : X.nt = 11 := hX
  clear hX
  have h1 := vb2n_fn k 0#64 []
  have h2 := big_fn i 2 (by decide)
  have hu : IntKind.u64.wrap (i : Int) = (i : Int) := by
    unfold IntKind.wrap
    simp [IntKind.bits, IntKind.signed]
    omega
  rw [← hu] at h2
  have hl : (strB (3 :: bigF (BitVec.ofInt 64 k + topQ).toNat 8)).size = 9 := by rw [strB_size, List.length_cons, bigF_len]
  have hl2 : (strB (bigF i 2)).size = 2 := by rw [strB_size, bigF_len]
  repeat' (first | refine tr_seq ?_ | refine reg (T := tab) tOk hnt rfl ?_ ?_ | refine regD (T := tab) tOk mixedR hnt rfl (by first | decide +kernel | kernel_rfl) ?_ ?_ | refine tr_block ?_ | refine tr_skip ?_)
  · (dsimp only [AllP]; (repeat' first | exact trivial | assumption | exact Nat.le_of_ble_eq_true rfl | apply And.intro | decide | intro _ | exact rfl))
  repeat' (first | refine tr_seq ?_ | refine tr_block ?_ | refine tr_skip ?_)
  refine tr_region (lex (T := tab) tOk hnt rfl ?_ (call rfl rfl rfl rfl rfl rfl rfl hnt (h1) (lex (T := tab) tOk hnt rfl ?_ (call rfl rfl rfl rfl rfl rfl rfl hnt (h2) (lex (T := tab) tOk hnt rfl ?_ (Lex.nil _)))))) ?_
  · (dsimp only [AllP]; (repeat' first | exact trivial | assumption | exact Nat.le_of_ble_eq_true rfl | apply And.intro | exact eCells_len1 _ _ ‹_› | exact eCells_isByte _ _ ‹_› | (intro hh_; have hg_ := hh_; (try simp only [condT_ff, condF_tt, notE_t, notE_f, Bool.and_eq_true, ne_eq, decide_eq_true_eq, decide_eq_false_iff_not] at hg_)) | intro _ | exact rfl | omega))
    all_goals trace_state
  · (dsimp only [AllP]; (repeat' first | exact trivial | assumption | exact Nat.le_of_ble_eq_true rfl | apply And.intro | exact eCells_len1 _ _ ‹_› | exact eCells_isByte _ _ ‹_› | (intro hh_; have hg_ := hh_; (try simp only [condT_ff, condF_tt, notE_t, notE_f, Bool.and_eq_true, ne_eq, decide_eq_true_eq, decide_eq_false_iff_not] at hg_)) | intro _ | exact rfl | omega))
    all_goals trace_state
  · (dsimp only [AllP]; (repeat' first | exact trivial | assumption | exact Nat.le_of_ble_eq_true rfl | apply And.intro | exact eCells_len1 _ _ ‹_› | exact eCells_isByte _ _ ‹_› | (intro hh_; have hg_ := hh_; (try simp only [condT_ff, condF_tt, notE_t, notE_f, Bool.and_eq_true, ne_eq, decide_eq_true_eq, decide_eq_false_iff_not] at hg_)) | intro _ | exact rfl | omega))
    all_goals trace_state
  repeat' (first | refine tr_seq ?_ | refine tr_block ?_ | refine tr_skip ?_)
  refine tr_ret ⟨.inr rfl, _, _, rfl, by (repeat' first | exact trivial | exact Nat.le_of_ble_eq_true rfl | apply And.intro), ?_⟩
  show D.v (.string (strB (3 :: bigF (BitVec.ofInt 64 k + topQ).toNat 8) ++ strB (bigF i 2))) = _
  rw [strB_app]
  rfl
end Go.Proofs.YtphaholcndhonaaDoor
