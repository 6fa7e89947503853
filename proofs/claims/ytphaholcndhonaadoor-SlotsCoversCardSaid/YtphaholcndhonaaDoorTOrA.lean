/- Package oracle: frames of parts. No condition. -/
import Derived.Test.YtphaholcndhonaaDoorTShX
namespace Go.Proofs.YtphaholcndhonaaDoor
open Go Go.RowKit Go.Proofs.YtphaholcndhonaaDoor.Ab

/-- an int as the bits of 64 -/
def u64I (n : Int) : Nat := (n % 18446744073709551616).toNat
theorem u64I_nat {n : Nat} (h : n < 18446744073709551616) : u64I n = n := by
  unfold u64I
  omega
theorem cutI (n : Int) (k : Nat) (hk : k ≤ 56) : n / 2 ^ k % 256 = n % 18446744073709551616 / 2 ^ k % 256 := by
  have hp : (2 : Int) ^ k ≠ 0 := Int.ne_of_gt (Int.pow_pos (by decide))
  have hs : (18446744073709551616 : Int) = 2 ^ k * (256 * 2 ^ (56 - k)) := by
    have e : (18446744073709551616 : Int) = 2 ^ (k + (8 + (56 - k))) := by
      rw [show k + (8 + (56 - k)) = 64 by omega]
      rfl
    rw [e, Int.pow_add, Int.pow_add]
    rfl
  have hn : n = n % 18446744073709551616 + 2 ^ k * (256 * (2 ^ (56 - k) * (n / 18446744073709551616))) := by
    have := Int.emod_add_mul_ediv n 18446744073709551616
    rw [show 2 ^ k * (256 * (2 ^ (56 - k) * (n / 18446744073709551616))) = (2 ^ k * (256 * 2 ^ (56 - k))) * (n / 18446744073709551616) by simp only [Int.mul_assoc], ← hs]
    exact this.symm
  rw [show n / 2 ^ k = (n % 18446744073709551616 + 2 ^ k * (256 * (2 ^ (56 - k) * (n / 18446744073709551616)))) / 2 ^ k by rw [← hn], Int.add_mul_ediv_left _ _ hp, Int.add_mul_emod_self_left]
theorem byteI (n : Int) (k : Nat) (hk : k ≤ 56) : IntKind.u8.wrap (Int.fdiv n (2 ^ min (Int.toNat (k : Int)) IntKind.i64.bits)) = ((UInt8.ofNat (u64I n / 2 ^ k)).toNat : Int) := by
  have e1 : min (Int.toNat (k : Int)) IntKind.i64.bits = k := by
    rw [Int.toNat_natCast]
    exact Nat.min_eq_left (Nat.le_trans hk (by decide))
  have hp : (0 : Int) < 2 ^ k := Int.pow_pos (by decide)
  have hu : (u64I n : Int) = n % 18446744073709551616 := by
    unfold u64I
    omega
  have e2 : ((2 ^ k : Nat) : Int) = (2 : Int) ^ k := by norm_cast
  have wr : ∀ z : Int, IntKind.u8.wrap z = z % 256 := fun z => by
    unfold IntKind.wrap
    simp [IntKind.bits, IntKind.signed]
  rw [e1, Int.fdiv_eq_ediv_of_nonneg _ (Int.le_of_lt hp), ← ofNatB, Int.natCast_ediv, hu, e2, wr, wr]
  exact cutI n k hk
theorem byteI0 (n : Int) : IntKind.u8.wrap n = ((UInt8.ofNat (u64I n)).toNat : Int) := by
  have := cutI n 0 (by decide)
  have hu : (u64I n : Int) = n % 18446744073709551616 := by
    unfold u64I
    omega
  have wr : ∀ z : Int, IntKind.u8.wrap z = z % 256 := fun z => by
    unfold IntKind.wrap
    simp [IntKind.bits, IntKind.signed]
  rw [← ofNatB, wr, wr, hu]
  omega
theorem big4N (n : Nat) : bigF n 4 = [UInt8.ofNat (n / 2 ^ 24), UInt8.ofNat (n / 2 ^ 16), UInt8.ofNat (n / 2 ^ 8), UInt8.ofNat n] := by
  show [UInt8.ofNat (n / 256 / 256 / 256), UInt8.ofNat (n / 256 / 256), UInt8.ofNat (n / 256), UInt8.ofNat n] = _
  simp [Nat.div_div_eq_div_mul]
set_option maxRecDepth 10000 in
theorem four_fn (n : Int) : FnD Tryd.prog 192 [.one (.e (eI n))] (.one (.e (eBytes (bigF (u64I n) 4)))) := by
  refine fn_intro (T := tab) tOk Tryd.func192 rfl (by kernel_rfl) (by simp [Tryd.ntmps192]) ?_
  intro X hX
  have hnt : X.nt = 15 := hX
  clear hX
  repeat' (first | refine tr_seq ?_ | refine reg (T := tab) tOk hnt rfl ?_ ?_ | refine regD (T := tab) tOk mixedR hnt rfl (by decide +kernel) ?_ ?_ | refine tr_cond rfl (fun _ => ?_) (fun _ => ?_) | refine tr_block ?_ | refine tr_skip ?_ | refine tr_ret ?_ | refine tr_exit ?_)
  all_goals (try ((dsimp only [AllP]; (repeat' first | exact trivial | assumption | exact Nat.le_of_ble_eq_true rfl | apply And.intro | intro _ | exact rfl)); done))
  · dsimp only [AllP]
    (repeat' first | exact trivial | exact rfl | apply And.intro | decide)
  refine ⟨.inr rfl, _, _, rfl, by trivial, ?_⟩
  refine Eq.trans (b := D.one (.e (.sl [[E.v (.int .u8 (IntKind.u8.wrap (Int.fdiv n (2 ^ min (Int.toNat 24) IntKind.i64.bits))))], [E.v (.int .u8 (IntKind.u8.wrap (Int.fdiv n (2 ^ min (Int.toNat 16) IntKind.i64.bits))))], [E.v (.int .u8 (IntKind.u8.wrap (Int.fdiv n (2 ^ min (Int.toNat 8) IntKind.i64.bits))))], [E.v (.int .u8 (IntKind.u8.wrap n))]]))) (by kernel_rfl) ?_
  rw [big4N]
  have h24 := byteI n 24 (by decide)
  have h16 := byteI n 16 (by decide)
  have h8 := byteI n 8 (by decide)
  rw [show Int.toNat 24 = Int.toNat ((24 : Nat) : Int) from rfl, show Int.toNat 16 = Int.toNat ((16 : Nat) : Int) from rfl, show Int.toNat 8 = Int.toNat ((8 : Nat) : Int) from rfl, h24, h16, h8, byteI0]
  rfl
/-- a frame of parts -/
def preF (tag : Int) (ps : List (List UInt8)) (n k : Nat) : List UInt8 := [UInt8.ofNat (u64I tag), UInt8.ofNat n] ++ ((ps.take k).map fun p => bigF p.length 4 ++ p).flatten
def frB (tag : Int) (ps : List (List UInt8)) : List UInt8 := preF tag ps ps.length ps.length
theorem preF_succ (tag : Int) (ps : List (List UInt8)) (n : Nat) {k : Nat} (h : k < ps.length) : preF tag ps n (k + 1) = preF tag ps n k ++ bigF (ps.getD k []).length 4 ++ ps.getD k [] := by
  have e : ps.getD k [] = ps[k] := by simp [List.getD, h]
  unfold preF
  rw [List.take_succ_eq_append_getElem h, e]
  simp only [List.map_append, List.map_cons, List.map_nil, List.flatten_append, List.flatten_cons, List.flatten_nil, List.append_nil, List.append_assoc]
/-- how long -/
def lenF (ps : List (List UInt8)) (k : Nat) : Nat := 2 + ((ps.take k).map fun p => 4 + p.length).sum
theorem lenF_succ (ps : List (List UInt8)) {k : Nat} (h : k < ps.length) : lenF ps (k + 1) = lenF ps k + (4 + (ps.getD k []).length) := by
  have e : ps.getD k [] = ps[k] := by simp [List.getD, h]
  unfold lenF
  rw [List.take_succ_eq_append_getElem h, e, List.map_append, List.sum_append]
  simp only [List.map_cons, List.map_nil, List.sum_cons, List.sum_nil]
  omega
theorem preF_len (tag : Int) (ps : List (List UInt8)) (n : Nat) : ∀ k, k ≤ ps.length → (preF tag ps n k).length = lenF ps k
  | 0, _ => rfl
  | k + 1, h => by
    rw [preF_succ tag ps n (by omega), lenF_succ ps (by omega), List.length_append, List.length_append, bigF_len, preF_len tag ps n k (by omega)]
    omega
theorem lenF_mono (ps : List (List UInt8)) {k m : Nat} (h : k ≤ m) (hm : m ≤ ps.length) : lenF ps k ≤ lenF ps m := by
  induction m with
  | zero =>
    have : k = 0 := by omega
    subst this
    exact Nat.le_refl _
  | succ m ih =>
    rcases Nat.lt_or_ge k (m + 1) with h1 | h1
    · have := ih (by omega) (by omega)
      rw [lenF_succ ps (by omega)]
      omega
    · have : k = m + 1 := by omega
      subst this
      exact Nat.le_refl _
end Go.Proofs.YtphaholcndhonaaDoor
namespace Go.Proofs.YtphaholcndhonaaDoor
open Go Go.RowKit Go.Proofs.YtphaholcndhonaaDoor.Ab

theorem lsGet (ps : List (List UInt8)) {k : Nat} (h : k < ps.length) : (List.map (fun p => [eBytes p]) ps).getD k [] = [eBytes (ps.getD k [])] := by
  simp [List.getD, h]
theorem eC_app3 (a b c : List UInt8) : eCells a ++ eCells b ++ eCells c = eCells (a ++ b ++ c) := by
  rw [eCells_append, eCells_append]
set_option maxRecDepth 10000 in
theorem frame_fn (tag : Int) (ps : List (List UInt8)) (hn : ps.length ≤ 4611686018427387904) (hl : lenF ps ps.length ≤ 1000000000000) : FnD Tryd.prog 176 [.one (.e (eI tag)), .one (.e (eLists ps))] (.one (.e (eBytes (frB tag ps)))) := by
  refine fn_intro (T := tab) tOk Tryd.func176 rfl (by kernel_rfl) (by simp [Tryd.ntmps176]) ?_
  intro X hX
  have hnt : X.nt = 29 := hX
  clear hX
  repeat' (first | refine tr_seq ?_ | refine reg (T := tab) tOk hnt rfl ?_ ?_ | refine regD (T := tab) tOk mixedR hnt rfl (by decide +kernel) ?_ ?_ | refine tr_block ?_ | refine tr_skip ?_)
  · (dsimp only [AllP]; (repeat' first | exact trivial | assumption | exact Nat.le_of_ble_eq_true rfl | apply And.intro | intro _ | exact rfl))
  · (dsimp only [AllP]; (repeat' first | exact trivial | assumption | exact Nat.le_of_ble_eq_true rfl | apply And.intro | intro _ | exact rfl))
  · (dsimp only [AllP]; (repeat' first | exact trivial | assumption | exact Nat.le_of_ble_eq_true rfl | apply And.intro | intro _ | exact rfl))
  have hb0 : [IntKind.u8.wrap tag, IntKind.u8.wrap (ps.length : Int)].map (fun z => [E.v (.int .u8 z)]) = eCells (preF tag ps ps.length 0) := by
    unfold preF
    rw [List.take_zero, byteI0, byteI0, u64I_nat (by omega)]
    rfl
  refine tr_loop (σ := Nat) (fun k => St.of [(5, .one (.own 13 0)), (14, .one (.e (eLists ps))), (15, .v (.int .i64 ps.length)), (16, .v (.int .i64 k))] [(13, ⟨0, .row 1 (eCells (preF tag ps ps.length k)), 0⟩)]) (fun k => k ≤ ps.length) (fun k => ps.length - k) 0 (le_of (ad := []) ⟨⟨rfl, rfl, rfl, rfl⟩, rfl, ?_, rfl, trivial⟩ (memOk_row rfl rfl ?_ trivial)) (Nat.zero_le _) ?_
  · exact congrArg (fun z : Nat => E.v (.int .i64 (z : Int))) (List.length_map ..)
  · refine Eq.trans ?_ hb0
    rw [List.length_map]
    rfl
  intro k hk
  repeat' (first | refine tr_seq ?_ | refine tr_block ?_ | refine tr_skip ?_)
  refine reg (T := tab) tOk hnt rfl ?_ ?_
  · (dsimp only [AllP]; (repeat' first | exact trivial | assumption | exact Nat.le_of_ble_eq_true rfl | apply And.intro | intro _ | exact rfl))
  repeat' (first | refine tr_seq ?_ | refine tr_block ?_ | refine tr_skip ?_)
  refine tr_cond rfl (fun hc => ?_) (fun hc => ?_)
  · have hc := of_decide_eq_true hc
    have hkl : k < ps.length := by omega
    repeat' (first | refine tr_seq ?_ | refine tr_block ?_ | refine tr_skip ?_)
    refine reg (T := tab) tOk hnt rfl ?_ ?_
    · dsimp only [AllP]
      rw [Int.toNat_natCast, lsGet ps hkl]
      have hL : (k : Int) < ((List.map (fun p => [eBytes p]) ps).length : Int) := by rw [List.length_map]; omega
      exact ⟨trivial, ⟨Nat.zero_lt_one, rfl⟩, Int.natCast_nonneg _, hL, rfl⟩
    rw [Int.toNat_natCast, lsGet ps hkl]
    have hs := preF_succ tag ps ps.length hkl
    have hf : FnD Tryd.prog 192 [.one (.e (eI (((eCells (ps.getD k [])).length : Nat) : Int)))] (.one (.e (eBytes (bigF (ps.getD k []).length 4)))) := by
      have := four_fn ((ps.getD k []).length : Int)
      rw [u64I_nat (by have := lenF_mono ps (k := k + 1) (m := ps.length) (by omega) (Nat.le_refl _); rw [lenF_succ ps hkl] at this; omega)] at this
      rw [eCells_length]
      exact this
    have hm := lenF_mono ps (k := k + 1) (m := ps.length) hkl (Nat.le_refl _)
    have hpl := preF_len tag ps ps.length k hk
    rw [lenF_succ ps hkl] at hm
    generalize ps.getD k [] = p at *
    repeat' (first | refine tr_seq ?_ | refine tr_block ?_ | refine tr_skip ?_)
    refine tr_region (lex (T := tab) tOk hnt rfl ?_ (call rfl rfl rfl rfl rfl rfl rfl hnt hf (lex (T := tab) tOk hnt rfl ?_ (Lex.nil _)))) ?_
    · exact ⟨trivial, trivial, trivial⟩
    · show AllP [True, (∀ cs ∈ eCells p, cs.length = 1) ∧ (eCells (preF tag ps ps.length k) ++ eCells (bigF p.length 4)).length + (eCells p).length ≤ maxLen ∧ ((eCells (preF tag ps ps.length k) ++ eCells (bigF p.length 4)).length + (eCells p).length) * 1 ≤ 140737488355328, True, (∀ cs ∈ eCells (bigF p.length 4), cs.length = 1) ∧ (eCells (preF tag ps ps.length k)).length + (eCells (bigF p.length 4)).length ≤ maxLen ∧ ((eCells (preF tag ps ps.length k)).length + (eCells (bigF p.length 4)).length) * 1 ≤ 140737488355328]
      rw [List.length_append, eCells_length, eCells_length, eCells_length, hpl, bigF_len, maxLen]
      exact ⟨trivial, ⟨eCells_len1 _, by omega, by omega⟩, trivial, eCells_len1 _, by omega, by omega⟩
    refine tr_le (s' := St.of [(5, .one (.own 13 0)), (14, .one (.e (eLists ps))), (15, .v (.int .i64 ps.length)), (16, .v (.int .i64 k))] [(13, ⟨0, .row 1 (eCells (preF tag ps ps.length (k + 1))), 0⟩)]) (le_of (ad := []) ⟨⟨rfl, rfl, rfl, rfl⟩, rfl, rfl, rfl, trivial⟩ (memOk_row rfl rfl ?_ trivial)) ?_
    · rw [hs]
      exact eC_app3 ..
    repeat' (first | refine tr_seq ?_ | refine tr_block ?_ | refine tr_skip ?_)
    refine reg (T := tab) tOk hnt rfl ?_ ?_
    · (dsimp only [AllP]; (repeat' first | exact trivial | assumption | exact Nat.le_of_ble_eq_true rfl | apply And.intro | intro _ | exact rfl))
    exact ⟨k + 1, hkl, by omega, le_of (ad := []) ⟨⟨rfl, rfl, rfl, rfl⟩, rfl, rfl, congrArg (fun z : Int => E.v (.int .i64 z)) (wrap64_id (by omega) (by omega)), trivial⟩ (memOk_row rfl rfl rfl trivial)⟩
  have hc := of_decide_eq_false hc
  have hk : k = ps.length := by omega
  subst hk
  refine tr_exit ?_
  repeat' (first | refine tr_seq ?_ | refine reg (T := tab) tOk hnt rfl ?_ ?_ | refine regD (T := tab) tOk mixedR hnt rfl (by decide +kernel) ?_ ?_ | refine tr_block ?_ | refine tr_skip ?_)
  · (dsimp only [AllP]; (repeat' first | exact trivial | assumption | exact Nat.le_of_ble_eq_true rfl | apply And.intro | intro _ | exact rfl))
  refine tr_ret ⟨.inr rfl, _, _, rfl, trivial, rfl⟩
end Go.Proofs.YtphaholcndhonaaDoor
namespace Go.Proofs.YtphaholcndhonaaDoor
open Go Go.RowKit Go.Proofs.YtphaholcndhonaaDoor.Ab

/-- bytes and a number -/
def rBE (r : List UInt8 × Int) : D := .tup [(false, .es [eBytes r.1]), (false, .es [eI r.2])]
def frameF (tag : Int) (ps : List (List UInt8)) : List UInt8 × Int :=
  if tag < 1 ∨ 9 < tag then ([], 6) else if 8 < ps.length then ([], 1) else if 16777216 < lenF ps ps.length then ([], 1) else (frB tag ps, 0)
theorem lenF_bound (ps : List (List UInt8)) {k : Nat} (h : k < ps.length) : (ps.getD k []).length < lenF ps ps.length := by
  have := lenF_mono ps (k := k + 1) (m := ps.length) h (Nat.le_refl _)
  rw [lenF_succ ps h] at this
  omega
theorem ltOr (tag : Int) : (bif decide (tag < 1) then true else decide (9 < tag)) = decide (tag < 1 ∨ 9 < tag) := by
  by_cases h : tag < 1 <;> simp [h]
theorem lenF_zero (ps : List (List UInt8)) : lenF ps 0 ≤ 2 + 0 * 16777220 := by
  rw [Nat.zero_mul]
  exact Nat.le_refl 2
set_option maxRecDepth 10000 in
theorem Frame_fn (tag : Int) (ps : List (List UInt8)) : FnD Tryd.prog 163 [.one (.e (eI tag)), .one (.e (eLists ps))] (rBE (frameF tag ps)) := by
  refine fn_intro (T := tab) tOk Tryd.func163 rfl (by kernel_rfl) (by simp [Tryd.ntmps163]) ?_
  intro X hX
  have hnt : X.nt = 38 := hX
  clear hX
  repeat' (first | refine tr_seq ?_ | refine reg (T := tab) tOk hnt rfl ?_ ?_ | refine regD (T := tab) tOk mixedR hnt rfl (by decide +kernel) ?_ ?_ | refine tr_block ?_ | refine tr_skip ?_)
  · (dsimp only [AllP]; (repeat' first | exact trivial | assumption | exact Nat.le_of_ble_eq_true rfl | apply And.intro | intro _ | exact rfl))
  · (dsimp only [AllP]; (repeat' first | exact trivial | assumption | exact Nat.le_of_ble_eq_true rfl | apply And.intro | intro _ | exact rfl))
  refine tr_cond rfl (fun hc => ?_) (fun hc => ?_)
  · have hc := of_decide_eq_true ((ltOr tag).symm.trans hc)
    repeat' (first | refine tr_seq ?_ | refine reg (T := tab) tOk hnt rfl ?_ ?_ | refine regD (T := tab) tOk mixedR hnt rfl (by decide +kernel) ?_ ?_ | refine tr_block ?_ | refine tr_skip ?_)
    · (dsimp only [AllP]; (repeat' first | exact trivial | assumption | exact Nat.le_of_ble_eq_true rfl | apply And.intro | intro _ | exact rfl))
    refine tr_ret ⟨.inr rfl, _, _, rfl, trivial, ?_⟩
    rw [frameF, if_pos hc]
    rfl
  have hc := of_decide_eq_false ((ltOr tag).symm.trans hc)
  have hr : frameF tag ps = if 8 < ps.length then ([], 1) else if 16777216 < lenF ps ps.length then ([], 1) else (frB tag ps, 0) := by rw [frameF, if_neg hc]
  rw [hr]
  clear hr hc
  repeat' (first | refine tr_seq ?_ | refine reg (T := tab) tOk hnt rfl ?_ ?_ | refine regD (T := tab) tOk mixedR hnt rfl (by decide +kernel) ?_ ?_ | refine tr_block ?_ | refine tr_skip ?_)
  · (dsimp only [AllP]; (repeat' first | exact trivial | assumption | exact Nat.le_of_ble_eq_true rfl | apply And.intro | intro _ | exact rfl))
  have hll : (List.map (fun p => [eBytes p]) ps).length = ps.length := List.length_map ..
  refine tr_cond rfl (fun hc => ?_) (fun hc => ?_)
  · have hc := of_decide_eq_true hc
    repeat' (first | refine tr_seq ?_ | refine reg (T := tab) tOk hnt rfl ?_ ?_ | refine regD (T := tab) tOk mixedR hnt rfl (by decide +kernel) ?_ ?_ | refine tr_block ?_ | refine tr_skip ?_)
    · (dsimp only [AllP]; (repeat' first | exact trivial | assumption | exact Nat.le_of_ble_eq_true rfl | apply And.intro | intro _ | exact rfl))
    refine tr_ret ⟨.inr rfl, _, _, rfl, trivial, ?_⟩
    rw [if_pos (by omega)]
    rfl
  have hc := of_decide_eq_false hc
  have h8 : ps.length ≤ 8 := by omega
  rw [if_neg (by omega)]
  clear hc
  repeat' (first | refine tr_seq ?_ | refine reg (T := tab) tOk hnt rfl ?_ ?_ | refine regD (T := tab) tOk mixedR hnt rfl (by decide +kernel) ?_ ?_ | refine tr_block ?_ | refine tr_skip ?_)
  · (dsimp only [AllP]; (repeat' first | exact trivial | assumption | exact Nat.le_of_ble_eq_true rfl | apply And.intro | intro _ | exact rfl))
  · (dsimp only [AllP]; (repeat' first | exact trivial | assumption | exact Nat.le_of_ble_eq_true rfl | apply And.intro | intro _ | exact rfl))
  refine tr_loop (σ := Nat) (fun k => St.of [(0, .one (.e (eI tag))), (1, .one (.e (eLists ps))), (6, .v (.int .i64 (lenF ps k))), (18, .one (.e (eLists ps))), (19, .v (.int .i64 ps.length)), (20, .v (.int .i64 k))] []) (fun k => k ≤ ps.length ∧ lenF ps k ≤ 2 + k * 16777220) (fun k => ps.length - k) 0 (le_of (ad := []) ⟨rfl, rfl, rfl, rfl, congrArg (fun z : Nat => E.v (.int .i64 (z : Int))) hll, rfl, trivial⟩ trivial) ⟨Nat.zero_le _, lenF_zero ps⟩ ?_
  rintro k ⟨hk, hlk⟩
  repeat' (first | refine tr_seq ?_ | refine tr_block ?_ | refine tr_skip ?_)
  refine reg (T := tab) tOk hnt rfl ?_ ?_
  · (dsimp only [AllP]; (repeat' first | exact trivial | assumption | exact Nat.le_of_ble_eq_true rfl | apply And.intro | intro _ | exact rfl))
  repeat' (first | refine tr_seq ?_ | refine tr_block ?_ | refine tr_skip ?_)
  refine tr_cond rfl (fun hc => ?_) (fun hc => ?_)
  · have hc := of_decide_eq_true hc
    have hkl : k < ps.length := by omega
    repeat' (first | refine tr_seq ?_ | refine tr_block ?_ | refine tr_skip ?_)
    refine reg (T := tab) tOk hnt rfl ?_ ?_
    · dsimp only [AllP]
      rw [Int.toNat_natCast, lsGet ps hkl]
      have hL : (k : Int) < ((List.map (fun p => [eBytes p]) ps).length : Int) := by omega
      exact ⟨trivial, ⟨Nat.zero_lt_one, rfl⟩, Int.natCast_nonneg _, hL, rfl⟩
    rw [Int.toNat_natCast, lsGet ps hkl]
    have hm := lenF_bound ps hkl
    have hs := lenF_succ ps hkl
    generalize ps.getD k [] = p at *
    repeat' (first | refine tr_seq ?_ | refine reg (T := tab) tOk hnt rfl ?_ ?_ | refine regD (T := tab) tOk mixedR hnt rfl (by decide +kernel) ?_ ?_ | refine tr_block ?_ | refine tr_skip ?_)
    · (dsimp only [AllP]; (repeat' first | exact trivial | assumption | exact Nat.le_of_ble_eq_true rfl | apply And.intro | intro _ | exact rfl))
    have hpl : (eCells p).length = p.length := eCells_length p
    refine tr_cond rfl (fun hc => ?_) (fun hc => ?_)
    · have hc : (16777216 : Int) < ((eCells p).length : Int) := of_decide_eq_true hc
      repeat' (first | refine tr_seq ?_ | refine reg (T := tab) tOk hnt rfl ?_ ?_ | refine regD (T := tab) tOk mixedR hnt rfl (by decide +kernel) ?_ ?_ | refine tr_block ?_ | refine tr_skip ?_)
      · (dsimp only [AllP]; (repeat' first | exact trivial | assumption | exact Nat.le_of_ble_eq_true rfl | apply And.intro | intro _ | exact rfl))
      refine tr_ret ⟨.inr rfl, _, _, rfl, trivial, ?_⟩
      rw [if_pos (by omega)]
      rfl
    have hc : ¬ (16777216 : Int) < ((eCells p).length : Int) := of_decide_eq_false hc
    repeat' (first | refine tr_seq ?_ | refine reg (T := tab) tOk hnt rfl ?_ ?_ | refine regD (T := tab) tOk mixedR hnt rfl (by decide +kernel) ?_ ?_ | refine tr_block ?_ | refine tr_skip ?_)
    · (dsimp only [AllP]; (repeat' first | exact trivial | assumption | exact Nat.le_of_ble_eq_true rfl | apply And.intro | intro _ | exact rfl))
    · (dsimp only [AllP]; (repeat' first | exact trivial | assumption | exact Nat.le_of_ble_eq_true rfl | apply And.intro | intro _ | exact rfl))
    refine ⟨k + 1, ⟨hkl, by omega⟩, by omega, le_of (ad := []) ⟨rfl, rfl, ?_, rfl, rfl, congrArg (fun z : Int => E.v (.int .i64 z)) (wrap64_id (by omega) (by omega)), trivial⟩ trivial⟩
    refine congrArg (fun z : Int => E.v (.int .i64 z)) ?_
    show IntKind.i64.wrap ((lenF ps k : Int) + IntKind.i64.wrap (4 + ((eCells p).length : Int))) = _
    rw [hpl, wrap64_id (n := 4 + (p.length : Int)) (by omega) (by omega), wrap64_id (by omega) (by omega), hs]
    omega
  have hc := of_decide_eq_false hc
  have hk : k = ps.length := by omega
  subst hk
  refine tr_exit ?_
  repeat' (first | refine tr_seq ?_ | refine reg (T := tab) tOk hnt rfl ?_ ?_ | refine regD (T := tab) tOk mixedR hnt rfl (by decide +kernel) ?_ ?_ | refine tr_block ?_ | refine tr_skip ?_)
  · (dsimp only [AllP]; (repeat' first | exact trivial | assumption | exact Nat.le_of_ble_eq_true rfl | apply And.intro | intro _ | exact rfl))
  refine tr_cond rfl (fun hc => ?_) (fun hc => ?_)
  · have hc := of_decide_eq_true hc
    repeat' (first | refine tr_seq ?_ | refine reg (T := tab) tOk hnt rfl ?_ ?_ | refine regD (T := tab) tOk mixedR hnt rfl (by decide +kernel) ?_ ?_ | refine tr_block ?_ | refine tr_skip ?_)
    · (dsimp only [AllP]; (repeat' first | exact trivial | assumption | exact Nat.le_of_ble_eq_true rfl | apply And.intro | intro _ | exact rfl))
    refine tr_ret ⟨.inr rfl, _, _, rfl, trivial, ?_⟩
    rw [if_pos (by omega)]
    rfl
  have hc := of_decide_eq_false hc
  rw [if_neg (by omega)]
  repeat' (first | refine tr_seq ?_ | refine tr_block ?_ | refine tr_skip ?_)
  refine tr_region (lex (T := tab) tOk hnt rfl ?_ (call rfl rfl rfl rfl rfl rfl rfl hnt (frame_fn tag ps (by omega) (by omega)) (lex (T := tab) tOk hnt rfl ?_ (Lex.nil _)))) ?_
  · exact ⟨trivial, trivial⟩
  · (dsimp only [AllP]; (repeat' first | exact trivial | assumption | exact Nat.le_of_ble_eq_true rfl | apply And.intro | intro _ | exact rfl))
  repeat' (first | refine tr_seq ?_ | refine tr_block ?_ | refine tr_skip ?_)
  refine tr_ret ⟨.inr rfl, _, _, rfl, trivial, rfl⟩
end Go.Proofs.YtphaholcndhonaaDoor
