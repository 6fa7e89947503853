/- Package chirographref: frames of parts. No condition. -/
import Derived.Test.YtphaholcndhonaaDoorTOrA
namespace Go.Proofs.YtphaholcndhonaaDoor
open Go Go.RowKit Go.Proofs.YtphaholcndhonaaDoor.Ab

theorem lenF_mono4 (ps : List (List UInt8)) {k : Nat} : ∀ m, k ≤ m → m ≤ ps.length → lenF ps k + 4 * (m - k) ≤ lenF ps m
  | 0, h, _ => by
    have : k = 0 := by omega
    subst this
    exact Nat.le_refl _
  | m + 1, h, hm => by
    rcases Nat.lt_or_ge k (m + 1) with h1 | h1
    · have := lenF_mono4 ps (k := k) m (by omega) (by omega)
      rw [lenF_succ ps (k := m) (by omega)]
      omega
    · have : k = m + 1 := by omega
      subst this
      omega
theorem u64_nat {n : Nat} (h : n < 18446744073709551616) : IntKind.u64.wrap (n : Int) = (n : Int) := by
  unfold IntKind.wrap
  simp [IntKind.bits, IntKind.signed]
  omega
set_option maxRecDepth 10000 in
theorem framed_fn (tag : Int) (ps : List (List UInt8)) (hn : ps.length ≤ 4611686018427387904) (hl : lenF ps ps.length ≤ 1000000000000) : FnD Tryd.prog 165 [.one (.e (eI tag)), .one (.e (eLists ps))] (.v (.string (strB (frB tag ps)))) := by
  refine fn_intro (T := tab) tOk Tryd.func165 rfl (by kernel_rfl) (by simp [Tryd.ntmps165]) ?_
  intro X hX
  have hnt : X.nt = 32 := hX
  clear hX
  have hb0 : [[E.v (Value.int IntKind.u8 (IntKind.u8.wrap tag))], [E.v (Value.int IntKind.u8 (IntKind.u8.wrap (ps.length : Int)))]] = eCells (preF tag ps ps.length 0) := by
    unfold preF
    rw [List.take_zero, byteI0, byteI0, u64I_nat (by omega)]
    rfl
  have hll : (List.map (fun p => [eBytes p]) ps).length = ps.length := List.length_map ..
  repeat' (first | refine tr_seq ?_ | refine tr_block ?_ | refine tr_skip ?_)
  refine reg (T := tab) tOk hnt rfl (by (dsimp only [AllP]; (repeat' first | exact trivial | assumption | exact Nat.le_of_ble_eq_true rfl | apply And.intro | intro _ | exact rfl))) ?_
  repeat' (first | refine tr_seq ?_ | refine tr_block ?_ | refine tr_skip ?_)
  refine reg (T := tab) tOk hnt rfl ?_ ?_
  · dsimp only [AllP]
    rw [hll, hb0]
    exact ⟨trivial, eCells_isByte _, ⟨⟨rfl, rfl, trivial⟩, by decide, by decide⟩, trivial, trivial, trivial, trivial, trivial⟩
  rw [hll, hb0, strB_of]
  repeat' (first | refine tr_seq ?_ | refine reg (T := tab) tOk hnt rfl ?_ ?_ | refine regD (T := tab) tOk mixedR hnt rfl (by decide +kernel) ?_ ?_ | refine tr_block ?_ | refine tr_skip ?_)
  · (dsimp only [AllP]; (repeat' first | exact trivial | assumption | exact Nat.le_of_ble_eq_true rfl | apply And.intro | intro _ | exact rfl))
  refine tr_loop (σ := Nat) (fun k => St.of [(5, .v (.string (strB (preF tag ps ps.length k)))), (15, .one (.e (eLists ps))), (16, .v (.int .i64 ps.length)), (17, .v (.int .i64 k))] []) (fun k => k ≤ ps.length) (fun k => ps.length - k) 0 (le_of (ad := []) ⟨rfl, rfl, congrArg (fun z : Nat => E.v (.int .i64 (z : Int))) hll, rfl, trivial⟩ trivial) (Nat.zero_le _) ?_
  intro k hk
  repeat' (first | refine tr_seq ?_ | refine tr_block ?_ | refine tr_skip ?_)
  refine reg (T := tab) tOk hnt rfl ?_ ?_
  · (dsimp only [AllP]; (repeat' first | exact trivial | assumption | exact Nat.le_of_ble_eq_true rfl | apply And.intro | intro _ | exact rfl))
  repeat' (first | refine tr_seq ?_ | refine tr_block ?_ | refine tr_skip ?_)
  refine tr_cond rfl (fun hc => ?_) (fun hc => ?_)
  · have hc := of_decide_eq_true hc
    have hkl : k < ps.length := by omega
    repeat' (first | refine tr_seq ?_ | refine tr_block ?_ | refine tr_skip ?_)
    refine reg (T := tab) tOk hnt rfl ?_ ?_
    · dsimp only [AllP]
      rw [Int.toNat_natCast, lsGet ps hkl]
      have hL : (k : Int) < ((List.map (fun p => [eBytes p]) ps).length : Int) := by omega
      exact ⟨trivial, ⟨Nat.zero_lt_one, rfl⟩, Int.natCast_nonneg _, hL, rfl⟩
    rw [Int.toNat_natCast, lsGet ps hkl]
    have hs := preF_succ tag ps ps.length hkl
    have hm := lenF_mono ps (k := k + 1) (m := ps.length) hkl (Nat.le_refl _)
    have hpl := preF_len tag ps ps.length k hk
    rw [lenF_succ ps hkl] at hm
    generalize ps.getD k [] = p at *
    have hf : FnD Tryd.prog 133 [.v (.int .u64 (IntKind.u64.wrap (((eCells p).length : Nat) : Int))), .one (.e (eI 4))] (.v (.string (strB (bigF p.length 4)))) := by
      rw [eCells_length, u64_nat (by omega)]
      exact big_fn p.length 4 (by decide)
    repeat' (first | refine tr_seq ?_ | refine tr_block ?_ | refine tr_skip ?_)
    refine tr_draw (T := tab) tOk hnt mixedR (lexD (T := tab) rfl ?_ (callD rfl rfl rfl rfl rfl rfl rfl rfl hf (lexD (T := tab) rfl ?_ (.nil _)))) (by decide +kernel) ?_
    · exact ⟨trivial, trivial, trivial, trivial⟩
    · show AllP [True, (strB (preF tag ps ps.length k)).size + ((strB (bigF p.length 4)) ++ bytesOf (eCells p)).size ≤ maxLen, (strB (bigF p.length 4)).size + (bytesOf (eCells p)).size ≤ maxLen, ∀ cs ∈ eCells p, isByte cs, True]
      rw [strB_of, strB_app, strB_size, strB_size, strB_size, strB_size, List.length_append, hpl, bigF_len, maxLen]
      exact ⟨trivial, by omega, by omega, eCells_isByte _, trivial⟩
    refine tr_le (s' := St.of [(5, .v (.string (strB (preF tag ps ps.length (k + 1))))), (15, .one (.e (eLists ps))), (16, .v (.int .i64 ps.length)), (17, .v (.int .i64 k))] []) (le_of (ad := []) ⟨?_, rfl, rfl, rfl, trivial⟩ trivial) ?_
    · refine congrArg (fun z => E.v (.string z)) ?_
      rw [hs]
      show strB _ ++ (strB _ ++ bytesOf (eCells p)) = _
      rw [strB_of, strB_app, strB_app, List.append_assoc]
    repeat' (first | refine tr_seq ?_ | refine tr_block ?_ | refine tr_skip ?_)
    refine reg (T := tab) tOk hnt rfl ?_ ?_
    · (dsimp only [AllP]; (repeat' first | exact trivial | assumption | exact Nat.le_of_ble_eq_true rfl | apply And.intro | intro _ | exact rfl))
    exact ⟨k + 1, hkl, by omega, le_of (ad := []) ⟨rfl, rfl, rfl, congrArg (fun z : Int => E.v (.int .i64 z)) (wrap64_id (by omega) (by omega)), trivial⟩ trivial⟩
  have hc := of_decide_eq_false hc
  have hk : k = ps.length := by omega
  subst hk
  refine tr_exit ?_
  repeat' (first | refine tr_seq ?_ | refine reg (T := tab) tOk hnt rfl ?_ ?_ | refine regD (T := tab) tOk mixedR hnt rfl (by decide +kernel) ?_ ?_ | refine tr_block ?_ | refine tr_skip ?_)
  · (dsimp only [AllP]; (repeat' first | exact trivial | assumption | exact Nat.le_of_ble_eq_true rfl | apply And.intro | intro _ | exact rfl))
  refine tr_ret ⟨.inr rfl, _, _, rfl, trivial, rfl⟩
set_option maxRecDepth 10000 in
theorem FrameOf_fn (tag : Int) (ps : List (List UInt8)) : FnD Tryd.prog 136 [.one (.e (eI tag)), .one (.e (eLists ps))] (rBE (frameF tag ps)) := by
  refine fn_intro (T := tab) tOk Tryd.func136 rfl (by kernel_rfl) (by simp [Tryd.ntmps136]) ?_
  intro X hX
  have hnt : X.nt = 41 := hX
  clear hX
  repeat' (first | refine tr_seq ?_ | refine reg (T := tab) tOk hnt rfl ?_ ?_ | refine regD (T := tab) tOk mixedR hnt rfl (by decide +kernel) ?_ ?_ | refine tr_block ?_ | refine tr_skip ?_)
  · (dsimp only [AllP]; (repeat' first | exact trivial | assumption | exact Nat.le_of_ble_eq_true rfl | apply And.intro | intro _ | exact rfl))
  · (dsimp only [AllP]; (repeat' first | exact trivial | assumption | exact Nat.le_of_ble_eq_true rfl | apply And.intro | intro _ | exact rfl))
  refine tr_cond rfl (fun hc => ?_) (fun hc => ?_)
  · have hc := of_decide_eq_true ((ltOr tag).symm.trans hc)
    repeat' (first | refine tr_seq ?_ | refine reg (T := tab) tOk hnt rfl ?_ ?_ | refine regD (T := tab) tOk mixedR hnt rfl (by decide +kernel) ?_ ?_ | refine tr_block ?_ | refine tr_skip ?_)
    · (dsimp only [AllP]; (repeat' first | exact trivial | assumption | exact Nat.le_of_ble_eq_true rfl | apply And.intro | intro _ | exact rfl))
    refine tr_ret ⟨.inr rfl, _, _, rfl, trivial, ?_⟩
    rw [frameF, if_pos hc]
    rfl
  have hc := of_decide_eq_false ((ltOr tag).symm.trans hc)
  have hr : frameF tag ps = if 8 < ps.length then ([], 1) else if 16777216 < lenF ps ps.length then ([], 1) else (frB tag ps, 0) := by rw [frameF, if_neg hc]
  rw [hr]
  clear hr hc
  repeat' (first | refine tr_seq ?_ | refine reg (T := tab) tOk hnt rfl ?_ ?_ | refine regD (T := tab) tOk mixedR hnt rfl (by decide +kernel) ?_ ?_ | refine tr_block ?_ | refine tr_skip ?_)
  · (dsimp only [AllP]; (repeat' first | exact trivial | assumption | exact Nat.le_of_ble_eq_true rfl | apply And.intro | intro _ | exact rfl))
  have hll : (List.map (fun p => [eBytes p]) ps).length = ps.length := List.length_map ..
  refine tr_cond rfl (fun hc => ?_) (fun hc => ?_)
  · have hc := of_decide_eq_true hc
    repeat' (first | refine tr_seq ?_ | refine reg (T := tab) tOk hnt rfl ?_ ?_ | refine regD (T := tab) tOk mixedR hnt rfl (by decide +kernel) ?_ ?_ | refine tr_block ?_ | refine tr_skip ?_)
    · (dsimp only [AllP]; (repeat' first | exact trivial | assumption | exact Nat.le_of_ble_eq_true rfl | apply And.intro | intro _ | exact rfl))
    refine tr_ret ⟨.inr rfl, _, _, rfl, trivial, ?_⟩
    rw [if_pos (by omega)]
    rfl
  have hc := of_decide_eq_false hc
  have h8 : ps.length ≤ 8 := by omega
  rw [if_neg (by omega)]
  clear hc
  repeat' (first | refine tr_seq ?_ | refine reg (T := tab) tOk hnt rfl ?_ ?_ | refine regD (T := tab) tOk mixedR hnt rfl (by decide +kernel) ?_ ?_ | refine tr_block ?_ | refine tr_skip ?_)
  · (dsimp only [AllP]; (repeat' first | exact trivial | assumption | exact Nat.le_of_ble_eq_true rfl | apply And.intro | intro _ | exact rfl))
  · (dsimp only [AllP]; (repeat' first | exact trivial | assumption | exact Nat.le_of_ble_eq_true rfl | apply And.intro | intro _ | exact rfl))
  refine tr_loop (σ := Nat) (fun k => St.of [(0, .one (.e (eI tag))), (1, .one (.e (eLists ps))), (6, .v (.int .i64 (16777216 + 4 * (k : Int) - 4 * (ps.length : Int) - (lenF ps k : Int)))), (22, .one (.e (eLists ps))), (23, .v (.int .i64 ps.length)), (24, .v (.int .i64 k))] []) (fun k => k ≤ ps.length ∧ (lenF ps k : Int) ≤ 16777216 + 4 * (k : Int) - 4 * (ps.length : Int)) (fun k => ps.length - k) 0 (le_of (ad := []) ⟨rfl, rfl, ?_, rfl, congrArg (fun z : Nat => E.v (.int .i64 (z : Int))) hll, rfl, trivial⟩ trivial) ⟨Nat.zero_le _, ?_⟩ ?_
  · refine congrArg (fun z : Int => E.v (.int .i64 z)) ?_
    have hz : lenF ps 0 = 2 := rfl
    rw [hll, hz, wrap64_id (n := 4 * (ps.length : Int)) (by omega) (by omega), wrap64_id (by omega) (by omega)]
    omega
  · have hz : lenF ps 0 = 2 := rfl
    rw [hz]
    omega
  rintro k ⟨hk, hlk⟩
  repeat' (first | refine tr_seq ?_ | refine tr_block ?_ | refine tr_skip ?_)
  refine reg (T := tab) tOk hnt rfl ?_ ?_
  · (dsimp only [AllP]; (repeat' first | exact trivial | assumption | exact Nat.le_of_ble_eq_true rfl | apply And.intro | intro _ | exact rfl))
  repeat' (first | refine tr_seq ?_ | refine tr_block ?_ | refine tr_skip ?_)
  refine tr_cond rfl (fun hc => ?_) (fun hc => ?_)
  · have hc := of_decide_eq_true hc
    have hkl : k < ps.length := by omega
    repeat' (first | refine tr_seq ?_ | refine tr_block ?_ | refine tr_skip ?_)
    refine reg (T := tab) tOk hnt rfl ?_ ?_
    · dsimp only [AllP]
      rw [Int.toNat_natCast, lsGet ps hkl]
      have hL : (k : Int) < ((List.map (fun p => [eBytes p]) ps).length : Int) := by omega
      exact ⟨trivial, ⟨Nat.zero_lt_one, rfl⟩, Int.natCast_nonneg _, hL, rfl⟩
    rw [Int.toNat_natCast, lsGet ps hkl]
    have hm := lenF_mono4 ps (k := k + 1) ps.length hkl (Nat.le_refl _)
    have hs := lenF_succ ps hkl
    generalize ps.getD k [] = p at *
    repeat' (first | refine tr_seq ?_ | refine reg (T := tab) tOk hnt rfl ?_ ?_ | refine regD (T := tab) tOk mixedR hnt rfl (by decide +kernel) ?_ ?_ | refine tr_block ?_ | refine tr_skip ?_)
    · (dsimp only [AllP]; (repeat' first | exact trivial | assumption | exact Nat.le_of_ble_eq_true rfl | apply And.intro | intro _ | exact rfl))
    have hpl : (eCells p).length = p.length := eCells_length p
    refine tr_cond rfl (fun hc => ?_) (fun hc => ?_)
    · have hc : (16777216 + 4 * (k : Int) - 4 * (ps.length : Int) - (lenF ps k : Int)) < ((eCells p).length : Int) := of_decide_eq_true hc
      repeat' (first | refine tr_seq ?_ | refine reg (T := tab) tOk hnt rfl ?_ ?_ | refine regD (T := tab) tOk mixedR hnt rfl (by decide +kernel) ?_ ?_ | refine tr_block ?_ | refine tr_skip ?_)
      · (dsimp only [AllP]; (repeat' first | exact trivial | assumption | exact Nat.le_of_ble_eq_true rfl | apply And.intro | intro _ | exact rfl))
      refine tr_ret ⟨.inr rfl, _, _, rfl, trivial, ?_⟩
      rw [if_pos (by omega)]
      rfl
    have hc : ¬ (16777216 + 4 * (k : Int) - 4 * (ps.length : Int) - (lenF ps k : Int)) < ((eCells p).length : Int) := of_decide_eq_false hc
    repeat' (first | refine tr_seq ?_ | refine reg (T := tab) tOk hnt rfl ?_ ?_ | refine regD (T := tab) tOk mixedR hnt rfl (by decide +kernel) ?_ ?_ | refine tr_block ?_ | refine tr_skip ?_)
    · (dsimp only [AllP]; (repeat' first | exact trivial | assumption | exact Nat.le_of_ble_eq_true rfl | apply And.intro | intro _ | exact rfl))
    · (dsimp only [AllP]; (repeat' first | exact trivial | assumption | exact Nat.le_of_ble_eq_true rfl | apply And.intro | intro _ | exact rfl))
    refine ⟨k + 1, ⟨hkl, by omega⟩, by omega, le_of (ad := []) ⟨rfl, rfl, ?_, rfl, rfl, congrArg (fun z : Int => E.v (.int .i64 z)) (wrap64_id (by omega) (by omega)), trivial⟩ trivial⟩
    refine congrArg (fun z : Int => E.v (.int .i64 z)) ?_
    show IntKind.i64.wrap (16777216 + 4 * (k : Int) - 4 * (ps.length : Int) - (lenF ps k : Int) - ((eCells p).length : Int)) = _
    rw [hpl, wrap64_id (by omega) (by omega), hs]
    omega
  have hc := of_decide_eq_false hc
  have hk : k = ps.length := by omega
  subst hk
  refine tr_exit ?_
  rw [if_neg (by omega)]
  repeat' (first | refine tr_seq ?_ | refine tr_block ?_ | refine tr_skip ?_)
  refine tr_region (lex (T := tab) tOk hnt rfl ?_ (call rfl rfl rfl rfl rfl rfl rfl hnt (framed_fn tag ps (by omega) (by omega)) (lex (T := tab) tOk hnt rfl ?_ (Lex.nil _)))) ?_
  · exact ⟨trivial, trivial⟩
  · refine ⟨trivial, trivial, ?_⟩
    show (strB (frB tag ps)).size ≤ maxLen
    rw [strB_size, frB, preF_len tag ps ps.length ps.length hk, maxLen]
    omega
  repeat' (first | refine tr_seq ?_ | refine tr_block ?_ | refine tr_skip ?_)
  refine tr_ret ⟨.inr rfl, _, _, rfl, trivial, ?_⟩
  show joinR [D.one (D0.e (E.sl (strBytes (strB (frB tag ps))))), D.one (D0.e (E.v (Value.int IntKind.i64 0)))] = _
  rw [strBytes_B]
  rfl
end Go.Proofs.YtphaholcndhonaaDoor
namespace Go.Proofs.YtphaholcndhonaaDoor
open Go Go.RowKit Go.Proofs.YtphaholcndhonaaDoor.Ab

/-- a digest -/
def dgF (mode tag : Int) (ps : List (List UInt8)) : List UInt8 × Int :=
  if mode ≠ 1 ∧ mode ≠ 2 then ([], 2) else if (frameF tag ps).2 ≠ 0 ∨ mode = 2 then frameF tag ps else (sumF (frameF tag ps).1, 0)
/-- the same of cells -/
def rBE0 (l : List (List E)) (e : Int) : D := .tup [(false, .es [.sl l]), (false, .es [eI e])]
theorem neAnd (m : Int) : (bif (!decide (m = 1)) then (!decide (m = 2)) else false) = decide (m ≠ 1 ∧ m ≠ 2) := by
  by_cases h1 : m = 1 <;> by_cases h2 : m = 2 <;> simp [h1, h2]
theorem neOr (e m : Int) : (bif (!decide (e = 0)) then true else decide (m = 2)) = decide (e ≠ 0 ∨ m = 2) := by
  by_cases h1 : e = 0 <;> by_cases h2 : m = 2 <;> simp [h1, h2]
theorem eqAnd (e m : Int) : (bif decide (e = 0) then decide (m = 1) else false) = decide (e = 0 ∧ m = 1) := by
  by_cases h1 : e = 0 <;> by_cases h2 : m = 1 <;> simp [h1, h2]
theorem frameF_len (tag : Int) (ps : List (List UInt8)) : (frameF tag ps).1.length ≤ 16777216 := by
  unfold frameF
  split
  · exact Nat.zero_le _
  split
  · exact Nat.zero_le _
  split
  · exact Nat.zero_le _
  show (frB tag ps).length ≤ _
  rw [frB, preF_len tag ps ps.length ps.length (Nat.le_refl _)]
  omega
theorem sumF_len (b : List UInt8) : (sumF b).length = 32 := by simp [sumF, endF, outW_len]
theorem ch32 (l : List UInt8) (h : l.length = 32) : chunksE 1 32 (bE l) = eCells l := by
  apply List.ext_getElem
  · rw [chunksE_len, eCells_length, h]
  · intro i a b
    rw [chunksE_len] at a
    have hi : i < l.length := by omega
    have := (chunksE_get (List.getElem?_eq_getElem (l := chunksE 1 32 (bE l)) (i := i) (by rw [chunksE_len]; exact a))).2
    rw [this, Nat.mul_one]
    simp [bE, eCells, List.take_one, hi]
set_option maxRecDepth 10000 in
theorem badMode_fn (m : Int) : FnD Tryd.prog 31 [.one (.e (eI m))] (.v (.bool (decide (m ≠ 1 ∧ m ≠ 2)))) := by
  refine fn_intro (T := tab) tOk Tryd.func31 rfl (by kernel_rfl) (by simp [Tryd.ntmps31]) ?_
  intro X hX
  have hnt : X.nt = 9 := hX
  clear hX
  repeat' (first | refine tr_seq ?_ | refine reg (T := tab) tOk hnt rfl ?_ ?_ | refine regD (T := tab) tOk mixedR hnt rfl (by decide +kernel) ?_ ?_ | refine tr_block ?_ | refine tr_skip ?_)
  · (dsimp only [AllP]; (repeat' first | exact trivial | assumption | exact Nat.le_of_ble_eq_true rfl | apply And.intro | intro _ | exact rfl))
  · (dsimp only [AllP]; (repeat' first | exact trivial | assumption | exact Nat.le_of_ble_eq_true rfl | apply And.intro | intro _ | exact rfl))
  exact tr_ret ⟨.inr rfl, _, _, rfl, trivial, congrArg (fun z => D.v (.bool z)) (neAnd m)⟩
set_option maxRecDepth 10000 in
theorem Digest_fn (mode tag : Int) (ps : List (List UInt8)) : FnG Tryd.prog 135 gK [.one (.e (eI mode)), .one (.e (eI tag)), .one (.e (eLists ps))] (rBE (dgF mode tag ps)) := by
  refine fn_introG (T := tab) tOk Tryd.func135 rfl (by kernel_rfl) (by simp [Tryd.ntmps135]) ?_
  intro X hX
  have hnt : X.nt = 36 := hX
  clear hX
  repeat' (first | refine tr_seq ?_ | refine reg (T := tab) tOk hnt rfl ?_ ?_ | refine regD (T := tab) tOk mixedR hnt rfl (by decide +kernel) ?_ ?_ | refine tr_block ?_ | refine tr_skip ?_)
  · (dsimp only [AllP]; (repeat' first | exact trivial | assumption | exact Nat.le_of_ble_eq_true rfl | apply And.intro | intro _ | exact rfl))
  · (dsimp only [AllP]; (repeat' first | exact trivial | assumption | exact Nat.le_of_ble_eq_true rfl | apply And.intro | intro _ | exact rfl))
  refine tr_cond rfl (fun hc => ?_) (fun hc => ?_)
  · have hc := of_decide_eq_true ((neAnd mode).symm.trans hc)
    repeat' (first | refine tr_seq ?_ | refine reg (T := tab) tOk hnt rfl ?_ ?_ | refine regD (T := tab) tOk mixedR hnt rfl (by decide +kernel) ?_ ?_ | refine tr_block ?_ | refine tr_skip ?_)
    · (dsimp only [AllP]; (repeat' first | exact trivial | assumption | exact Nat.le_of_ble_eq_true rfl | apply And.intro | intro _ | exact rfl))
    refine tr_ret ⟨.inr rfl, _, _, rfl, trivial, ?_⟩
    rw [dgF, if_pos hc]
    rfl
  have hc := of_decide_eq_false ((neAnd mode).symm.trans hc)
  have hr : dgF mode tag ps = if (frameF tag ps).2 ≠ 0 ∨ mode = 2 then frameF tag ps else (sumF (frameF tag ps).1, 0) := by rw [dgF, if_neg hc]
  rw [hr]
  clear hr hc
  have hf := Frame_fn tag ps
  have hfl := frameF_len tag ps
  generalize frameF tag ps = r at hf hfl ⊢
  obtain ⟨b, e⟩ := r
  repeat' (first | refine tr_seq ?_ | refine tr_block ?_ | refine tr_skip ?_)
  refine tr_region (lex (T := tab) tOk hnt rfl ?_ (call rfl rfl rfl rfl rfl rfl rfl hnt hf (lex (T := tab) tOk hnt rfl ?_ (Lex.nil _)))) ?_
  · exact ⟨trivial, trivial⟩
  · (dsimp only [AllP]; (repeat' first | exact trivial | assumption | exact Nat.le_of_ble_eq_true rfl | apply And.intro | intro _ | exact rfl))
  repeat' (first | refine tr_seq ?_ | refine reg (T := tab) tOk hnt rfl ?_ ?_ | refine regD (T := tab) tOk mixedR hnt rfl (by decide +kernel) ?_ ?_ | refine tr_block ?_ | refine tr_skip ?_)
  · (dsimp only [AllP]; (repeat' first | exact trivial | assumption | exact Nat.le_of_ble_eq_true rfl | apply And.intro | intro _ | exact rfl))
  refine tr_cond rfl (fun hc => ?_) (fun hc => ?_)
  · have hc := of_decide_eq_true ((neOr e mode).symm.trans hc)
    repeat' (first | refine tr_seq ?_ | refine reg (T := tab) tOk hnt rfl ?_ ?_ | refine regD (T := tab) tOk mixedR hnt rfl (by decide +kernel) ?_ ?_ | refine tr_block ?_ | refine tr_skip ?_)
    · (dsimp only [AllP]; (repeat' first | exact trivial | assumption | exact Nat.le_of_ble_eq_true rfl | apply And.intro | intro _ | exact rfl))
    refine tr_ret ⟨.inr rfl, _, _, rfl, trivial, ?_⟩
    rw [if_pos hc]
    rfl
  have hc := of_decide_eq_false ((neOr e mode).symm.trans hc)
  rw [if_neg hc]
  clear hc
  dsimp only at hfl ⊢
  have hs := Sum_fn b (Nat.le_trans hfl (by decide))
  have ho := sumF_len b
  generalize sumF b = o at hs ho ⊢
  have hr : (bE o).length = 32 := by simp [bE, ho]
  repeat' (first | refine tr_seq ?_ | refine tr_block ?_ | refine tr_skip ?_)
  refine tr_region (lex (T := tab) tOk hnt rfl ?_ (callV rfl rfl rfl rfl rfl rfl rfl hnt rfl hs (lex (T := tab) tOk hnt rfl ?_ (Lex.nil _)))) ?_
  · exact trivial
  · refine ⟨⟨?_, Nat.le_of_ble_eq_true (by kernel_rfl), Nat.zero_le _⟩, trivial⟩
    exact hr
  refine tr_le (s' := St.of [(10, .one (.ptr 10 0 0))] [(10, ⟨0, .box (.es (bE o)), 0⟩)]) (le_of (ad := []) ⟨⟨rfl, rfl, rfl, rfl, rfl⟩, trivial⟩ (memOk_boxE rfl rfl (Eq.trans (b := List.take 0 (bE z32) ++ bE o ++ List.drop (0 + 32) (bE z32)) (by kernel_rfl) (put_all2 _ _ 32 rfl)) trivial)) ?_
  repeat' (first | refine tr_seq ?_ | refine tr_block ?_ | refine tr_skip ?_)
  first | refine reg (T := tab) tOk hnt rfl ?_ ?_ | refine regD (T := tab) tOk mixedR hnt rfl (by decide +kernel) ?_ ?_
  · have hch : (chunksE 1 (((32 : Nat) : Int) - 0).toNat (List.drop (0 + Int.toNat 0 * 1) (bE o))).length = 32 := by rw [show chunksE 1 (((32 : Nat) : Int) - 0).toNat (List.drop (0 + Int.toNat 0 * 1) (bE o)) = eCells o from ch32 o ho, eCells_length, ho]
    refine ⟨trivial, trivial, ⟨trivial, ?_, ?_⟩, ⟨by decide, by decide, by decide, by decide, Nat.le_of_eq hr.symm, by decide, by decide⟩, trivial, by decide, by decide⟩
    · exact Nat.le_trans (Nat.le_of_eq ((Nat.zero_add _).trans hch)) (by decide)
    · exact Nat.le_trans (Nat.le_of_eq ((Nat.mul_one _).trans ((Nat.zero_add _).trans hch))) (by decide)
  refine tr_ret ⟨.inr rfl, _, _, rfl, trivial, ?_⟩
  exact congrArg (fun z => rBE0 z 0) (ch32 o ho)
set_option maxRecDepth 10000 in
theorem DigestOf_fn (mode tag : Int) (ps : List (List UInt8)) : FnD Tryd.prog 78 [.one (.e (eI mode)), .one (.e (eI tag)), .one (.e (eLists ps))] (rBE (dgF mode tag ps)) := by
  refine fn_intro (T := tab) tOk Tryd.func78 rfl (by kernel_rfl) (by simp [Tryd.ntmps78]) ?_
  intro X hX
  have hnt : X.nt = 32 := hX
  clear hX
  repeat' (first | refine tr_seq ?_ | refine tr_block ?_ | refine tr_skip ?_)
  refine reg (T := tab) tOk hnt rfl (by (dsimp only [AllP]; (repeat' first | exact trivial | assumption | exact Nat.le_of_ble_eq_true rfl | apply And.intro | intro _ | exact rfl))) ?_
  repeat' (first | refine tr_seq ?_ | refine tr_block ?_ | refine tr_skip ?_)
  refine tr_region (lex (T := tab) tOk hnt rfl ?_ (call rfl rfl rfl rfl rfl rfl rfl hnt (badMode_fn mode) (lex (T := tab) tOk hnt rfl ?_ (Lex.nil _)))) ?_
  · exact trivial
  · exact trivial
  repeat' (first | refine tr_seq ?_ | refine tr_block ?_ | refine tr_skip ?_)
  refine tr_cond rfl (fun hc => ?_) (fun hc => ?_)
  · have hc := of_decide_eq_true hc
    repeat' (first | refine tr_seq ?_ | refine reg (T := tab) tOk hnt rfl ?_ ?_ | refine regD (T := tab) tOk mixedR hnt rfl (by decide +kernel) ?_ ?_ | refine tr_block ?_ | refine tr_skip ?_)
    · (dsimp only [AllP]; (repeat' first | exact trivial | assumption | exact Nat.le_of_ble_eq_true rfl | apply And.intro | intro _ | exact rfl))
    refine tr_ret ⟨.inr rfl, _, _, rfl, trivial, ?_⟩
    rw [dgF, if_pos hc]
    rfl
  have hc := of_decide_eq_false hc
  have hm : mode = 1 ∨ mode = 2 := by omega
  have hr : dgF mode tag ps = if (frameF tag ps).2 ≠ 0 ∨ mode = 2 then frameF tag ps else (sumF (frameF tag ps).1, 0) := by rw [dgF, if_neg hc]
  rw [hr]
  clear hr hc
  have hf := FrameOf_fn tag ps
  have hfl := frameF_len tag ps
  generalize frameF tag ps = r at hf hfl ⊢
  obtain ⟨b, e⟩ := r
  repeat' (first | refine tr_seq ?_ | refine tr_block ?_ | refine tr_skip ?_)
  refine tr_region (lex (T := tab) tOk hnt rfl ?_ (call rfl rfl rfl rfl rfl rfl rfl hnt hf (lex (T := tab) tOk hnt rfl ?_ (Lex.nil _)))) ?_
  · exact ⟨trivial, trivial⟩
  · (dsimp only [AllP]; (repeat' first | exact trivial | assumption | exact Nat.le_of_ble_eq_true rfl | apply And.intro | intro _ | exact rfl))
  repeat' (first | refine tr_seq ?_ | refine reg (T := tab) tOk hnt rfl ?_ ?_ | refine regD (T := tab) tOk mixedR hnt rfl (by decide +kernel) ?_ ?_ | refine tr_block ?_ | refine tr_skip ?_)
  · (dsimp only [AllP]; (repeat' first | exact trivial | assumption | exact Nat.le_of_ble_eq_true rfl | apply And.intro | intro _ | exact rfl))
  refine tr_cond rfl (fun hc => ?_) (fun hc => ?_)
  · have hc := of_decide_eq_true ((eqAnd e mode).symm.trans hc)
    rw [if_neg (by dsimp only; omega)]
    dsimp only at hfl ⊢
    have hs := Summed_fn b (Nat.le_trans hfl (by decide))
    have ho := sumF_len b
    generalize sumF b = o at hs ho ⊢
    have hr : (bE o).length = 32 := by simp [bE, ho]
    repeat' (first | refine tr_seq ?_ | refine tr_block ?_ | refine tr_skip ?_)
    refine tr_region (lex (T := tab) tOk hnt rfl ?_ (call rfl rfl rfl rfl rfl rfl rfl hnt hs (lex (T := tab) tOk hnt rfl ?_ (Lex.nil _)))) ?_
    · exact trivial
    · refine ⟨⟨?_, Nat.le_of_ble_eq_true (by kernel_rfl), Nat.zero_le _⟩, trivial⟩
      exact hr
    refine tr_le (s' := St.of [(9, .v (.int .i64 e)), (10, .one (.ptr 10 0 0))] [(10, ⟨0, .box (.es (bE o)), 0⟩)]) (le_of (ad := []) ⟨rfl, ⟨rfl, rfl, rfl, rfl, rfl⟩, trivial⟩ (memOk_boxE rfl rfl (Eq.trans (b := List.take 0 (bE z32) ++ bE o ++ List.drop (0 + 32) (bE z32)) (by kernel_rfl) (put_all2 _ _ 32 rfl)) trivial)) ?_
    repeat' (first | refine tr_seq ?_ | refine tr_block ?_ | refine tr_skip ?_)
    first | refine reg (T := tab) tOk hnt rfl ?_ ?_ | refine regD (T := tab) tOk mixedR hnt rfl (by decide +kernel) ?_ ?_
    · have hch : chunksE 1 (((32 : Nat) : Int) - 0).toNat (List.drop (0 + Int.toNat 0 * 1) (bE o)) = eCells o := ch32 o ho
      refine ⟨trivial, ?_, ?_, by decide, by decide, by decide, by decide, Nat.le_of_eq hr.symm, by decide, by decide⟩
      · refine Nat.le_trans (Nat.le_of_eq ((congrArg (fun z => (bytesOf z).size) hch).trans ?_)) (show 32 ≤ maxLen by decide)
        show (bytesOf (eCells o)).size = 32
        rw [strB_of, strB_size, ho]
      · intro c hc
        exact eCells_isByte o c (hch ▸ hc)
    repeat' (first | refine tr_seq ?_ | refine reg (T := tab) tOk hnt rfl ?_ ?_ | refine regD (T := tab) tOk mixedR hnt rfl (by decide +kernel) ?_ ?_ | refine tr_block ?_ | refine tr_skip ?_)
    · (dsimp only [AllP]; (repeat' first | exact trivial | assumption | exact Nat.le_of_ble_eq_true rfl | apply And.intro | intro _ | exact rfl))
    refine tr_ret ⟨.inr rfl, _, _, rfl, trivial, ?_⟩
    refine (congrArg (fun z => rBE0 (strBytes (bytesOf z)) e) (ch32 o ho)).trans ?_
    rw [strB_of, strBytes_B, hc.1]
    rfl
  have hc := of_decide_eq_false ((eqAnd e mode).symm.trans hc)
  rw [if_pos (by dsimp only; omega)]
  repeat' (first | refine tr_seq ?_ | refine reg (T := tab) tOk hnt rfl ?_ ?_ | refine regD (T := tab) tOk mixedR hnt rfl (by decide +kernel) ?_ ?_ | refine tr_block ?_ | refine tr_skip ?_)
  · (dsimp only [AllP]; (repeat' first | exact trivial | assumption | exact Nat.le_of_ble_eq_true rfl | apply And.intro | intro _ | exact rfl))
  exact tr_ret ⟨.inr rfl, _, _, rfl, trivial, rfl⟩
end Go.Proofs.YtphaholcndhonaaDoor
namespace Go.Proofs.YtphaholcndhonaaDoor
open Go Go.RowKit Go.Proofs.YtphaholcndhonaaDoor.Ab

theorem strEq_self (x : ByteArray) : strEq x x = true := by simp [strEq]
set_option maxRecDepth 10000 in
theorem sameB_fn (b : List UInt8) : FnD Tryd.prog 12 [.one (.e (eBytes b)), .one (.e (eBytes b))] (.v (.bool true)) := by
  refine fn_intro (T := tab) tOk Tryd.func12 rfl (by kernel_rfl) (by simp [Tryd.ntmps12]) ?_
  intro X hX
  have hnt : X.nt = 10 := hX
  clear hX
  repeat' (first | refine tr_seq ?_ | refine tr_block ?_ | refine tr_skip ?_)
  refine reg (T := tab) tOk hnt rfl (by (dsimp only [AllP]; (repeat' first | exact trivial | assumption | exact Nat.le_of_ble_eq_true rfl | apply And.intro | intro _ | exact rfl))) ?_
  repeat' (first | refine tr_seq ?_ | refine tr_block ?_ | refine tr_skip ?_)
  first | refine reg (T := tab) tOk hnt rfl ?_ ?_ | refine regD (T := tab) tOk mixedR hnt rfl (by decide +kernel) ?_ ?_
  · dsimp only [AllP]
    (repeat' first | exact trivial | apply And.intro | exact eCells_isByte b)
  refine tr_ret ⟨.inr rfl, _, _, rfl, trivial, ?_⟩
  exact congrArg (fun z => D.v (.bool z)) (strEq_self _)
end Go.Proofs.YtphaholcndhonaaDoor
