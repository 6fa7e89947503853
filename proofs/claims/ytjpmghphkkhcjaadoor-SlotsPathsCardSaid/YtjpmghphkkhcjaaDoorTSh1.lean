/- SHA-256's helpers: turning words, numbers out of bytes and back, hex words. No condition. -/
import Derived.Test.YtjpmghphkkhcjaaDoorAbSha
import Derived.Test.YtjpmghphkkhcjaaDoorAb25
import Derived.Test.YtjpmghphkkhcjaaDoorAbTab
namespace Go.Proofs.YtjpmghphkkhcjaaDoor
open Go Go.RowKit Go.Proofs.YtjpmghphkkhcjaaDoor.Ab

theorem mixedR : Tryd.prog.follows .mixedOrders = true := by kernel_rfl
def dW (x : W) : D := .one (.e (eW x))

theorem rotV (x : W) (n : Nat) (h : n ≤ 32) : IntKind.u32.wrap (((BitVec.ofInt IntKind.u32.bits (Int.fdiv (x.toNat : Int) (2 ^ min (Int.toNat (n : Int)) IntKind.u32.bits))) ||| (BitVec.ofInt IntKind.u32.bits (IntKind.u32.wrap ((x.toNat : Int) * 2 ^ min (Int.toNat (IntKind.i64.wrap (32 - (n : Int)))) IntKind.u32.bits)))).toNat : Int) = ((rotr x n).toNat : Int) := by
  have b : IntKind.u32.bits = 32 := rfl
  have e1 : min (Int.toNat (n : Int)) 32 = n := by rw [Int.toNat_natCast]; omega
  have e2 : min (Int.toNat (IntKind.i64.wrap (32 - (n : Int)))) 32 = 32 - n := by
    rw [wrap64_id (by omega) (by omega)]
    omega
  rw [b, e1, e2, w_shr, w_shl, w_of, w_of, w_id]
  rfl
set_option maxRecDepth 10000 in
theorem rot_fn (x : W) (n : Nat) (h : n ≤ 32) : FnD Tryd.prog 102 [dW x, .one (.e (eI n))] (dW (rotr x n)) := by
  refine fn_intro (T := tab) tOk Tryd.func102 rfl (by kernel_rfl) (by simp [Tryd.ntmps102]) ?_
  intro X hX
  have hnt : X.nt = 13 := hX
  clear hX
  have h0 : (0 : Int) ≤ n := Int.natCast_nonneg _
  have h1 : 0 ≤ IntKind.i64.wrap (32 - (n : Int)) := by rw [wrap64_id (by omega) (by omega)]; omega
  repeat' (first | refine tr_seq ?_ | refine reg (T := tab) tOk hnt rfl ?_ ?_ | refine regD (T := tab) tOk mixedR hnt rfl (by decide +kernel) ?_ ?_ | refine tr_cond rfl (fun _ => ?_) (fun _ => ?_) | refine tr_block ?_ | refine tr_skip ?_ | refine tr_ret ?_ | refine tr_exit ?_)
  all_goals (try ((dsimp only [AllP]; (repeat' first | exact trivial | assumption | exact Nat.le_of_ble_eq_true rfl | apply And.intro | intro _ | exact rfl)); done))
  refine ⟨.inr rfl, _, _, rfl, by trivial, ?_⟩
  exact congrArg (fun z => D.v (.int .u32 z)) (rotV x n h)

theorem rotlV (x : W) (n : Nat) (h : n ≤ 32) : IntKind.u32.wrap (((BitVec.ofInt IntKind.u32.bits (IntKind.u32.wrap ((x.toNat : Int) * 2 ^ min (Int.toNat ((32 - n : Nat) : Int)) IntKind.u32.bits))) ||| (BitVec.ofInt IntKind.u32.bits (Int.fdiv (x.toNat : Int) (2 ^ min (Int.toNat (IntKind.u64.wrap (32 - ((32 - n : Nat) : Int)))) IntKind.u32.bits)))).toNat : Int) = ((rotr x n).toNat : Int) := by
  have b : IntKind.u32.bits = 32 := rfl
  have e1 : min (Int.toNat ((32 - n : Nat) : Int)) 32 = 32 - n := by rw [Int.toNat_natCast]; omega
  have e2 : min (Int.toNat (IntKind.u64.wrap (32 - ((32 - n : Nat) : Int)))) 32 = n := by
    have : (32 : Int) - ((32 - n : Nat) : Int) = (n : Int) := by omega
    rw [this]
    have : IntKind.u64.wrap (n : Int) = (n : Int) := by
      unfold IntKind.wrap
      simp [IntKind.bits, IntKind.signed]
      omega
    rw [this, Int.toNat_natCast]
    omega
  rw [b, e1, e2, w_shr, w_shl, w_of, w_of, w_id, BitVec.or_comm]
  rfl
set_option maxRecDepth 10000 in
theorem rotl_fn (x : W) (k : Int) (n : Nat) (h : n ≤ 32) (hk : IntKind.u64.wrap (((BitVec.ofInt IntKind.u64.bits (IntKind.u64.wrap k)) &&& (BitVec.ofInt IntKind.u64.bits 31)).toNat : Int) = ((32 - n : Nat) : Int)) : FnD Tryd.prog 100 [dW x, .one (.e (eI k))] (dW (rotr x n)) := by
  refine fn_intro (T := tab) tOk Tryd.func100 rfl (by kernel_rfl) (by simp [Tryd.ntmps100]) ?_
  intro X hX
  have hnt : X.nt = 17 := hX
  clear hX
  refine tr_seq (reg (T := tab) tOk hnt rfl (by (dsimp only [AllP]; (repeat' first | exact trivial | assumption | exact Nat.le_of_ble_eq_true rfl | apply And.intro | intro _ | exact rfl))) ?_)
  refine tr_seq (reg (T := tab) tOk hnt rfl (by (dsimp only [AllP]; (repeat' first | exact trivial | assumption | exact Nat.le_of_ble_eq_true rfl | apply And.intro | intro _ | exact rfl))) ?_)
  rw [hk]
  have h0 : (0 : Int) ≤ ((32 - n : Nat) : Int) := Int.natCast_nonneg _
  have h1 : 0 ≤ IntKind.u64.wrap (32 - ((32 - n : Nat) : Int)) := by
    unfold IntKind.wrap
    simp [IntKind.bits, IntKind.signed]
    omega
  repeat' (first | refine tr_seq ?_ | refine reg (T := tab) tOk hnt rfl ?_ ?_ | refine regD (T := tab) tOk mixedR hnt rfl (by decide +kernel) ?_ ?_ | refine tr_cond rfl (fun _ => ?_) (fun _ => ?_) | refine tr_block ?_ | refine tr_skip ?_ | refine tr_ret ?_ | refine tr_exit ?_)
  all_goals (try ((dsimp only [AllP]; (repeat' first | exact trivial | assumption | exact Nat.le_of_ble_eq_true rfl | apply And.intro | intro _ | exact rfl)); done))
  refine ⟨.inr rfl, _, _, rfl, by trivial, ?_⟩
  exact congrArg (fun z => D.v (.int .u32 z)) (rotlV x n h)
/-- a string's bytes as a number -/
def numF (l : List UInt8) : Nat := l.foldl (fun n b => (n * 256 + b.toNat) % 18446744073709551616) 0
theorem numF_snoc (l : List UInt8) (b : UInt8) : numF (l ++ [b]) = (numF l * 256 + b.toNat) % 18446744073709551616 := by
  simp [numF]
theorem numF_lt (l : List UInt8) : numF l < 18446744073709551616 := by
  rcases List.eq_nil_or_concat l with rfl | ⟨r, b, rfl⟩
  · decide
  · rw [List.concat_eq_append, numF_snoc]; exact Nat.mod_lt _ (by decide)
theorem take_snocB (l : List UInt8) (k : Nat) (h : k < l.length) : l.take (k + 1) = l.take k ++ [l.getD k 0] := by
  rw [List.take_succ_eq_append_getElem h]
  simp [h]
theorem wrapU (n : Nat) : IntKind.u64.wrap (n : Int) = ((n % 18446744073709551616 : Nat) : Int) := by
  unfold IntKind.wrap
  simp [IntKind.bits, IntKind.signed]
theorem numStep (n : Nat) (b : UInt8) : IntKind.u64.wrap (IntKind.u64.wrap ((n : Int) * 256) + IntKind.u64.wrap (b.toNat : Int)) = (((n * 256 + b.toNat) % 18446744073709551616 : Nat) : Int) := by
  have hb := b.toNat_lt
  rw [show (n : Int) * 256 = ((n * 256 : Nat) : Int) by omega, wrapU, wrapU, ← Int.natCast_add, wrapU]
  congr 1
  omega

set_option maxRecDepth 10000 in
theorem num_fn (s : ByteArray) (hs : s.size ≤ 1000000000) : FnD Tryd.prog 103 [.v (.string s)] (.v (.int .u64 (numF s.data.toList : Int))) := by
  refine fn_intro (T := tab) tOk Tryd.func103 rfl (by kernel_rfl) (by simp [Tryd.ntmps103]) ?_
  intro X hX
  have hnt : X.nt = 19 := hX
  clear hX
  have hsz : s.data.toList.length = s.size := rfl
  repeat' (first | refine tr_seq ?_ | refine reg (T := tab) tOk hnt rfl ?_ ?_ | refine tr_cond rfl (fun _ => ?_) (fun _ => ?_) | refine tr_block ?_ | refine tr_skip ?_ | refine tr_ret ?_ | refine tr_exit ?_)
  all_goals (try (simp only [AllP, true_and, and_true, implies_true]; done))
  refine tr_loop (σ := Nat) (fun k => St.of [(0, .v (.string s)), (3, .v (.int .u64 (numF (s.data.toList.take k) : Int))), (4, .v (.int .i64 k))] []) (fun k => k ≤ s.size) (fun k => s.size - k) 0 (le_of (ad := []) ?_ trivial) (Nat.zero_le _) ?_
  · exact ⟨rfl, rfl, rfl, trivial⟩
  intro k hk
  repeat' (first | refine tr_seq ?_ | refine reg (T := tab) tOk hnt rfl ?_ ?_ | refine tr_cond rfl (fun _ => ?_) (fun _ => ?_) | refine tr_block ?_ | refine tr_skip ?_ | refine tr_ret ?_ | refine tr_exit ?_)
  all_goals (try (simp only [AllP, true_and, and_true, implies_true]; done))
  · rename_i h
    simp only [decide_eq_true_eq] at h
    dsimp only [AllP]
    simp only [true_and, and_true]
    exact ⟨by omega, by omega⟩
  · rename_i h
    simp only [decide_eq_true_eq] at h
    refine ⟨k + 1, by omega, by omega, le_of (ad := []) ⟨rfl, ?_, ?_, trivial⟩ trivial⟩
    · have := numStep (numF (s.data.toList.take k)) (s.data.toList.getD k 0)
      rw [← numF_snoc, ← take_snocB _ _ (by omega)] at this
      exact congrArg (fun z => E.v (.int .u64 z)) this
    · exact congrArg (fun z => E.v (.int .i64 z)) (wrap64_id (n := (k : Int) + 1) (by omega) (by omega))
  · rename_i h
    simp only [decide_eq_false_iff_not] at h
    refine ⟨.inr rfl, _, _, rfl, by trivial, ?_⟩
    have : s.data.toList.take k = s.data.toList := List.take_of_length_le (by omega)
    rw [this]
    rfl

/-! ### bytes of eight bits, as the program reckons with them -/
theorem b_wrap (n : Int) : IntKind.u8.wrap n = ((BitVec.ofInt 8 n).toNat : Int) := by
  unfold IntKind.wrap
  rw [BitVec.toNat_ofInt]
  simp [IntKind.bits, IntKind.signed]
  omega
theorem b_sub (a b : UInt8) : IntKind.u8.wrap ((a.toNat : Int) - (b.toNat : Int)) = ((a - b).toNat : Int) := by
  have ha := a.toNat_lt
  have hb := b.toNat_lt
  rw [UInt8.toNat_sub]
  unfold IntKind.wrap
  simp [IntKind.bits, IntKind.signed]
  omega
theorem b_add (a b : UInt8) : IntKind.u8.wrap ((a.toNat : Int) + (b.toNat : Int)) = ((a + b).toNat : Int) := by
  rw [UInt8.toNat_add]
  unfold IntKind.wrap
  simp [IntKind.bits, IntKind.signed]
def digF (c : UInt8) : UInt8 := if 97 ≤ c.toNat then c - 97 + 10 else c - 48
def hexF (l : List UInt8) : W := l.foldl (fun n c => n * 16 + BitVec.ofNat 32 (digF c).toNat) 0
theorem hexF_snoc (l : List UInt8) (c : UInt8) : hexF (l ++ [c]) = hexF l * 16 + BitVec.ofNat 32 (digF c).toNat := by simp [hexF]
theorem w_mul (x y : W) : IntKind.u32.wrap ((x.toNat : Int) * (y.toNat : Int)) = ((x * y).toNat : Int) := by
  rw [w_wrap, BitVec.ofInt_mul, w_of, w_of]
theorem hexStep (n : W) (d : UInt8) : IntKind.u32.wrap (IntKind.u32.wrap ((n.toNat : Int) * 16) + IntKind.u32.wrap (d.toNat : Int)) = ((n * 16 + BitVec.ofNat 32 d.toNat).toNat : Int) := by
  rw [show ((n.toNat : Int) * 16) = ((n.toNat : Int) * ((16 : W).toNat : Int)) from rfl, w_mul, w_byte, w_add]
theorem ext_list (s : ByteArray) (i j : Nat) : (s.extract i j).data.toList = (s.data.toList.take j).drop i := by
  rw [ByteArray.data_extract]
  simp [List.extract_eq_take_drop, List.drop_take]
set_option maxRecDepth 10000 in
theorem hexWord_fn (s : ByteArray) (i : Nat) (h : 8 * i + 8 ≤ s.size) (hs : s.size ≤ 1000000000) : FnD Tryd.prog 96 [.v (.string s), .one (.e (eI i))] (dW (hexF ((s.data.toList.take (8 * i + 8)).drop (8 * i)))) := by
  refine fn_intro (T := tab) tOk Tryd.func96 rfl (by kernel_rfl) (by simp [Tryd.ntmps96]) ?_
  intro X hX
  have hnt : X.nt = 36 := hX
  clear hX
  have hsz : s.data.toList.length = s.size := rfl
  have e1 : IntKind.i64.wrap (8 * (i : Int)) = ((8 * i : Nat) : Int) := by rw [wrap64_id (by omega) (by omega)]; omega
  have e2 : IntKind.i64.wrap (((8 * i : Nat) : Int) + 8) = ((8 * i + 8 : Nat) : Int) := by rw [wrap64_id (by omega) (by omega)]; omega
  repeat' (first | refine tr_seq ?_ | refine reg (T := tab) tOk hnt rfl ?_ ?_ | refine regD (T := tab) tOk mixedR hnt rfl (by decide +kernel) ?_ ?_ | refine tr_block ?_ | refine tr_skip ?_)
  · (dsimp only [AllP]; (repeat' first | exact trivial | assumption | exact Nat.le_of_ble_eq_true rfl | apply And.intro | intro _ | exact rfl))
  · (dsimp only [AllP]; (repeat' first | exact trivial | assumption | exact Nat.le_of_ble_eq_true rfl | apply And.intro | intro _ | exact rfl))
  · dsimp only [AllP]
    rw [e1, e2, Int.toNat_natCast, Int.toNat_natCast]
    refine ⟨trivial, trivial, ?_, ⟨Int.natCast_nonneg _, by omega, by omega⟩, rfl, rfl, trivial, rfl, trivial, trivial⟩
    show (s.extract (8 * i) (8 * i + 8)).size ≤ 2 ^ 63 - 1
    simp
    omega
  rw [e1, e2, Int.toNat_natCast, Int.toNat_natCast]
  have hlen : (strBytes (s.extract (8 * i) (8 * i + 8))).length = 8 := by
    rw [strBytes_len]
    simp
    omega
  have hs1 : strBytes (s.extract (8 * i) (8 * i + 8)) = eCells ((s.data.toList.take (8 * i + 8)).drop (8 * i)) := by
    show (s.extract (8 * i) (8 * i + 8)).data.toList.map _ = _
    rw [ext_list]
    rfl
  rw [hs1] at hlen ⊢
  generalize hl : (s.data.toList.take (8 * i + 8)).drop (8 * i) = l at hlen ⊢
  rw [eCells_length] at hlen
  refine tr_loop (σ := Nat) (fun k => St.of [(5, dW (hexF (l.take k))), (16, .one (.own 16 0)), (17, .v (.int .i64 8)), (18, .v (.int .i64 k))] [(16, ⟨0, .row 1 (eCells l), 0⟩)]) (fun k => k ≤ 8) (fun k => 8 - k) 0 (le_of (ad := []) ⟨rfl, ⟨rfl, rfl, rfl, rfl⟩, congrArg (fun z : Nat => E.v (.int .i64 (z : Int))) ((eCells_length l).trans hlen), rfl, trivial⟩ (memOk_row rfl rfl rfl trivial)) (Nat.zero_le _) ?_
  intro k hk
  refine tr_seq (reg (T := tab) tOk hnt rfl (by (dsimp only [AllP]; (repeat' first | exact trivial | assumption | exact Nat.le_of_ble_eq_true rfl | apply And.intro | intro _ | exact rfl))) ?_)
  refine tr_seq (tr_cond rfl (fun h => ?_) (fun h => ?_))
  · have h := of_decide_eq_true h
    have hk8 : k < 8 := by omega
    have hkl : k < l.length := by omega
    refine tr_skip ?_
    repeat' (first | refine tr_seq ?_ | refine tr_block ?_ | refine tr_skip ?_)
    refine reg (T := tab) tOk hnt rfl ?_ ?_
    · rw [Int.toNat_natCast]
      refine ⟨trivial, ⟨rdC l k hkl, rdA l k hkl⟩, Int.natCast_nonneg _, ?_⟩
      rw [eCells_length]
      omega
    rw [Int.toNat_natCast, rdB l k hkl]
    generalize hc : l.getD k 0 = c
    repeat' (first | refine tr_seq ?_ | refine reg (T := tab) tOk hnt rfl ?_ ?_ | refine regD (T := tab) tOk mixedR hnt rfl (by decide +kernel) ?_ ?_ | refine tr_block ?_ | refine tr_skip ?_)
    · (dsimp only [AllP]; (repeat' first | exact trivial | assumption | exact Nat.le_of_ble_eq_true rfl | apply And.intro | intro _ | exact rfl))
    · (dsimp only [AllP]; (repeat' first | exact trivial | assumption | exact Nat.le_of_ble_eq_true rfl | apply And.intro | intro _ | exact rfl))
    refine tr_cond rfl (fun h => ?_) (fun h => ?_)
    · repeat' (first | refine tr_seq ?_ | refine reg (T := tab) tOk hnt rfl ?_ ?_ | refine regD (T := tab) tOk mixedR hnt rfl (by decide +kernel) ?_ ?_ | refine tr_block ?_ | refine tr_skip ?_)
      · (dsimp only [AllP]; (repeat' first | exact trivial | assumption | exact Nat.le_of_ble_eq_true rfl | apply And.intro | intro _ | exact rfl))
      · (dsimp only [AllP]; (repeat' first | exact trivial | assumption | exact Nat.le_of_ble_eq_true rfl | apply And.intro | intro _ | exact rfl))
      · (dsimp only [AllP]; (repeat' first | exact trivial | assumption | exact Nat.le_of_ble_eq_true rfl | apply And.intro | intro _ | exact rfl))
      have h := of_decide_eq_true h
      refine ⟨k + 1, by omega, by omega, le_of (ad := []) ⟨?_, ⟨rfl, rfl, rfl, rfl⟩, rfl, congrArg (fun z : Int => E.v (.int .i64 z)) (wrap64_id (by omega) (by omega)), trivial⟩ (memOk_row rfl rfl rfl trivial)⟩
      have e := hexStep (hexF (l.take k)) (digF c)
      have hd : digF c = c - 97 + 10 := if_pos (by omega)
      have ed : IntKind.u8.wrap (IntKind.u8.wrap ((c.toNat : Int) - 97) + 10) = ((digF c).toNat : Int) := by
        rw [hd, ← b_add, ← b_sub]
        rfl
      rw [← hexF_snoc, ← hc, ← take_snocB l k hkl, hc, ← ed] at e
      exact congrArg (fun z => E.v (.int .u32 z)) e
    · repeat' (first | refine tr_seq ?_ | refine reg (T := tab) tOk hnt rfl ?_ ?_ | refine regD (T := tab) tOk mixedR hnt rfl (by decide +kernel) ?_ ?_ | refine tr_block ?_ | refine tr_skip ?_)
      · (dsimp only [AllP]; (repeat' first | exact trivial | assumption | exact Nat.le_of_ble_eq_true rfl | apply And.intro | intro _ | exact rfl))
      · (dsimp only [AllP]; (repeat' first | exact trivial | assumption | exact Nat.le_of_ble_eq_true rfl | apply And.intro | intro _ | exact rfl))
      have h := of_decide_eq_false h
      refine ⟨k + 1, by omega, by omega, le_of (ad := []) ⟨?_, ⟨rfl, rfl, rfl, rfl⟩, rfl, congrArg (fun z : Int => E.v (.int .i64 z)) (wrap64_id (by omega) (by omega)), trivial⟩ (memOk_row rfl rfl rfl trivial)⟩
      have e := hexStep (hexF (l.take k)) (digF c)
      have hd : digF c = c - 48 := if_neg (by omega)
      have ed : IntKind.u8.wrap ((c.toNat : Int) - 48) = ((digF c).toNat : Int) := by
        rw [hd, ← b_sub]
        rfl
      rw [← hexF_snoc, ← hc, ← take_snocB l k hkl, hc, ← ed] at e
      exact congrArg (fun z => E.v (.int .u32 z)) e
  have h := of_decide_eq_false h
  have hk : k = 8 := by omega
  subst hk
  refine tr_exit ?_
  repeat' (first | refine tr_seq ?_ | refine reg (T := tab) tOk hnt rfl ?_ ?_ | refine regD (T := tab) tOk mixedR hnt rfl (by decide +kernel) ?_ ?_ | refine tr_cond rfl (fun _ => ?_) (fun _ => ?_) | refine tr_block ?_ | refine tr_skip ?_ | refine tr_ret ?_ | refine tr_exit ?_)
  · (dsimp only [AllP]; (repeat' first | exact trivial | assumption | exact Nat.le_of_ble_eq_true rfl | apply And.intro | intro _ | exact rfl))
  refine ⟨.inr rfl, _, _, rfl, by trivial, ?_⟩
  rw [List.take_of_length_le (by omega)]
  rfl
/-- a number's bytes, the great one first -/
def bigF (n : Nat) : Nat → List UInt8
  | 0 => []
  | k + 1 => bigF (n / 256) k ++ [UInt8.ofNat n]
theorem bigF_len (n : Nat) : ∀ k, (bigF n k).length = k
  | 0 => rfl
  | k + 1 => by rw [bigF, List.length_append, bigF_len (n / 256) k]; rfl
theorem ofNatB (n : Nat) : IntKind.u8.wrap (n : Int) = ((UInt8.ofNat n).toNat : Int) := by
  unfold IntKind.wrap
  simp [IntKind.bits, IntKind.signed]
theorem bytesOf_one (c : UInt8) : bytesOf [[E.v (.int .u8 (c.toNat : Int))]] = strB [c] := bytesOf_eCells [c]
theorem strB_app (l r : List UInt8) : strB l ++ strB r = strB (l ++ r) := by
  unfold strB
  apply ByteArray.ext
  simp
set_option maxRecDepth 10000 in
theorem big_fn (n : Nat) (size : Nat) (h : size ≤ 1000) : FnD Tryd.prog 92 [.v (.int .u64 (n : Int)), .one (.e (eI size))] (.v (.string (strB (bigF n size)))) := by
  refine fn_intro (T := tab) tOk Tryd.func92 rfl (by kernel_rfl) (by simp [Tryd.ntmps92]) ?_
  intro X hX
  have hnt : X.nt = 19 := hX
  clear hX
  repeat' (first | refine tr_seq ?_ | refine reg (T := tab) tOk hnt rfl ?_ ?_ | refine regD (T := tab) tOk mixedR hnt rfl (by decide +kernel) ?_ ?_ | refine tr_block ?_ | refine tr_skip ?_)
  · (dsimp only [AllP]; (repeat' first | exact trivial | assumption | exact Nat.le_of_ble_eq_true rfl | apply And.intro | intro _ | exact rfl | decide))
  · (dsimp only [AllP]; (repeat' first | exact trivial | assumption | exact Nat.le_of_ble_eq_true rfl | apply And.intro | intro _ | exact rfl | decide))
  · (dsimp only [AllP]; (repeat' first | exact trivial | assumption | exact Nat.le_of_ble_eq_true rfl | apply And.intro | intro _ | exact rfl | decide))
  refine tr_loop (σ := Nat × Nat × List UInt8) (fun x => St.of [(0, .v (.int .u64 (x.2.1 : Int))), (5, .v (.string (strB x.2.2))), (6, .v (.int .i64 size)), (7, .v (.int .i64 x.1))] []) (fun x => x.1 ≤ size ∧ bigF x.2.1 (size - x.1) ++ x.2.2 = bigF n size ∧ x.2.2.length = x.1) (fun x => size - x.1) (0, n, []) (le_of (ad := []) ⟨rfl, rfl, rfl, rfl, trivial⟩ trivial) ⟨Nat.zero_le _, List.append_nil _, rfl⟩ ?_
  rintro ⟨k, m, acc⟩ ⟨j1, j2, j3⟩
  dsimp only at j1 j2 j3 ⊢
  refine tr_seq (reg (T := tab) tOk hnt rfl (by (dsimp only [AllP]; (repeat' first | exact trivial | assumption | exact Nat.le_of_ble_eq_true rfl | apply And.intro | intro _ | exact rfl | decide))) ?_)
  refine tr_seq (tr_cond rfl (fun h => ?_) (fun h => ?_))
  · have h := of_decide_eq_true h
    have hk : k < size := by omega
    refine tr_skip ?_
    repeat' (first | refine tr_seq ?_ | refine tr_block ?_ | refine tr_skip ?_)
    refine reg (T := tab) tOk hnt rfl ?_ ?_
    · rw [ofNatB, bytesOf_one]
      refine ⟨trivial, ?_, trivial, fun cs hc => ?_, ⟨⟨rfl, trivial⟩, by decide, by decide⟩, trivial, trivial⟩
      · show (strB [UInt8.ofNat m]).size + (strB acc).size ≤ maxLen
        rw [strB_size, strB_size, maxLen]
        simp
        omega
      · rw [List.mem_singleton] at hc
        subst hc
        exact ⟨_, rfl⟩
    rw [ofNatB, bytesOf_one, strB_app]
    repeat' (first | refine tr_seq ?_ | refine reg (T := tab) tOk hnt rfl ?_ ?_ | refine regD (T := tab) tOk mixedR hnt rfl (by decide +kernel) ?_ ?_ | refine tr_block ?_ | refine tr_skip ?_)
    · (dsimp only [AllP]; (repeat' first | exact trivial | assumption | exact Nat.le_of_ble_eq_true rfl | apply And.intro | intro _ | exact rfl | decide))
    · (dsimp only [AllP]; (repeat' first | exact trivial | assumption | exact Nat.le_of_ble_eq_true rfl | apply And.intro | intro _ | exact rfl | decide))
    have hdiv : Int.fdiv (m : Int) (2 ^ min (Int.toNat 8) 64) = ((m / 256 : Nat) : Int) := by
      rw [show min (Int.toNat 8) 64 = 8 from rfl, Int.fdiv_eq_ediv_of_nonneg _ (by decide)]
      rfl
    refine ⟨(k + 1, m / 256, UInt8.ofNat m :: acc), ⟨hk, ?_, by simp; omega⟩, by dsimp only; omega, le_of (ad := []) ⟨congrArg (fun z : Int => E.v (.int .u64 z)) hdiv, rfl, rfl, congrArg (fun z : Int => E.v (.int .i64 z)) (wrap64_id (by omega) (by omega)), trivial⟩ trivial⟩
    dsimp only
    rw [← j2, show size - k = (size - (k + 1)) + 1 by omega, bigF, List.append_assoc]
    rfl
  have h := of_decide_eq_false h
  have hk : k = size := by omega
  subst hk
  refine tr_exit ?_
  repeat' (first | refine tr_seq ?_ | refine reg (T := tab) tOk hnt rfl ?_ ?_ | refine regD (T := tab) tOk mixedR hnt rfl (by decide +kernel) ?_ ?_ | refine tr_cond rfl (fun _ => ?_) (fun _ => ?_) | refine tr_block ?_ | refine tr_skip ?_ | refine tr_ret ?_ | refine tr_exit ?_)
  · (dsimp only [AllP]; (repeat' first | exact trivial | assumption | exact Nat.le_of_ble_eq_true rfl | apply And.intro | intro _ | exact rfl | decide))
  refine ⟨.inr rfl, _, _, rfl, by trivial, ?_⟩
  rw [← j2, Nat.sub_self]
  rfl
end Go.Proofs.YtjpmghphkkhcjaaDoor
