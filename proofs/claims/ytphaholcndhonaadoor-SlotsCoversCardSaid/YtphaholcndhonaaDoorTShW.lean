/- SHA-256's helpers: turning words, numbers out of bytes and back, hex words. No condition. -/
import Derived.Test.YtphaholcndhonaaDoorAbSha
import Derived.Test.YtphaholcndhonaaDoorAb25
import Derived.Test.YtphaholcndhonaaDoorAbTab
namespace Go.Proofs.YtphaholcndhonaaDoor
open Go Go.RowKit Go.Proofs.YtphaholcndhonaaDoor.Ab

theorem mixedR : Tryd.prog.follows .mixedOrders = true := by kernel_rfl
def dW (x : W) : D := .one (.e (eW x))

theorem rotV (x : W) (n : Nat) (h : n ≤ 32) : IntKind.u32.wrap (((BitVec.ofInt IntKind.u32.bits (Int.fdiv (x.toNat : Int) (2 ^ min (Int.toNat (n : Int)) IntKind.u32.bits))) ||| (BitVec.ofInt IntKind.u32.bits (IntKind.u32.wrap ((x.toNat : Int) * 2 ^ min (Int.toNat (IntKind.i64.wrap (32 - (n : Int)))) IntKind.u32.bits)))).toNat : Int) = ((rotr x n).toNat : Int) := by
  have b : IntKind.u32.bits = 32 := rfl
  have e1 : min (Int.toNat (n : Int)) 32 = n := by rw [Int.toNat_natCast]; omega
  have e2 : min (Int.toNat (IntKind.i64.wrap (32 - (n : Int)))) 32 = 32 - n := by
    rw [wrap64_id (by omega) (by omega)]
    omega
  rw [b, e1, e2, w_shr, w_shl, w_of, w_of, w_id]
  rfl
set_option maxRecDepth 10000 in
theorem rot_fn (x : W) (n : Nat) (h : n ≤ 32) : FnD Tryd.prog 203 [dW x, .one (.e (eI n))] (dW (rotr x n)) := by
  refine fn_intro (T := tab) tOk Tryd.func203 rfl (by kernel_rfl) (by simp [Tryd.ntmps203]) ?_
  intro X hX
  have hnt : X.nt = 13 := hX
  clear hX
  have h0 : (0 : Int) ≤ n := Int.natCast_nonneg _
  have h1 : 0 ≤ IntKind.i64.wrap (32 - (n : Int)) := by rw [wrap64_id (by omega) (by omega)]; omega
  repeat' (first | refine tr_seq ?_ | refine reg (T := tab) tOk hnt rfl ?_ ?_ | refine regD (T := tab) tOk mixedR hnt rfl (by decide +kernel) ?_ ?_ | refine tr_cond rfl (fun _ => ?_) (fun _ => ?_) | refine tr_block ?_ | refine tr_skip ?_ | refine tr_ret ?_ | refine tr_exit ?_)
  all_goals (try ((dsimp only [AllP]; (repeat' first | exact trivial | assumption | exact Nat.le_of_ble_eq_true rfl | apply And.intro | intro _ | exact rfl)); done))
  refine ⟨.inr rfl, _, _, rfl, by trivial, ?_⟩
  exact congrArg (fun z => D.v (.int .u32 z)) (rotV x n h)

theorem rotlV (x : W) (n : Nat) (h : n ≤ 32) : IntKind.u32.wrap (((BitVec.ofInt IntKind.u32.bits (IntKind.u32.wrap ((x.toNat : Int) * 2 ^ min (Int.toNat ((32 - n : Nat) : Int)) IntKind.u32.bits))) ||| (BitVec.ofInt IntKind.u32.bits (Int.fdiv (x.toNat : Int) (2 ^ min (Int.toNat (IntKind.u64.wrap (32 - ((32 - n : Nat) : Int)))) IntKind.u32.bits)))).toNat : Int) = ((rotr x n).toNat : Int) := by
  have b : IntKind.u32.bits = 32 := rfl
  have e1 : min (Int.toNat ((32 - n : Nat) : Int)) 32 = 32 - n := by rw [Int.toNat_natCast]; omega
  have e2 : min (Int.toNat (IntKind.u64.wrap (32 - ((32 - n : Nat) : Int)))) 32 = n := by
    have : (32 : Int) - ((32 - n : Nat) : Int) = (n : Int) := by omega
    rw [this]
    have : IntKind.u64.wrap (n : Int) = (n : Int) := by
      unfold IntKind.wrap
      simp [IntKind.bits, IntKind.signed]
      omega
    rw [this, Int.toNat_natCast]
    omega
  rw [b, e1, e2, w_shr, w_shl, w_of, w_of, w_id, BitVec.or_comm]
  rfl
set_option maxRecDepth 10000 in
theorem rotl_fn (x : W) (k : Int) (n : Nat) (h : n ≤ 32) (hk : IntKind.u64.wrap (((BitVec.ofInt IntKind.u64.bits (IntKind.u64.wrap k)) &&& (BitVec.ofInt IntKind.u64.bits 31)).toNat : Int) = ((32 - n : Nat) : Int)) : FnD Tryd.prog 201 [dW x, .one (.e (eI k))] (dW (rotr x n)) := by
  refine fn_intro (T := tab) tOk Tryd.func201 rfl (by kernel_rfl) (by simp [Tryd.ntmps201]) ?_
  intro X hX
  have hnt : X.nt = 17 := hX
  clear hX
  refine tr_seq (reg (T := tab) tOk hnt rfl (by (dsimp only [AllP]; (repeat' first | exact trivial | assumption | exact Nat.le_of_ble_eq_true rfl | apply And.intro | intro _ | exact rfl))) ?_)
  refine tr_seq (reg (T := tab) tOk hnt rfl (by (dsimp only [AllP]; (repeat' first | exact trivial | assumption | exact Nat.le_of_ble_eq_true rfl | apply And.intro | intro _ | exact rfl))) ?_)
  rw [hk]
  have h0 : (0 : Int) ≤ ((32 - n : Nat) : Int) := Int.natCast_nonneg _
  have h1 : 0 ≤ IntKind.u64.wrap (32 - ((32 - n : Nat) : Int)) := by
    unfold IntKind.wrap
    simp [IntKind.bits, IntKind.signed]
    omega
  repeat' (first | refine tr_seq ?_ | refine reg (T := tab) tOk hnt rfl ?_ ?_ | refine regD (T := tab) tOk mixedR hnt rfl (by decide +kernel) ?_ ?_ | refine tr_cond rfl (fun _ => ?_) (fun _ => ?_) | refine tr_block ?_ | refine tr_skip ?_ | refine tr_ret ?_ | refine tr_exit ?_)
  all_goals (try ((dsimp only [AllP]; (repeat' first | exact trivial | assumption | exact Nat.le_of_ble_eq_true rfl | apply And.intro | intro _ | exact rfl)); done))
  refine ⟨.inr rfl, _, _, rfl, by trivial, ?_⟩
  exact congrArg (fun z => D.v (.int .u32 z)) (rotlV x n h)
/-- a string's bytes as a number -/
def numF (l : List UInt8) : Nat := l.foldl (fun n b => (n * 256 + b.toNat) % 18446744073709551616) 0
theorem numF_snoc (l : List UInt8) (b : UInt8) : numF (l ++ [b]) = (numF l * 256 + b.toNat) % 18446744073709551616 := by
  simp [numF]
theorem numF_lt (l : List UInt8) : numF l < 18446744073709551616 := by
  rcases List.eq_nil_or_concat l with rfl | ⟨r, b, rfl⟩
  · decide
  · rw [List.concat_eq_append, numF_snoc]; exact Nat.mod_lt _ (by decide)
theorem take_snocB (l : List UInt8) (k : Nat) (h : k < l.length) : l.take (k + 1) = l.take k ++ [l.getD k 0] := by
  rw [List.take_succ_eq_append_getElem h]
  simp [h]
theorem wrapU (n : Nat) : IntKind.u64.wrap (n : Int) = ((n % 18446744073709551616 : Nat) : Int) := by
  unfold IntKind.wrap
  simp [IntKind.bits, IntKind.signed]
theorem numStep (n : Nat) (b : UInt8) : IntKind.u64.wrap (IntKind.u64.wrap ((n : Int) * 256) + IntKind.u64.wrap (b.toNat : Int)) = (((n * 256 + b.toNat) % 18446744073709551616 : Nat) : Int) := by
  have hb := b.toNat_lt
  rw [show (n : Int) * 256 = ((n * 256 : Nat) : Int) by omega, wrapU, wrapU, ← Int.natCast_add, wrapU]
  congr 1
  omega

set_option maxRecDepth 10000 in
theorem num_fn (s : ByteArray) (hs : s.size ≤ 1000000000) : FnD Tryd.prog 209 [.v (.string s)] (.v (.int .u64 (numF s.data.toList : Int))) := by
  refine fn_intro (T := tab) tOk Tryd.func209 rfl (by kernel_rfl) (by simp [Tryd.ntmps209]) ?_
  intro X hX
  have hnt : X.nt = 19 := hX
  clear hX
  have hsz : s.data.toList.length = s.size := rfl
  repeat' (first | refine tr_seq ?_ | refine reg (T := tab) tOk hnt rfl ?_ ?_ | refine tr_cond rfl (fun _ => ?_) (fun _ => ?_) | refine tr_block ?_ | refine tr_skip ?_ | refine tr_ret ?_ | refine tr_exit ?_)
  all_goals (try (simp only [AllP, true_and, and_true, implies_true]; done))
  refine tr_loop (σ := Nat) (fun k => St.of [(0, .v (.string s)), (3, .v (.int .u64 (numF (s.data.toList.take k) : Int))), (4, .v (.int .i64 k))] []) (fun k => k ≤ s.size) (fun k => s.size - k) 0 (le_of (ad := []) ?_ trivial) (Nat.zero_le _) ?_
  · exact ⟨rfl, rfl, rfl, trivial⟩
  intro k hk
  repeat' (first | refine tr_seq ?_ | refine reg (T := tab) tOk hnt rfl ?_ ?_ | refine tr_cond rfl (fun _ => ?_) (fun _ => ?_) | refine tr_block ?_ | refine tr_skip ?_ | refine tr_ret ?_ | refine tr_exit ?_)
  all_goals (try (simp only [AllP, true_and, and_true, implies_true]; done))
  · rename_i h
    simp only [decide_eq_true_eq] at h
    dsimp only [AllP]
    simp only [true_and, and_true]
    exact ⟨by omega, by omega⟩
  · rename_i h
    simp only [decide_eq_true_eq] at h
    refine ⟨k + 1, by omega, by omega, le_of (ad := []) ⟨rfl, ?_, ?_, trivial⟩ trivial⟩
    · have := numStep (numF (s.data.toList.take k)) (s.data.toList.getD k 0)
      rw [← numF_snoc, ← take_snocB _ _ (by omega)] at this
      exact congrArg (fun z => E.v (.int .u64 z)) this
    · exact congrArg (fun z => E.v (.int .i64 z)) (wrap64_id (n := (k : Int) + 1) (by omega) (by omega))
  · rename_i h
    simp only [decide_eq_false_iff_not] at h
    refine ⟨.inr rfl, _, _, rfl, by trivial, ?_⟩
    have : s.data.toList.take k = s.data.toList := List.take_of_length_le (by omega)
    rw [this]
    rfl

/-! ### bytes of eight bits, as the program reckons with them -/
theorem b_wrap (n : Int) : IntKind.u8.wrap n = ((BitVec.ofInt 8 n).toNat : Int) := by
  unfold IntKind.wrap
  rw [BitVec.toNat_ofInt]
  simp [IntKind.bits, IntKind.signed]
  omega
theorem b_sub (a b : UInt8) : IntKind.u8.wrap ((a.toNat : Int) - (b.toNat : Int)) = ((a - b).toNat : Int) := by
  have ha := a.toNat_lt
  have hb := b.toNat_lt
  rw [UInt8.toNat_sub]
  unfold IntKind.wrap
  simp [IntKind.bits, IntKind.signed]
  omega
theorem b_add (a b : UInt8) : IntKind.u8.wrap ((a.toNat : Int) + (b.toNat : Int)) = ((a + b).toNat : Int) := by
  rw [UInt8.toNat_add]
  unfold IntKind.wrap
  simp [IntKind.bits, IntKind.signed]
def digF (c : UInt8) : UInt8 := if 97 ≤ c.toNat then c - 97 + 10 else c - 48
def hexF (l : List UInt8) : W := l.foldl (fun n c => n * 16 + BitVec.ofNat 32 (digF c).toNat) 0
theorem hexF_snoc (l : List UInt8) (c : UInt8) : hexF (l ++ [c]) = hexF l * 16 + BitVec.ofNat 32 (digF c).toNat := by simp [hexF]
theorem w_mul (x y : W) : IntKind.u32.wrap ((x.toNat : Int) * (y.toNat : Int)) = ((x * y).toNat : Int) := by
  rw [w_wrap, BitVec.ofInt_mul, w_of, w_of]
theorem hexStep (n : W) (d : UInt8) : IntKind.u32.wrap (IntKind.u32.wrap ((n.toNat : Int) * 16) + IntKind.u32.wrap (d.toNat : Int)) = ((n * 16 + BitVec.ofNat 32 d.toNat).toNat : Int) := by
  rw [show ((n.toNat : Int) * 16) = ((n.toNat : Int) * ((16 : W).toNat : Int)) from rfl, w_mul, w_byte, w_add]
theorem ext_list (s : ByteArray) (i j : Nat) : (s.extract i j).data.toList = (s.data.toList.take j).drop i := by
  rw [ByteArray.data_extract]
  simp [List.extract_eq_take_drop, List.drop_take]
set_option maxRecDepth 10000 in
theorem hexWord_fn (s : ByteArray) (i : Nat) (h : 8 * i + 8 ≤ s.size) (hs : s.size ≤ 1000000000) : FnD Tryd.prog 183 [.v (.string s), .one (.e (eI i))] (dW (hexF ((s.data.toList.take (8 * i + 8)).drop (8 * i)))) := by
  refine fn_intro (T := tab) tOk Tryd.func183 rfl (by kernel_rfl) (by simp [Tryd.ntmps183]) ?_
  intro X hX
  have hnt : X.nt = 36 := hX
  clear hX
  have hsz : s.data.toList.length = s.size := rfl
  have e1 : IntKind.i64.wrap (8 * (i : Int)) = ((8 * i : Nat) : Int) := by rw [wrap64_id (by omega) (by omega)]; omega
  have e2 : IntKind.i64.wrap (((8 * i : Nat) : Int) + 8) = ((8 * i + 8 : Nat) : Int) := by rw [wrap64_id (by omega) (by omega)]; omega
  repeat' (first | refine tr_seq ?_ | refine reg (T := tab) tOk hnt rfl ?_ ?_ | refine regD (T := tab) tOk mixedR hnt rfl (by decide +kernel) ?_ ?_ | refine tr_block ?_ | refine tr_skip ?_)
  · (dsimp only [AllP]; (repeat' first | exact trivial | assumption | exact Nat.le_of_ble_eq_true rfl | apply And.intro | intro _ | exact rfl))
  · (dsimp only [AllP]; (repeat' first | exact trivial | assumption | exact Nat.le_of_ble_eq_true rfl | apply And.intro | intro _ | exact rfl))
  · dsimp only [AllP]
    rw [e1, e2, Int.toNat_natCast, Int.toNat_natCast]
    refine ⟨trivial, trivial, ?_, ⟨Int.natCast_nonneg _, by omega, by omega⟩, rfl, rfl, trivial, rfl, trivial, trivial⟩
    show (s.extract (8 * i) (8 * i + 8)).size ≤ 2 ^ 63 - 1
    simp
    omega
  rw [e1, e2, Int.toNat_natCast, Int.toNat_natCast]
  have hlen : (strBytes (s.extract (8 * i) (8 * i + 8))).length = 8 := by
    rw [strBytes_len]
    simp
    omega
  have hs1 : strBytes (s.extract (8 * i) (8 * i + 8)) = eCells ((s.data.toList.take (8 * i + 8)).drop (8 * i)) := by
    show (s.extract (8 * i) (8 * i + 8)).data.toList.map _ = _
    rw [ext_list]
    rfl
  rw [hs1] at hlen ⊢
  generalize hl : (s.data.toList.take (8 * i + 8)).drop (8 * i) = l at hlen ⊢
  rw [eCells_length] at hlen
  refine tr_loop (σ := Nat) (fun k => St.of [(5, dW (hexF (l.take k))), (16, .one (.own 16 0)), (17, .v (.int .i64 8)), (18, .v (.int .i64 k))] [(16, ⟨0, .row 1 (eCells l), 0⟩)]) (fun k => k ≤ 8) (fun k => 8 - k) 0 (le_of (ad := []) ⟨rfl, ⟨rfl, rfl, rfl, rfl⟩, congrArg (fun z : Nat => E.v (.int .i64 (z : Int))) ((eCells_length l).trans hlen), rfl, trivial⟩ (memOk_row rfl rfl rfl trivial)) (Nat.zero_le _) ?_
  intro k hk
  refine tr_seq (reg (T := tab) tOk hnt rfl (by (dsimp only [AllP]; (repeat' first | exact trivial | assumption | exact Nat.le_of_ble_eq_true rfl | apply And.intro | intro _ | exact rfl))) ?_)
  refine tr_seq (tr_cond rfl (fun h => ?_) (fun h => ?_))
  · have h := of_decide_eq_true h
    have hk8 : k < 8 := by omega
    have hkl : k < l.length := by omega
    refine tr_skip ?_
    repeat' (first | refine tr_seq ?_ | refine tr_block ?_ | refine tr_skip ?_)
    refine reg (T := tab) tOk hnt rfl ?_ ?_
    · rw [Int.toNat_natCast]
      refine ⟨trivial, ⟨rdC l k hkl, rdA l k hkl⟩, Int.natCast_nonneg _, ?_⟩
      rw [eCells_length]
      omega
    rw [Int.toNat_natCast, rdB l k hkl]
    generalize hc : l.getD k 0 = c
    repeat' (first | refine tr_seq ?_ | refine reg (T := tab) tOk hnt rfl ?_ ?_ | refine regD (T := tab) tOk mixedR hnt rfl (by decide +kernel) ?_ ?_ | refine tr_block ?_ | refine tr_skip ?_)
    · (dsimp only [AllP]; (repeat' first | exact trivial | assumption | exact Nat.le_of_ble_eq_true rfl | apply And.intro | intro _ | exact rfl))
    · (dsimp only [AllP]; (repeat' first | exact trivial | assumption | exact Nat.le_of_ble_eq_true rfl | apply And.intro | intro _ | exact rfl))
    refine tr_cond rfl (fun h => ?_) (fun h => ?_)
    · repeat' (first | refine tr_seq ?_ | refine reg (T := tab) tOk hnt rfl ?_ ?_ | refine regD (T := tab) tOk mixedR hnt rfl (by decide +kernel) ?_ ?_ | refine tr_block ?_ | refine tr_skip ?_)
      · (dsimp only [AllP]; (repeat' first | exact trivial | assumption | exact Nat.le_of_ble_eq_true rfl | apply And.intro | intro _ | exact rfl))
      · (dsimp only [AllP]; (repeat' first | exact trivial | assumption | exact Nat.le_of_ble_eq_true rfl | apply And.intro | intro _ | exact rfl))
      · (dsimp only [AllP]; (repeat' first | exact trivial | assumption | exact Nat.le_of_ble_eq_true rfl | apply And.intro | intro _ | exact rfl))
      have h := of_decide_eq_true h
      refine ⟨k + 1, by omega, by omega, le_of (ad := []) ⟨?_, ⟨rfl, rfl, rfl, rfl⟩, rfl, congrArg (fun z : Int => E.v (.int .i64 z)) (wrap64_id (by omega) (by omega)), trivial⟩ (memOk_row rfl rfl rfl trivial)⟩
      have e := hexStep (hexF (l.take k)) (digF c)
      have hd : digF c = c - 97 + 10 := if_pos (by omega)
      have ed : IntKind.u8.wrap (IntKind.u8.wrap ((c.toNat : Int) - 97) + 10) = ((digF c).toNat : Int) := by
        rw [hd, ← b_add, ← b_sub]
        rfl
      rw [← hexF_snoc, ← hc, ← take_snocB l k hkl, hc, ← ed] at e
      exact congrArg (fun z => E.v (.int .u32 z)) e
    · repeat' (first | refine tr_seq ?_ | refine reg (T := tab) tOk hnt rfl ?_ ?_ | refine regD (T := tab) tOk mixedR hnt rfl (by decide +kernel) ?_ ?_ | refine tr_block ?_ | refine tr_skip ?_)
      · (dsimp only [AllP]; (repeat' first | exact trivial | assumption | exact Nat.le_of_ble_eq_true rfl | apply And.intro | intro _ | exact rfl))
      · (dsimp only [AllP]; (repeat' first | exact trivial | assumption | exact Nat.le_of_ble_eq_true rfl | apply And.intro | intro _ | exact rfl))
      have h := of_decide_eq_false h
      refine ⟨k + 1, by omega, by omega, le_of (ad := []) ⟨?_, ⟨rfl, rfl, rfl, rfl⟩, rfl, congrArg (fun z : Int => E.v (.int .i64 z)) (wrap64_id (by omega) (by omega)), trivial⟩ (memOk_row rfl rfl rfl trivial)⟩
      have e := hexStep (hexF (l.take k)) (digF c)
      have hd : digF c = c - 48 := if_neg (by omega)
      have ed : IntKind.u8.wrap ((c.toNat : Int) - 48) = ((digF c).toNat : Int) := by
        rw [hd, ← b_sub]
        rfl
      rw [← hexF_snoc, ← hc, ← take_snocB l k hkl, hc, ← ed] at e
      exact congrArg (fun z => E.v (.int .u32 z)) e
  have h := of_decide_eq_false h
  have hk : k = 8 := by omega
  subst hk
  refine tr_exit ?_
  repeat' (first | refine tr_seq ?_ | refine reg (T := tab) tOk hnt rfl ?_ ?_ | refine regD (T := tab) tOk mixedR hnt rfl (by decide +kernel) ?_ ?_ | refine tr_cond rfl (fun _ => ?_) (fun _ => ?_) | refine tr_block ?_ | refine tr_skip ?_ | refine tr_ret ?_ | refine tr_exit ?_)
  · (dsimp only [AllP]; (repeat' first | exact trivial | assumption | exact Nat.le_of_ble_eq_true rfl | apply And.intro | intro _ | exact rfl))
  refine ⟨.inr rfl, _, _, rfl, by trivial, ?_⟩
  rw [List.take_of_length_le (by omega)]
  rfl
/-- a number's bytes, the great one first -/
def bigF (n : Nat) : Nat → List UInt8
  | 0 => []
  | k + 1 => bigF (n / 256) k ++ [UInt8.ofNat n]
theorem bigF_len (n : Nat) : ∀ k, (bigF n k).length = k
  | 0 => rfl
  | k + 1 => by rw [bigF, List.length_append, bigF_len (n / 256) k]; rfl
theorem ofNatB (n : Nat) : IntKind.u8.wrap (n : Int) = ((UInt8.ofNat n).toNat : Int) := by
  unfold IntKind.wrap
  simp [IntKind.bits, IntKind.signed]
theorem bytesOf_one (c : UInt8) : bytesOf [[E.v (.int .u8 (c.toNat : Int))]] = strB [c] := bytesOf_eCells [c]
theorem strB_app (l r : List UInt8) : strB l ++ strB r = strB (l ++ r) := by
  unfold strB
  apply ByteArray.ext
  simp
set_option maxRecDepth 10000 in
theorem big_fn (n : Nat) (size : Nat) (h : size ≤ 1000) : FnD Tryd.prog 133 [.v (.int .u64 (n : Int)), .one (.e (eI size))] (.v (.string (strB (bigF n size)))) := by
  refine fn_intro (T := tab) tOk Tryd.func133 rfl (by kernel_rfl) (by simp [Tryd.ntmps133]) ?_
  intro X hX
  have hnt : X.nt = 19 := hX
  clear hX
  repeat' (first | refine tr_seq ?_ | refine reg (T := tab) tOk hnt rfl ?_ ?_ | refine regD (T := tab) tOk mixedR hnt rfl (by decide +kernel) ?_ ?_ | refine tr_block ?_ | refine tr_skip ?_)
  · (dsimp only [AllP]; (repeat' first | exact trivial | assumption | exact Nat.le_of_ble_eq_true rfl | apply And.intro | intro _ | exact rfl | decide))
  · (dsimp only [AllP]; (repeat' first | exact trivial | assumption | exact Nat.le_of_ble_eq_true rfl | apply And.intro | intro _ | exact rfl | decide))
  · (dsimp only [AllP]; (repeat' first | exact trivial | assumption | exact Nat.le_of_ble_eq_true rfl | apply And.intro | intro _ | exact rfl | decide))
  refine tr_loop (σ := Nat × Nat × List UInt8) (fun x => St.of [(0, .v (.int .u64 (x.2.1 : Int))), (5, .v (.string (strB x.2.2))), (6, .v (.int .i64 size)), (7, .v (.int .i64 x.1))] []) (fun x => x.1 ≤ size ∧ bigF x.2.1 (size - x.1) ++ x.2.2 = bigF n size ∧ x.2.2.length = x.1) (fun x => size - x.1) (0, n, []) (le_of (ad := []) ⟨rfl, rfl, rfl, rfl, trivial⟩ trivial) ⟨Nat.zero_le _, List.append_nil _, rfl⟩ ?_
  rintro ⟨k, m, acc⟩ ⟨j1, j2, j3⟩
  dsimp only at j1 j2 j3 ⊢
  refine tr_seq (reg (T := tab) tOk hnt rfl (by (dsimp only [AllP]; (repeat' first | exact trivial | assumption | exact Nat.le_of_ble_eq_true rfl | apply And.intro | intro _ | exact rfl | decide))) ?_)
  refine tr_seq (tr_cond rfl (fun h => ?_) (fun h => ?_))
  · have h := of_decide_eq_true h
    have hk : k < size := by omega
    refine tr_skip ?_
    repeat' (first | refine tr_seq ?_ | refine tr_block ?_ | refine tr_skip ?_)
    refine reg (T := tab) tOk hnt rfl ?_ ?_
    · rw [ofNatB, bytesOf_one]
      refine ⟨trivial, ?_, trivial, fun cs hc => ?_, ⟨⟨rfl, trivial⟩, by decide, by decide⟩, trivial, trivial⟩
      · show (strB [UInt8.ofNat m]).size + (strB acc).size ≤ maxLen
        rw [strB_size, strB_size, maxLen]
        simp
        omega
      · rw [List.mem_singleton] at hc
        subst hc
        exact ⟨_, rfl⟩
    rw [ofNatB, bytesOf_one, strB_app]
    repeat' (first | refine tr_seq ?_ | refine reg (T := tab) tOk hnt rfl ?_ ?_ | refine regD (T := tab) tOk mixedR hnt rfl (by decide +kernel) ?_ ?_ | refine tr_block ?_ | refine tr_skip ?_)
    · (dsimp only [AllP]; (repeat' first | exact trivial | assumption | exact Nat.le_of_ble_eq_true rfl | apply And.intro | intro _ | exact rfl | decide))
    · (dsimp only [AllP]; (repeat' first | exact trivial | assumption | exact Nat.le_of_ble_eq_true rfl | apply And.intro | intro _ | exact rfl | decide))
    have hdiv : Int.fdiv (m : Int) (2 ^ min (Int.toNat 8) 64) = ((m / 256 : Nat) : Int) := by
      rw [show min (Int.toNat 8) 64 = 8 from rfl, Int.fdiv_eq_ediv_of_nonneg _ (by decide)]
      rfl
    refine ⟨(k + 1, m / 256, UInt8.ofNat m :: acc), ⟨hk, ?_, by simp; omega⟩, by dsimp only; omega, le_of (ad := []) ⟨congrArg (fun z : Int => E.v (.int .u64 z)) hdiv, rfl, rfl, congrArg (fun z : Int => E.v (.int .i64 z)) (wrap64_id (by omega) (by omega)), trivial⟩ trivial⟩
    dsimp only
    rw [← j2, show size - k = (size - (k + 1)) + 1 by omega, bigF, List.append_assoc]
    rfl
  have h := of_decide_eq_false h
  have hk : k = size := by omega
  subst hk
  refine tr_exit ?_
  repeat' (first | refine tr_seq ?_ | refine reg (T := tab) tOk hnt rfl ?_ ?_ | refine regD (T := tab) tOk mixedR hnt rfl (by decide +kernel) ?_ ?_ | refine tr_cond rfl (fun _ => ?_) (fun _ => ?_) | refine tr_block ?_ | refine tr_skip ?_ | refine tr_ret ?_ | refine tr_exit ?_)
  · (dsimp only [AllP]; (repeat' first | exact trivial | assumption | exact Nat.le_of_ble_eq_true rfl | apply And.intro | intro _ | exact rfl | decide))
  refine ⟨.inr rfl, _, _, rfl, by trivial, ?_⟩
  rw [← j2, Nat.sub_self]
  rfl
end Go.Proofs.YtphaholcndhonaaDoor
namespace Go.Proofs.YtphaholcndhonaaDoor
open Go Go.RowKit Go.Proofs.YtphaholcndhonaaDoor.Ab

def wCells (l : List W) : List (List E) := l.map fun w => [eW w]
def eWs (l : List W) : E := .sl (wCells l)
theorem wCells_length (l : List W) : (wCells l).length = l.length := by simp [wCells]
theorem wCells_getD (l : List W) {i : Nat} (h : i < l.length) : (wCells l).getD i [] = [eW (l.getD i 0)] := by
  simp [wCells, h]
theorem four (l : List UInt8) (k : Nat) (h : 4 * k + 4 ≤ l.length) : (l.take (4 * k + 4)).drop (4 * k) = [l.getD (4 * k) 0, l.getD (4 * k + 1) 0, l.getD (4 * k + 2) 0, l.getD (4 * k + 3) 0] := by
  apply List.ext_getElem
  · simp
    omega
  · intro i h1 h2
    have h2 : i < 4 := by simpa using h2
    rcases (show i = 0 ∨ i = 1 ∨ i = 2 ∨ i = 3 by omega) with rfl | rfl | rfl | rfl <;> simp [List.getD] <;> rw [List.getElem?_eq_getElem (by omega)] <;> rfl
theorem numF_word (l : List UInt8) (k : Nat) (h : 4 * k + 4 ≤ l.length) : IntKind.u32.wrap ((numF ((l.take (4 * k + 4)).drop (4 * k)) : Nat) : Int) = ((word4 l k).toNat : Int) := by
  rw [four l k h, w_wrap, BitVec.ofInt_natCast]
  unfold word4 wordW
  generalize l.getD (4 * k) 0 = a
  generalize l.getD (4 * k + 1) 0 = b
  generalize l.getD (4 * k + 2) 0 = c
  generalize l.getD (4 * k + 3) 0 = d
  have ha := a.toNat_lt
  have hb := b.toNat_lt
  have hc := c.toNat_lt
  have hd := d.toNat_lt
  have : numF [a, b, c, d] = a.toNat * 16777216 + b.toNat * 65536 + c.toNat * 256 + d.toNat := by
    unfold numF
    simp only [List.foldl_cons, List.foldl_nil]
    omega
  rw [this]
theorem words_succ (b : List UInt8) (n : Nat) : words b (n + 1) = words b n ++ [word4 b n] := by
  simp [words, List.range_succ]
theorem words_len (b : List UInt8) (n : Nat) : (words b n).length = n := by simp [words]
theorem wCells_app (l : List W) (w : W) : wCells l ++ [[eW w]] = wCells (l ++ [w]) := by simp [wCells]
abbrev oW (n : Int) : BitVec IntKind.u32.bits := BitVec.ofInt IntKind.u32.bits n
abbrev wW (n : Int) : Int := IntKind.u32.wrap n
theorem sg0V (x : W) : wW (((oW (wW (((oW ((rotr x 7).toNat : Int)) ^^^ (oW ((rotr x 18).toNat : Int))).toNat : Int))) ^^^ (oW (Int.fdiv (x.toNat : Int) (2 ^ min (Int.toNat 3) IntKind.u32.bits)))).toNat : Int) = ((sg0 x).toNat : Int) := by
  unfold wW oW
  rw [show min (Int.toNat 3) IntKind.u32.bits = 3 from rfl, w_shr, w_xor, w_xor]
  rfl
theorem sg1V (x : W) : wW (((oW (wW (((oW ((rotr x 17).toNat : Int)) ^^^ (oW ((rotr x 19).toNat : Int))).toNat : Int))) ^^^ (oW (Int.fdiv (x.toNat : Int) (2 ^ min (Int.toNat 10) IntKind.u32.bits)))).toNat : Int) = ((sg1 x).toNat : Int) := by
  unfold wW oW
  rw [show min (Int.toNat 10) IntKind.u32.bits = 10 from rfl, w_shr, w_xor, w_xor]
  rfl
theorem schV (a b x y : W) : wW (wW (wW ((a.toNat : Int) + (b.toNat : Int)) + wW (((oW (wW (((oW ((rotr x 7).toNat : Int)) ^^^ (oW ((rotr x 18).toNat : Int))).toNat : Int))) ^^^ (oW (Int.fdiv (x.toNat : Int) (2 ^ min (Int.toNat 3) IntKind.u32.bits)))).toNat : Int)) +
    wW (((oW (wW (((oW ((rotr y 17).toNat : Int)) ^^^ (oW ((rotr y 19).toNat : Int))).toNat : Int))) ^^^ (oW (Int.fdiv (y.toNat : Int) (2 ^ min (Int.toNat 10) IntKind.u32.bits)))).toNat : Int)) = ((a + sg0 x + b + sg1 y).toNat : Int) := by
  rw [sg0V, sg1V]
  unfold wW
  rw [w_add, w_add, w_add, BitVec.add_assoc a b, BitVec.add_comm b, ← BitVec.add_assoc]
theorem roomW (l : List W) (xs : List (List E)) (hx : xs.length = 1) (h : l.length ≤ 1000) : (wCells l).length + xs.length ≤ maxLen ∧ ((wCells l).length + xs.length) * 4 ≤ 140737488355328 := by
  rw [wCells_length, hx, maxLen]
  omega
set_option maxRecDepth 10000 in
theorem schedule_fn (s : ByteArray) (h : 64 ≤ s.size) (hs : s.size ≤ 1000000000) : FnD Tryd.prog 202 [.v (.string s)] (.one (.e (eWs (sch s.data.toList 48)))) := by
  refine fn_intro (T := tab) tOk Tryd.func202 rfl (by kernel_rfl) (by simp [Tryd.ntmps202]) ?_
  intro X hX
  have hnt : X.nt = 72 := hX
  clear hX
  have hsz : s.data.toList.length = s.size := rfl
  repeat' (first | refine tr_seq ?_ | refine reg (T := tab) tOk hnt rfl ?_ ?_ | refine regD (T := tab) tOk mixedR hnt rfl (by decide +kernel) ?_ ?_ | refine tr_block ?_ | refine tr_skip ?_)
  · (dsimp only [AllP]; (repeat' first | exact trivial | assumption | exact Nat.le_of_ble_eq_true rfl | apply And.intro | intro _ | exact rfl))
  · (dsimp only [AllP]; (repeat' first | exact trivial | assumption | exact Nat.le_of_ble_eq_true rfl | apply And.intro | intro _ | exact rfl))
  · (dsimp only [AllP]; (repeat' first | exact trivial | assumption | exact Nat.le_of_ble_eq_true rfl | apply And.intro | intro _ | exact rfl))
  refine tr_loop (σ := Nat) (fun k => St.of [(0, .v (.string s)), (3, .one (.own 23 0)), (4, .v (.int .i64 k))] [(23, ⟨0, .row 1 (wCells (words s.data.toList k)), 0⟩)]) (fun k => k ≤ 16) (fun k => 16 - k) 0 (le_of (ad := [23]) ⟨rfl, ⟨rfl, rfl⟩, rfl, trivial⟩ (memOk_new rfl (by decide) trivial)) (Nat.zero_le _) ?_
  intro k hk
  repeat' (first | refine tr_seq ?_ | refine reg (T := tab) tOk hnt rfl ?_ ?_ | refine regD (T := tab) tOk mixedR hnt rfl (by decide +kernel) ?_ ?_ | refine tr_block ?_ | refine tr_skip ?_)
  · (dsimp only [AllP]; (repeat' first | exact trivial | assumption | exact Nat.le_of_ble_eq_true rfl | apply And.intro | intro _ | exact rfl))
  refine tr_cond rfl (fun h => ?_) (fun h => ?_)
  · have h := of_decide_eq_true h
    have hk16 : k < 16 := by omega
    repeat' (first | refine tr_seq ?_ | refine tr_block ?_ | refine tr_skip ?_)
    have e1 : IntKind.i64.wrap (4 * (k : Int)) = ((4 * k : Nat) : Int) := by rw [wrap64_id (by omega) (by omega)]; omega
    have e2 : IntKind.i64.wrap (((4 * k : Nat) : Int) + 4) = ((4 * k + 4 : Nat) : Int) := by rw [wrap64_id (by omega) (by omega)]; omega
    have e3 : (s.extract (4 * k) (4 * k + 4)).data.toList = (s.data.toList.take (4 * k + 4)).drop (4 * k) := ext_list _ _ _
    have e4 := numF_word s.data.toList k (by omega)
    rw [← e3] at e4
    refine tr_region (lex (T := tab) tOk hnt rfl ?_ (call rfl rfl rfl rfl rfl rfl rfl hnt (num_fn _ ?_) (lex (T := tab) tOk hnt rfl ?_ (Lex.nil _)))) ?_
    · dsimp only [AllP]
      rw [e1, e2]
      exact ⟨⟨Int.natCast_nonneg _, by omega, by omega⟩, rfl, rfl, trivial, rfl, trivial, trivial, trivial⟩
    · rw [e1, e2, Int.toNat_natCast, Int.toNat_natCast]
      simp
      omega
    · exact ⟨trivial, ⟨trivial, roomW _ _ rfl (by rw [words_len]; omega)⟩, ⟨⟨rfl, trivial⟩, by decide, by decide⟩, trivial⟩
    rw [e1, e2, Int.toNat_natCast, Int.toNat_natCast, e4]
    repeat' (first | refine tr_seq ?_ | refine reg (T := tab) tOk hnt rfl ?_ ?_ | refine regD (T := tab) tOk mixedR hnt rfl (by decide +kernel) ?_ ?_ | refine tr_block ?_ | refine tr_skip ?_)
    · (dsimp only [AllP]; (repeat' first | exact trivial | assumption | exact Nat.le_of_ble_eq_true rfl | apply And.intro | intro _ | exact rfl))
    refine ⟨k + 1, by omega, by omega, le_of (ad := []) ⟨rfl, ⟨rfl, rfl, rfl, rfl⟩, congrArg (fun z : Int => E.v (.int .i64 z)) (wrap64_id (by omega) (by omega)), trivial⟩ (memOk_row rfl rfl ?_ trivial)⟩
    rw [words_succ, ← wCells_app]
    rfl
  have h := of_decide_eq_false h
  have hk : k = 16 := by omega
  subst hk
  refine tr_exit ?_
  repeat' (first | refine tr_seq ?_ | refine tr_block ?_ | refine tr_skip ?_)
  refine tr_loop (σ := Nat) (fun m => St.of [(3, .one (.own 23 0))] [(23, ⟨0, .row 1 (wCells (sch s.data.toList m)), 0⟩)]) (fun m => m ≤ 48) (fun m => 48 - m) 0 (le_of (ad := []) ⟨⟨rfl, rfl, rfl, rfl⟩, trivial⟩ (memOk_row rfl rfl rfl trivial)) (Nat.zero_le _) ?_
  intro m hm
  have hL : (wCells (sch s.data.toList m)).length = 16 + m := by rw [wCells_length, sch_len]
  repeat' (first | refine tr_seq ?_ | refine reg (T := tab) tOk hnt rfl ?_ ?_ | refine regD (T := tab) tOk mixedR hnt rfl (by decide +kernel) ?_ ?_ | refine tr_block ?_ | refine tr_skip ?_)
  · (dsimp only [AllP]; (repeat' first | exact trivial | assumption | exact Nat.le_of_ble_eq_true rfl | apply And.intro | intro _ | exact rfl))
  rw [hL]
  refine tr_cond rfl (fun h => ?_) (fun h => ?_)
  · have h := of_decide_eq_true h
    have hm48 : m < 48 := by omega
    have hj : ∀ j : Nat, j ≤ 16 → IntKind.i64.wrap (((16 + m : Nat) : Int) - (j : Int)) = ((16 + m - j : Nat) : Int) := fun j hj => by rw [wrap64_id (by omega) (by omega)]; omega
    have f15 : IntKind.i64.wrap (((16 + m : Nat) : Int) - 15) = ((16 + m - 15 : Nat) : Int) := hj 15 (by decide)
    have f2 : IntKind.i64.wrap (((16 + m : Nat) : Int) - 2) = ((16 + m - 2 : Nat) : Int) := hj 2 (by decide)
    have f16 : IntKind.i64.wrap (((16 + m : Nat) : Int) - 16) = ((16 + m - 16 : Nat) : Int) := hj 16 (by decide)
    have f7 : IntKind.i64.wrap (((16 + m : Nat) : Int) - 7) = ((16 + m - 7 : Nat) : Int) := hj 7 (by decide)
    have hg : ∀ j, j < 16 + m → (wCells (sch s.data.toList m)).getD j [] = [eW ((sch s.data.toList m).getD j 0)] := fun j hj => wCells_getD _ (by rw [sch_len]; exact hj)
    repeat' (first | refine tr_seq ?_ | refine tr_block ?_ | refine tr_skip ?_)
    refine reg (T := tab) tOk hnt rfl (by (dsimp only [AllP]; (repeat' first | exact trivial | assumption | exact Nat.le_of_ble_eq_true rfl | apply And.intro | intro _ | exact rfl))) ?_
    rw [hL]
    repeat' (first | refine tr_seq ?_ | refine tr_block ?_ | refine tr_skip ?_)
    refine regD (T := tab) tOk mixedR hnt rfl (by decide +kernel) ?_ ?_
    · rw [f15, f2, Int.toNat_natCast, Int.toNat_natCast, hg _ (by omega), hg _ (by omega), hL]
      exact ⟨trivial, trivial, ⟨Nat.le_of_ble_eq_true rfl, rfl⟩, ⟨Int.natCast_nonneg _, by omega⟩, rfl, trivial, trivial, ⟨Nat.le_of_ble_eq_true rfl, rfl⟩, ⟨Int.natCast_nonneg _, by omega⟩, rfl, trivial, trivial⟩
    rw [f15, f2, Int.toNat_natCast, Int.toNat_natCast, hg _ (by omega), hg _ (by omega)]
    refine tr_draw (T := tab) tOk hnt mixedR (lexD (T := tab) rfl ?_ (callD rfl rfl rfl rfl rfl rfl rfl rfl (rot_fn ((sch s.data.toList m).getD (16 + m - 15) 0) 7 (by decide)) (lexD (T := tab) rfl ?_ (callD rfl rfl rfl rfl rfl rfl rfl rfl (rot_fn ((sch s.data.toList m).getD (16 + m - 15) 0) 18 (by decide)) (lexD (T := tab) rfl ?_ (callD rfl rfl rfl rfl rfl rfl rfl rfl (rot_fn ((sch s.data.toList m).getD (16 + m - 2) 0) 17 (by decide)) (lexD (T := tab) rfl ?_ (callD rfl rfl rfl rfl rfl rfl rfl rfl (rot_fn ((sch s.data.toList m).getD (16 + m - 2) 0) 19 (by decide)) (lexD (T := tab) rfl ?_ (.nil _)))))))))) (by decide +kernel) ?_
    · dsimp only [AllP]
      rw [f16, f7, Int.toNat_natCast, Int.toNat_natCast, hg _ (by omega), hg _ (by omega), hL]
      exact ⟨trivial, rfl, ⟨Nat.le_of_ble_eq_true rfl, rfl⟩, ⟨Int.natCast_nonneg _, by omega⟩, rfl, trivial, trivial, ⟨Nat.le_of_ble_eq_true rfl, rfl⟩, ⟨Int.natCast_nonneg _, by omega⟩, rfl, trivial, trivial, trivial⟩
    · exact trivial
    · exact ⟨trivial, rfl, rfl, (show (0 : Int) ≤ 3 by decide), trivial, rfl⟩
    · exact trivial
    · refine ⟨trivial, ⟨trivial, roomW _ _ rfl (by rw [sch_len]; omega)⟩, ⟨⟨rfl, trivial⟩, by decide, by decide⟩, ?_⟩
      exact ⟨rfl, rfl, (show (0 : Int) ≤ 10 by decide), trivial, rfl⟩
    rw [f16, f7, Int.toNat_natCast, Int.toNat_natCast, hg _ (by omega), hg _ (by omega)]
    refine ⟨m + 1, by omega, by omega, le_of (ad := []) ⟨⟨rfl, rfl, rfl, rfl⟩, trivial⟩ (memOk_row rfl rfl ?_ trivial)⟩
    rw [sch, ← wCells_app, nextW, sch_len, ]
    refine congrArg (fun z : Int => wCells (sch s.data.toList m) ++ [[E.v (.int .u32 z)]]) ?_
    exact schV _ _ _ _
  have h := of_decide_eq_false h
  have hm : m = 48 := by omega
  subst hm
  refine tr_exit ?_
  repeat' (first | refine tr_seq ?_ | refine reg (T := tab) tOk hnt rfl ?_ ?_ | refine regD (T := tab) tOk mixedR hnt rfl (by decide +kernel) ?_ ?_ | refine tr_cond rfl (fun _ => ?_) (fun _ => ?_) | refine tr_block ?_ | refine tr_skip ?_ | refine tr_ret ?_ | refine tr_exit ?_)
  · (dsimp only [AllP]; (repeat' first | exact trivial | assumption | exact Nat.le_of_ble_eq_true rfl | apply And.intro | intro _ | exact rfl))
  exact ⟨.inr rfl, _, _, rfl, by trivial, rfl⟩
end Go.Proofs.YtphaholcndhonaaDoor
namespace Go.Proofs.YtphaholcndhonaaDoor
open Go Go.RowKit Go.Proofs.YtphaholcndhonaaDoor.Ab

def chkK (s : ByteArray) : Bool := Nat.beq s.data.toList.length 512 && (List.range 64).all fun i => decide (hexF ((s.data.toList.take (8 * i + 8)).drop (8 * i)) = kW.getD i 0)
theorem hexK_fn (s : ByteArray) (i : Nat) (hs : chkK s = true) (h : i < 64) : FnD Tryd.prog 183 [.v (.string s), .one (.e (eI i))] (dW (kW.getD i 0)) := by
  unfold chkK at hs
  rw [Bool.and_eq_true] at hs
  have h1 : s.size = 512 := Nat.eq_of_beq_eq_true hs.1
  have h2 := of_decide_eq_true (List.all_eq_true.1 hs.2 i (List.mem_range.2 h))
  have := hexWord_fn s i (by omega) (by omega)
  rw [h2] at this
  exact this
def hE (v : H8) : List E := v.l.map eW
def hZ : H8 := ⟨0, 0, 0, 0, 0, 0, 0, 0⟩
def compW (h : H8) (w : List W) : H8 := (roundsW h w 64).add h
/-- a fact that no tactic is to look into -/
structure Hd (p : Prop) : Prop where
  out : p
theorem tr_le {P : Program} {X : Ctx} {c : Code} {s s' : St} {Q : Exit → St → Prop} (h : Le X s s') (k : Tr P X c s' Q) : Tr P X c s Q := fun a w hR => k a w (h a w hR)
theorem chV (e f g : W) : wW (((oW (wW (((oW (e.toNat : Int)) &&& (oW (f.toNat : Int))).toNat : Int))) ||| (oW (wW (((oW (wW (((oW 4294967295) ^^^ (oW (e.toNat : Int))).toNat : Int))) &&& (oW (g.toNat : Int))).toNat : Int)))).toNat : Int) = ((chW e f g).toNat : Int) := by
  unfold wW oW
  rw [w_and, w_not, w_and, w_or, ch_or]
theorem mostV (a b c : W) : wW (((oW (wW (((oW (wW (((oW (a.toNat : Int)) &&& (oW (b.toNat : Int))).toNat : Int))) ||| (oW (wW (((oW (a.toNat : Int)) &&& (oW (c.toNat : Int))).toNat : Int)))).toNat : Int))) ||| (oW (wW (((oW (b.toNat : Int)) &&& (oW (c.toNat : Int))).toNat : Int)))).toNat : Int) = ((majW a b c).toNat : Int) := by
  unfold wW oW
  rw [w_and, w_and, w_or, w_and, w_or, maj_or]
theorem S1V (e : W) : wW (((oW (wW (((oW ((rotr e 6).toNat : Int)) ^^^ (oW ((rotr e 11).toNat : Int))).toNat : Int))) ^^^ (oW ((rotr e 25).toNat : Int))).toNat : Int) = ((Sg1 e).toNat : Int) := by
  unfold wW oW
  rw [w_xor, w_xor]
  rfl
theorem S0V (e : W) : wW (((oW (wW (((oW ((rotr e 2).toNat : Int)) ^^^ (oW ((rotr e 13).toNat : Int))).toNat : Int))) ^^^ (oW ((rotr e 22).toNat : Int))).toNat : Int) = ((Sg0 e).toNat : Int) := by
  unfold wW oW
  rw [w_xor, w_xor]
  rfl
theorem oneV (x e c k w : W) : wW (wW (wW (wW ((x.toNat : Int) + wW (((oW (wW (((oW ((rotr e 6).toNat : Int)) ^^^ (oW ((rotr e 11).toNat : Int))).toNat : Int))) ^^^ (oW ((rotr e 25).toNat : Int))).toNat : Int)) + (c.toNat : Int)) + (k.toNat : Int)) + (w.toNat : Int)) = ((x + Sg1 e + c + k + w).toNat : Int) := by
  rw [S1V]
  unfold wW
  rw [w_add, w_add, w_add, w_add]
theorem twoV (a m : W) : wW (wW (((oW (wW (((oW ((rotr a 2).toNat : Int)) ^^^ (oW ((rotr a 13).toNat : Int))).toNat : Int))) ^^^ (oW ((rotr a 22).toNat : Int))).toNat : Int) + (m.toNat : Int)) = ((Sg0 a + m).toNat : Int) := by
  rw [S0V]
  exact w_add _ _
theorem addV (x y : W) : wW ((x.toNat : Int) + (y.toNat : Int)) = ((y + x).toNat : Int) := by
  rw [BitVec.add_comm]
  exact w_add _ _
theorem eWq {a b : Int} (h : a = b) : E.v (.int .u32 a) = E.v (.int .u32 b) := by rw [h]
set_option maxRecDepth 10000 in
set_option maxHeartbeats 400000 in
theorem block_fn (h : H8) (s : ByteArray) (h64 : 64 ≤ s.size) (hs : s.size ≤ 1000000000) : FnD Tryd.prog 194 [.agg (.es (hE h)), .v (.string s)] (.agg (.es (hE (comp h s.data.toList)))) := by
  refine fn_intro (T := tab) tOk Tryd.func194 rfl (by kernel_rfl) (by simp [Tryd.ntmps194]) ?_
  intro X hX
  have hnt : X.nt = 135 := hX
  clear hX
  repeat' (first | refine tr_seq ?_ | refine reg (T := tab) tOk hnt rfl ?_ ?_ | refine regD (T := tab) tOk mixedR hnt rfl (by decide +kernel) ?_ ?_ | refine tr_block ?_ | refine tr_skip ?_)
  · (dsimp only [AllP]; (repeat' first | exact trivial | assumption | exact Nat.le_of_ble_eq_true rfl | apply And.intro | intro _ | exact rfl))
  refine tr_region (lex (T := tab) tOk hnt rfl ?_ (call rfl rfl rfl rfl rfl rfl rfl hnt (schedule_fn s h64 hs) (lex (T := tab) tOk hnt rfl ?_ (Lex.nil _)))) ?_
  · (dsimp only [AllP]; (repeat' first | exact trivial | assumption | exact Nat.le_of_ble_eq_true rfl | apply And.intro | intro _ | exact rfl))
  · (dsimp only [AllP]; (repeat' first | exact trivial | assumption | exact Nat.le_of_ble_eq_true rfl | apply And.intro | intro _ | exact rfl))
  repeat' (first | refine tr_seq ?_ | refine reg (T := tab) tOk hnt rfl ?_ ?_ | refine regD (T := tab) tOk mixedR hnt rfl (by decide +kernel) ?_ ?_ | refine tr_block ?_ | refine tr_skip ?_)
  · (dsimp only [AllP]; (repeat' first | exact trivial | assumption | exact Nat.le_of_ble_eq_true rfl | apply And.intro | intro _ | exact rfl | decide))
  · (dsimp only [AllP]; (repeat' first | exact trivial | assumption | exact Nat.le_of_ble_eq_true rfl | apply And.intro | intro _ | exact rfl | decide))
  have hwl : (sch s.data.toList 48).length = 64 := sch_len _ _
  rw [show comp h s.data.toList = compW h (sch s.data.toList 48) from rfl]
  generalize sch s.data.toList 48 = w at hwl ⊢
  have hg : ∀ j, j < 64 → (wCells w).getD j [] = [eW (w.getD j 0)] := fun j hj => wCells_getD _ (by omega)
  refine tr_loop (σ := Nat) (fun i => St.of [(2, .one (.ptr 2 0 0)), (4, .one (.ptr 4 0 0)), (5, .one (.e (eWs w))), (6, dW (roundsW h w i).a), (7, dW (roundsW h w i).b), (8, dW (roundsW h w i).c), (9, dW (roundsW h w i).d), (10, dW (roundsW h w i).e), (11, dW (roundsW h w i).f), (12, dW (roundsW h w i).g), (13, dW (roundsW h w i).h), (14, .v (.int .i64 i))] [(2, ⟨0, .box (.es (hE h)), 0⟩), (4, ⟨0, .box (.es (hE hZ)), 0⟩)]) (fun i => i ≤ 64) (fun i => 64 - i) 0 (le_of (ad := []) ⟨⟨rfl, rfl, rfl, rfl, rfl⟩, ⟨rfl, rfl, rfl, rfl, rfl⟩, rfl, rfl, rfl, rfl, rfl, rfl, rfl, rfl, rfl, rfl, trivial⟩ (memOk_box rfl rfl rfl (memOk_box rfl rfl rfl trivial))) (Nat.zero_le _) ?_
  intro i hi
  have hv : ∃ v, roundsW h w i = v ∧ Hd (roundsW h w i = v) := ⟨_, rfl, ⟨rfl⟩⟩
  obtain ⟨v, hv1, hv⟩ := hv
  rw [hv1]
  clear hv1
  repeat' (first | refine tr_seq ?_ | refine reg (T := tab) tOk hnt rfl ?_ ?_ | refine regD (T := tab) tOk mixedR hnt rfl (by decide +kernel) ?_ ?_ | refine tr_block ?_ | refine tr_skip ?_)
  · (dsimp only [AllP]; (repeat' first | exact trivial | assumption | exact Nat.le_of_ble_eq_true rfl | apply And.intro | intro _ | exact rfl))
  refine tr_cond rfl (fun hc => ?_) (fun hc => ?_)
  · have hc := of_decide_eq_true hc
    have hi64 : i < 64 := by omega
    repeat' (first | refine tr_seq ?_ | refine reg (T := tab) tOk hnt rfl ?_ ?_ | refine regD (T := tab) tOk mixedR hnt rfl (by decide +kernel) ?_ ?_ | refine tr_block ?_ | refine tr_skip ?_)
    · (dsimp only [AllP]; (repeat' first | exact trivial | assumption | exact Nat.le_of_ble_eq_true rfl | apply And.intro | intro _ | exact rfl))
    · (dsimp only [AllP]; (repeat' first | exact trivial | assumption | exact Nat.le_of_ble_eq_true rfl | apply And.intro | intro _ | exact rfl))
    refine tr_le (s' := St.of [(2, .one (.ptr 2 0 0)), (4, .one (.ptr 4 0 0)), (5, .one (.e (eWs w))), (6, dW v.a), (7, dW v.b), (8, dW v.c), (9, dW v.d), (10, dW v.e), (11, dW v.f), (12, dW v.g), (13, dW v.h), (14, .v (.int .i64 i)), (15, dW (chW v.e v.f v.g)), (16, dW (majW v.a v.b v.c))] [(2, ⟨0, .box (.es (hE h)), 0⟩), (4, ⟨0, .box (.es (hE hZ)), 0⟩)]) (le_of (ad := []) ⟨⟨rfl, rfl, rfl, rfl, rfl⟩, ⟨rfl, rfl, rfl, rfl, rfl⟩, rfl, rfl, rfl, rfl, rfl, rfl, rfl, rfl, rfl, rfl, eWq (chV v.e v.f v.g), eWq (mostV v.a v.b v.c), trivial⟩ (memOk_box rfl rfl rfl (memOk_box rfl rfl rfl trivial))) ?_
    refine tr_draw (T := tab) tOk hnt mixedR (lexD (T := tab) rfl ?_ (callD rfl rfl rfl rfl rfl rfl rfl rfl (rot_fn v.e 6 (by decide)) (lexD (T := tab) rfl ?_ (callD rfl rfl rfl rfl rfl rfl rfl rfl (rot_fn v.e 11 (by decide)) (lexD (T := tab) rfl ?_ (callD rfl rfl rfl rfl rfl rfl rfl rfl (rot_fn v.e 25 (by decide)) (lexD (T := tab) rfl ?_ (callD rfl rfl rfl rfl rfl rfl rfl rfl (hexK_fn _ i (by decide +kernel) hi64) (lexD (T := tab) rfl ?_ (.nil _)))))))))) (by decide +kernel) ?_
    · (dsimp only [AllP]; (repeat' first | exact trivial | assumption | exact Nat.le_of_ble_eq_true rfl | apply And.intro | intro _ | exact rfl))
    · (dsimp only [AllP]; (repeat' first | exact trivial | assumption | exact Nat.le_of_ble_eq_true rfl | apply And.intro | intro _ | exact rfl))
    · (dsimp only [AllP]; (repeat' first | exact trivial | assumption | exact Nat.le_of_ble_eq_true rfl | apply And.intro | intro _ | exact rfl))
    · (dsimp only [AllP]; (repeat' first | exact trivial | assumption | exact Nat.le_of_ble_eq_true rfl | apply And.intro | intro _ | exact rfl))
    · dsimp only [AllP]
      rw [Int.toNat_natCast, hg i hi64, wCells_length, hwl]
      exact ⟨trivial, rfl, ⟨Nat.le_of_ble_eq_true rfl, rfl⟩, ⟨Int.natCast_nonneg _, by omega, rfl⟩, trivial, trivial, rfl⟩
    rw [Int.toNat_natCast, hg i hi64]
    refine tr_le (s' := St.of [(2, .one (.ptr 2 0 0)), (4, .one (.ptr 4 0 0)), (5, .one (.e (eWs w))), (6, dW v.a), (7, dW v.b), (8, dW v.c), (9, dW v.d), (10, dW v.e), (11, dW v.f), (12, dW v.g), (13, dW v.h), (14, .v (.int .i64 i)), (16, dW (majW v.a v.b v.c)), (17, dW (v.h + Sg1 v.e + chW v.e v.f v.g + kW.getD i 0 + w.getD i 0))] [(2, ⟨0, .box (.es (hE h)), 0⟩), (4, ⟨0, .box (.es (hE hZ)), 0⟩)]) (le_of (ad := []) ⟨⟨rfl, rfl, rfl, rfl, rfl⟩, ⟨rfl, rfl, rfl, rfl, rfl⟩, rfl, rfl, rfl, rfl, rfl, rfl, rfl, rfl, rfl, rfl, rfl, eWq (oneV v.h v.e (chW v.e v.f v.g) (kW.getD i 0) (w.getD i 0)), trivial⟩ (memOk_box rfl rfl rfl (memOk_box rfl rfl rfl trivial))) ?_
    repeat' (first | refine tr_seq ?_ | refine tr_block ?_ | refine tr_skip ?_)
    refine tr_region (lex (T := tab) tOk hnt rfl ?_ (call rfl rfl rfl rfl rfl rfl rfl hnt (rot_fn v.a 2 (by decide)) (lex (T := tab) tOk hnt rfl ?_ (call rfl rfl rfl rfl rfl rfl rfl hnt (rot_fn v.a 13 (by decide)) (lex (T := tab) tOk hnt rfl ?_ (call rfl rfl rfl rfl rfl rfl rfl hnt (rot_fn v.a 22 (by decide)) (lex (T := tab) tOk hnt rfl ?_ (Lex.nil _)))))))) ?_
    · (dsimp only [AllP]; (repeat' first | exact trivial | assumption | exact Nat.le_of_ble_eq_true rfl | apply And.intro | intro _ | exact rfl))
    · (dsimp only [AllP]; (repeat' first | exact trivial | assumption | exact Nat.le_of_ble_eq_true rfl | apply And.intro | intro _ | exact rfl))
    · (dsimp only [AllP]; (repeat' first | exact trivial | assumption | exact Nat.le_of_ble_eq_true rfl | apply And.intro | intro _ | exact rfl))
    · (dsimp only [AllP]; (repeat' first | exact trivial | assumption | exact Nat.le_of_ble_eq_true rfl | apply And.intro | intro _ | exact rfl))
    refine tr_le (s' := St.of [(2, .one (.ptr 2 0 0)), (4, .one (.ptr 4 0 0)), (5, .one (.e (eWs w))), (6, dW v.a), (7, dW v.b), (8, dW v.c), (9, dW v.d), (10, dW v.e), (11, dW v.f), (12, dW v.g), (13, dW v.h), (14, .v (.int .i64 i)), (17, dW (v.h + Sg1 v.e + chW v.e v.f v.g + kW.getD i 0 + w.getD i 0)), (18, dW (Sg0 v.a + majW v.a v.b v.c))] [(2, ⟨0, .box (.es (hE h)), 0⟩), (4, ⟨0, .box (.es (hE hZ)), 0⟩)]) (le_of (ad := []) ⟨⟨rfl, rfl, rfl, rfl, rfl⟩, ⟨rfl, rfl, rfl, rfl, rfl⟩, rfl, rfl, rfl, rfl, rfl, rfl, rfl, rfl, rfl, rfl, rfl, eWq (twoV v.a (majW v.a v.b v.c)), trivial⟩ (memOk_box rfl rfl rfl (memOk_box rfl rfl rfl trivial))) ?_
    repeat' (first | refine tr_seq ?_ | refine reg (T := tab) tOk hnt rfl ?_ ?_ | refine regD (T := tab) tOk mixedR hnt rfl (by decide +kernel) ?_ ?_ | refine tr_block ?_ | refine tr_skip ?_)
    · (dsimp only [AllP]; (repeat' first | exact trivial | assumption | exact Nat.le_of_ble_eq_true rfl | apply And.intro | intro _ | exact rfl | decide))
    · (dsimp only [AllP]; (repeat' first | exact trivial | assumption | exact Nat.le_of_ble_eq_true rfl | apply And.intro | intro _ | exact rfl))
    have hv2 : roundsW h w (i + 1) = roundW v (kW.getD i 0) (w.getD i 0) := by rw [roundsW, hv.out]
    refine ⟨i + 1, hi64, by omega, ?_⟩
    rw [hv2]
    exact le_of (ad := []) ⟨⟨rfl, rfl, rfl, rfl, rfl⟩, ⟨rfl, rfl, rfl, rfl, rfl⟩, rfl, eWq (w_add _ _), rfl, rfl, rfl, eWq (w_add _ _), rfl, rfl, rfl, congrArg (fun z : Int => E.v (.int .i64 z)) (wrap64_id (by omega) (by omega)), trivial⟩ (memOk_box rfl rfl rfl (memOk_box rfl rfl rfl trivial))
  · have hc := of_decide_eq_false hc
    have hi : i = 64 := by omega
    subst hi
    refine tr_exit ?_
    repeat' (first | refine tr_seq ?_ | refine tr_block ?_ | refine tr_skip ?_)
    refine reg (T := tab) tOk hnt rfl ?_ ?_
    · (dsimp only [AllP]; (repeat' first | exact trivial | apply And.intro | exact Nat.le_of_ble_eq_true (by kernel_rfl) | decide | kernel_rfl | exact rfl))
    refine tr_ret ?_
    refine ⟨.inr rfl, _, _, rfl, ⟨Nat.le_of_ble_eq_true (by kernel_rfl), trivial⟩, ?_⟩
    have e : compW h w = v.add h := by rw [compW, hv.out]
    rw [e]
    refine Eq.trans (b := D.agg (.es [E.v (.int .u32 (wW ((h.a.toNat : Int) + (v.a.toNat : Int)))), E.v (.int .u32 (wW ((h.b.toNat : Int) + (v.b.toNat : Int)))), E.v (.int .u32 (wW ((h.c.toNat : Int) + (v.c.toNat : Int)))), E.v (.int .u32 (wW ((h.d.toNat : Int) + (v.d.toNat : Int)))), E.v (.int .u32 (wW ((h.e.toNat : Int) + (v.e.toNat : Int)))), E.v (.int .u32 (wW ((h.f.toNat : Int) + (v.f.toNat : Int)))), E.v (.int .u32 (wW ((h.g.toNat : Int) + (v.g.toNat : Int)))), E.v (.int .u32 (wW ((h.h.toNat : Int) + (v.h.toNat : Int))))])) (by kernel_rfl) ?_
    rw [addV, addV, addV, addV, addV, addV, addV, addV]
    rfl
end Go.Proofs.YtphaholcndhonaaDoor
namespace Go.Proofs.YtphaholcndhonaaDoor
open Go Go.RowKit Go.Proofs.YtphaholcndhonaaDoor.Ab

def kE : List E := kW.map eW
def wE (l : List W) : List E := l.map eW
def bE (l : List UInt8) : List E := l.map eB
theorem getW (l : List W) {i : Nat} (h : i < l.length) : (wE l).getD (0 + i * 1) E.dflt = eW (l.getD i 0) := by
  rw [Nat.zero_add, Nat.mul_one]
  simp [wE, h]
theorem getB (l : List UInt8) {i : Nat} (h : i < l.length) : (bE l).getD (0 + i * 1) E.dflt = eB (l.getD i 0) := by
  rw [Nat.zero_add, Nat.mul_one]
  simp [bE, h]
theorem okW (l : List W) {i : Nat} (h : i < l.length) : 0 + i * 1 < (Cs.es (wE l)).len ∧ D0.isA (.int .u32) ((Cs.es (wE l)).at (0 + i * 1)) := by
  refine ⟨?_, ?_⟩
  · show 0 + i * 1 < (wE l).length
    simp [wE, h]
  · show E.as (.int .u32) ((wE l).getD (0 + i * 1) E.dflt) = (wE l).getD (0 + i * 1) E.dflt
    rw [getW l h]
    rfl
theorem okB (l : List UInt8) {i : Nat} (h : i < l.length) : 0 + i * 1 < (Cs.es (bE l)).len ∧ D0.isA (.int .u8) ((Cs.es (bE l)).at (0 + i * 1)) := by
  refine ⟨?_, ?_⟩
  · show 0 + i * 1 < (bE l).length
    simp [bE, h]
  · show E.as (.int .u8) ((bE l).getD (0 + i * 1) E.dflt) = (bE l).getD (0 + i * 1) E.dflt
    rw [getB l h]
    rfl
theorem setW (l : List W) {i : Nat} (h : i < l.length) (x : W) : (wE l).take (0 + i * 1) ++ [eW x] ++ (wE l).drop (0 + i * 1 + 1) = wE (l.set i x) := by
  rw [Nat.zero_add, Nat.mul_one]
  unfold wE
  rw [List.map_set, List.set_eq_take_append_cons_drop, if_pos (by simpa using h)]
  simp
theorem putW (l : List W) {i : Nat} (h : i < l.length) : 0 + i * 1 + 1 ≤ (Cs.es (wE l)).len := by
  show 0 + i * 1 + 1 ≤ (wE l).length
  simp [wE]
  omega
/-- the words so far, the rest nought -/
def padW (l : List W) : List W := l ++ List.replicate (64 - l.length) 0
theorem padW_len (l : List W) (h : l.length ≤ 64) : (padW l).length = 64 := by
  simp [padW]
  omega
theorem padW_get (l : List W) {i : Nat} (h : i < l.length) : (padW l).getD i 0 = l.getD i 0 := by
  unfold padW
  rw [List.getD_eq_getElem?_getD, List.getElem?_append_left h, List.getD_eq_getElem?_getD]
theorem padW_set (l : List W) (h : l.length < 64) (x : W) : (padW l).set l.length x = padW (l ++ [x]) := by
  unfold padW
  rw [List.set_append_right _ _ (Nat.le_refl _), Nat.sub_self]
  have : 64 - l.length = (64 - (l ++ [x]).length) + 1 := by simp; omega
  rw [this, List.replicate_succ]
  simp
theorem or_nat (a b k : Nat) (hb : b < 2 ^ k) : a * 2 ^ k ||| b = a * 2 ^ k + b := by
  rw [← Nat.shiftLeft_eq, Nat.shiftLeft_add_eq_or_of_lt hb]
set_option maxRecDepth 10000 in
theorem wordN (a b c d : Nat) (ha : a < 256) (hb : b < 256) (hc : c < 256) (hd : d < 256) : ((((BitVec.ofNat 32 a <<< 24 ||| BitVec.ofNat 32 b <<< 16) ||| BitVec.ofNat 32 c <<< 8) ||| BitVec.ofNat 32 d) : W).toNat = (BitVec.ofNat 32 (a * 16777216 + b * 65536 + c * 256 + d)).toNat := by
  have o24 : ∀ x y : Nat, y < 16777216 → x * 16777216 ||| y = x * 16777216 + y := fun x y h => or_nat x y 24 h
  have o16 : ∀ x y : Nat, y < 65536 → x * 65536 ||| y = x * 65536 + y := fun x y h => or_nat x y 16 h
  have o8 : ∀ x y : Nat, y < 256 → x * 256 ||| y = x * 256 + y := fun x y h => or_nat x y 8 h
  simp only [BitVec.toNat_or, BitVec.toNat_shiftLeft, BitVec.toNat_ofNat, Nat.shiftLeft_eq, Nat.reducePow]
  have lt : ∀ x k : Nat, x < 256 → 256 * k ≤ 4294967296 → 0 < k → x * k < 4294967296 := fun x k hx hk h0 => Nat.lt_of_lt_of_le (Nat.mul_lt_mul_of_pos_right hx h0) hk
  have sm : ∀ x : Nat, x < 256 → x < 4294967296 := fun x hx => Nat.lt_of_lt_of_le hx (by decide)
  rw [Nat.mod_eq_of_lt (sm a ha), Nat.mod_eq_of_lt (sm b hb), Nat.mod_eq_of_lt (sm c hc), Nat.mod_eq_of_lt (sm d hd)]
  rw [Nat.mod_eq_of_lt (lt a 16777216 ha (by decide) (by decide)), Nat.mod_eq_of_lt (lt b 65536 hb (by decide) (by decide)), Nat.mod_eq_of_lt (lt c 256 hc (by decide) (by decide))]
  rw [o24 a (b * 65536) (Nat.lt_of_lt_of_le (Nat.mul_lt_mul_of_pos_right hb (by decide : 0 < 65536)) (by decide))]
  have e1 : a * 16777216 + b * 65536 = (a * 256 + b) * 65536 := by rw [Nat.add_mul, Nat.mul_assoc]
  rw [e1, o16 (a * 256 + b) (c * 256) (Nat.lt_of_lt_of_le (Nat.mul_lt_mul_of_pos_right hc (by decide : 0 < 256)) (by decide))]
  have e2 : (a * 256 + b) * 65536 + c * 256 = ((a * 256 + b) * 256 + c) * 256 := by rw [Nat.add_mul _ c, Nat.mul_assoc _ 256 256]
  rw [e2, o8 ((a * 256 + b) * 256 + c) d hd]
  have e3 : ((a * 256 + b) * 256 + c) * 256 + d = a * 16777216 + b * 65536 + c * 256 + d := by rw [← e2, ← e1]
  rw [Nat.mod_eq_of_lt]
  omega
theorem wordV (a b c d : UInt8) : wW (((oW (wW (((oW (wW (((oW (wW (wW (a.toNat : Int) * 2 ^ min (Int.toNat 24) IntKind.u32.bits))) ||| (oW (wW (wW (b.toNat : Int) * 2 ^ min (Int.toNat 16) IntKind.u32.bits)))).toNat : Int))) ||| (oW (wW (wW (c.toNat : Int) * 2 ^ min (Int.toNat 8) IntKind.u32.bits)))).toNat : Int))) ||| (oW (wW (d.toNat : Int)))).toNat : Int) = ((wordW a b c d).toNat : Int) := by
  unfold wW oW
  rw [show min (Int.toNat 24) IntKind.u32.bits = 24 from rfl, show min (Int.toNat 16) IntKind.u32.bits = 16 from rfl, show min (Int.toNat 8) IntKind.u32.bits = 8 from rfl]
  rw [w_byte, w_byte, w_byte, w_byte, w_shl, w_shl, w_shl, w_or, w_or, w_or]
  congr 1
  exact wordN a.toNat b.toNat c.toNat d.toNat a.toNat_lt b.toNat_lt c.toNat_lt d.toNat_lt
theorem memOk_boxE {ad : List Nat} {s s' : St} {id v v' pub : Nat} {xs ys : List E} {r : List (Nat × Blk)} (h1 : inB ad id = false) (h2 : s.mem id = some ⟨v, .box (.es xs), pub⟩) (h3 : xs = ys) (hr : memOk ad s s' r) : memOk ad s s' ((id, ⟨v', .box (.es ys), pub⟩) :: r) := memOk_box h1 h2 h3 hr
theorem pad_step (l : List W) (h : l.length < 64) (x : W) : (wE (padW l)).take (0 + l.length * 1) ++ [eW x] ++ (wE (padW l)).drop (0 + l.length * 1 + 1) = wE (padW (l ++ [x])) := by
  rw [setW (padW l) (by rw [padW_len l (by omega)]; exact h), padW_set l h]
theorem padW_full (l : List W) (h : l.length = 64) : padW l = l := by simp [padW, h]
def mixL (a b : List W) (i : Nat) : List W := (List.zipWith (· + ·) a b).take i ++ a.drop i
theorem mix_get (a b : List W) (h : a.length = b.length) {i : Nat} (hi : i < a.length) : (mixL a b i).getD i 0 = a.getD i 0 := by
  unfold mixL
  have : ((List.zipWith (· + ·) a b).take i).length = i := by simp; omega
  rw [List.getD_eq_getElem?_getD, List.getElem?_append_right (by omega), this, Nat.sub_self, List.getElem?_drop]
  rfl
theorem mix_len (a b : List W) (h : a.length = b.length) {i : Nat} (hi : i ≤ a.length) : (mixL a b i).length = a.length := by
  simp [mixL]
  omega
theorem mix_set (a b : List W) (h : a.length = b.length) {i : Nat} (hi : i < a.length) : (mixL a b i).set i (a.getD i 0 + b.getD i 0) = mixL a b (i + 1) := by
  unfold mixL
  have hl : ((List.zipWith (· + ·) a b).take i).length = i := by simp; omega
  have hz : i < (List.zipWith (· + ·) a b).length := by simp; omega
  have hib : i < b.length := by omega
  rw [List.set_append_right _ _ (by omega), hl, Nat.sub_self, List.take_succ_eq_append_getElem hz, List.drop_eq_getElem_cons hi, List.set_cons_zero, List.getElem_zipWith, List.append_assoc, List.singleton_append]
  simp [List.getD, hi, hib]
theorem chV2 (e f g : W) : wW (((oW (wW (((oW (e.toNat : Int)) &&& (oW (f.toNat : Int))).toNat : Int))) ^^^ (oW (wW (((oW (wW (((oW 4294967295) ^^^ (oW (e.toNat : Int))).toNat : Int))) &&& (oW (g.toNat : Int))).toNat : Int)))).toNat : Int) = ((chW e f g).toNat : Int) := by
  unfold wW oW
  rw [w_and, w_not, w_and, w_xor]
  rfl
theorem majV2 (a b c : W) : wW (((oW (wW (((oW (wW (((oW (a.toNat : Int)) &&& (oW (b.toNat : Int))).toNat : Int))) ^^^ (oW (wW (((oW (a.toNat : Int)) &&& (oW (c.toNat : Int))).toNat : Int)))).toNat : Int))) ^^^ (oW (wW (((oW (b.toNat : Int)) &&& (oW (c.toNat : Int))).toNat : Int)))).toNat : Int) = ((majW a b c).toNat : Int) := by
  unfold wW oW
  rw [w_and, w_and, w_xor, w_and, w_xor]
  rfl
theorem tV (h s e f g k w : W) : wW (wW (wW (wW ((h.toNat : Int) + (s.toNat : Int)) + wW (((oW (wW (((oW (e.toNat : Int)) &&& (oW (f.toNat : Int))).toNat : Int))) ^^^ (oW (wW (((oW (wW (((oW 4294967295) ^^^ (oW (e.toNat : Int))).toNat : Int))) &&& (oW (g.toNat : Int))).toNat : Int)))).toNat : Int)) + (k.toNat : Int)) + (w.toNat : Int)) = ((h + s + chW e f g + k + w).toNat : Int) := by
  rw [chV2]
  unfold wW
  rw [w_add, w_add, w_add, w_add]
theorem uV (s a b c : W) : wW ((s.toNat : Int) + wW (((oW (wW (((oW (wW (((oW (a.toNat : Int)) &&& (oW (b.toNat : Int))).toNat : Int))) ^^^ (oW (wW (((oW (a.toNat : Int)) &&& (oW (c.toNat : Int))).toNat : Int)))).toNat : Int))) ^^^ (oW (wW (((oW (b.toNat : Int)) &&& (oW (c.toNat : Int))).toNat : Int)))).toNat : Int)) = ((s + majW a b c).toNat : Int) := by
  rw [majV2]
  exact w_add _ _
theorem getK {i : Nat} (h : i < 64) : (kE.drop (i * 1)).getD 0 E.dflt = eW (kW.getD i 0) := by
  have hl : i < kW.length := h
  rw [Nat.mul_one]
  simp [kE, List.getD, hl]
theorem okK {i : Nat} (h : i < 64) : 0 < (Cs.es (kE.drop (i * 1))).len ∧ D0.isA (.int .u32) ((Cs.es (kE.drop (i * 1))).at 0) := by
  refine ⟨?_, ?_⟩
  · show 0 < (kE.drop (i * 1)).length
    have : kE.length = 64 := rfl
    rw [List.length_drop, this]
    omega
  · show E.as (.int .u32) ((kE.drop (i * 1)).getD 0 E.dflt) = (kE.drop (i * 1)).getD 0 E.dflt
    rw [getK h]
    rfl
def zW : List W := List.replicate 64 0
set_option maxRecDepth 10000 in
set_option maxHeartbeats 400000 in
theorem turn_fn (h : H8) (b : List UInt8) (hb : b.length = 64) : FnG Tryd.prog 193 [(4, kE)] [.agg (.es (hE h)), .agg (.es (bE b))] (.agg (.es (hE (comp h b)))) := by
  refine fn_introG (T := tab) tOk Tryd.func193 rfl (by kernel_rfl) (by simp [Tryd.ntmps193]) ?_
  intro X hX
  have hnt : X.nt = 194 := hX
  clear hX
  repeat' (first | refine tr_seq ?_ | refine reg (T := tab) tOk hnt rfl ?_ ?_ | refine regD (T := tab) tOk mixedR hnt rfl (by decide +kernel) ?_ ?_ | refine tr_block ?_ | refine tr_skip ?_)
  · (dsimp only [AllP]; (repeat' first | exact trivial | assumption | exact Nat.le_of_ble_eq_true rfl | apply And.intro | intro _ | exact rfl))
  · (dsimp only [AllP]; (repeat' first | exact trivial | assumption | exact Nat.le_of_ble_eq_true rfl | apply And.intro | intro _ | exact rfl))
  · (dsimp only [AllP]; (repeat' first | exact trivial | assumption | exact Nat.le_of_ble_eq_true rfl | apply And.intro | intro _ | exact rfl))
  refine tr_loop (σ := Nat) (fun i => St.of [(2, .one (.ptr 2 0 0)), (3, .one (.ptr 3 0 0)), (4, .one (.ptr 4 0 0)), (5, .one (.ptr 5 0 0)), (20, .v (.int .i64 i)), ((1000000 + 4), .one (.eptr kE))] [(2, ⟨0, .box (.es (hE h)), 0⟩), (3, ⟨0, .box (.es (bE b)), 0⟩), (4, ⟨0, .box (.es (hE hZ)), 0⟩), (5, ⟨0, .box (.es (wE (padW (words b i)))), 0⟩)]) (fun i => i ≤ 16) (fun i => 16 - i) 0 (le_of (ad := []) ⟨⟨rfl, rfl, rfl, rfl, rfl⟩, ⟨rfl, rfl, rfl, rfl, rfl⟩, ⟨rfl, rfl, rfl, rfl, rfl⟩, ⟨rfl, rfl, rfl, rfl, rfl⟩, rfl, rfl, trivial⟩ (memOk_box rfl rfl rfl (memOk_box rfl rfl rfl (memOk_box rfl rfl rfl (memOk_boxE rfl rfl (by kernel_rfl) trivial))))) (Nat.zero_le _) ?_
  intro i hi
  repeat' (first | refine tr_seq ?_ | refine reg (T := tab) tOk hnt rfl ?_ ?_ | refine regD (T := tab) tOk mixedR hnt rfl (by decide +kernel) ?_ ?_ | refine tr_block ?_ | refine tr_skip ?_)
  · (dsimp only [AllP]; (repeat' first | exact trivial | assumption | exact Nat.le_of_ble_eq_true rfl | apply And.intro | intro _ | exact rfl))
  refine tr_cond rfl (fun hc => ?_) (fun hc => ?_)
  · have hc := of_decide_eq_true hc
    have hi16 : i < 16 := by omega
    have n0 : IntKind.i64.wrap (4 * (i : Int)) = ((4 * i : Nat) : Int) := by rw [wrap64_id (by omega) (by omega)]; omega
    have n1 : IntKind.i64.wrap (((4 * i : Nat) : Int) + 1) = ((4 * i + 1 : Nat) : Int) := by rw [wrap64_id (by omega) (by omega)]; omega
    have n2 : IntKind.i64.wrap (((4 * i : Nat) : Int) + 2) = ((4 * i + 2 : Nat) : Int) := by rw [wrap64_id (by omega) (by omega)]; omega
    have n3 : IntKind.i64.wrap (((4 * i : Nat) : Int) + 3) = ((4 * i + 3 : Nat) : Int) := by rw [wrap64_id (by omega) (by omega)]; omega
    have nx : IntKind.i64.wrap ((i : Int) + 1) = ((i + 1 : Nat) : Int) := by rw [wrap64_id (by omega) (by omega)]; omega
    repeat' (first | refine tr_seq ?_ | refine reg (T := tab) tOk hnt rfl ?_ ?_ | refine regD (T := tab) tOk mixedR hnt rfl (by decide +kernel) ?_ ?_ | refine tr_block ?_ | refine tr_skip ?_)
    · (dsimp only [AllP]; (repeat' first | exact trivial | assumption | exact Nat.le_of_ble_eq_true rfl | apply And.intro | intro _ | exact rfl))
    · have hw : (padW (words b i)).length = 64 := padW_len _ (by rw [words_len]; omega)
      have p4 := putW (padW (words b i)) (i := i) (by omega)
      dsimp only [AllP]
      rw [n0, n1, n2, n3]
      simp only [Int.toNat_natCast]
      exact ⟨⟨rfl, p4, Nat.zero_le _⟩, ⟨Int.natCast_nonneg _, by omega⟩, trivial, trivial, okB b (by omega), ⟨Int.natCast_nonneg _, by omega⟩, trivial, trivial, trivial, trivial, (show (0 : Int) ≤ 8 by decide), trivial, okB b (by omega), ⟨Int.natCast_nonneg _, by omega⟩, trivial, trivial, trivial, trivial, (show (0 : Int) ≤ 16 by decide), trivial, okB b (by omega), ⟨Int.natCast_nonneg _, by omega⟩, trivial, trivial, trivial, (show (0 : Int) ≤ 24 by decide), trivial, okB b (by omega), ⟨Int.natCast_nonneg _, by omega⟩, trivial, trivial, trivial⟩
    · (dsimp only [AllP]; (repeat' first | exact trivial | assumption | exact Nat.le_of_ble_eq_true rfl | apply And.intro | intro _ | exact rfl))
    rw [n0, n1, n2, n3]
    simp only [Int.toNat_natCast]
    refine ⟨i + 1, hi16, by omega, le_of (ad := []) ⟨⟨rfl, rfl, rfl, rfl, rfl⟩, ⟨rfl, rfl, rfl, rfl, rfl⟩, ⟨rfl, rfl, rfl, rfl, rfl⟩, ⟨rfl, rfl, rfl, rfl, rfl⟩, congrArg (fun z : Int => E.v (.int .i64 z)) nx, rfl, trivial⟩ (memOk_box rfl rfl rfl (memOk_box rfl rfl rfl (memOk_box rfl rfl rfl (memOk_boxE rfl rfl ?_ trivial))))⟩
    have e := pad_step (words b i) (by rw [words_len]; omega) (word4 b i)
    rw [words_len, ← words_succ] at e
    refine Eq.trans ?_ e
    refine congrArg (fun z : Int => List.take (0 + i * 1) (wE (padW (words b i))) ++ [E.v (.int .u32 z)] ++ List.drop (0 + i * 1 + 1) (wE (padW (words b i)))) ?_
    refine Eq.trans ?_ (wordV _ _ _ _)
    rw [getB b (i := 4 * i) (by omega), getB b (i := 4 * i + 1) (by omega), getB b (i := 4 * i + 2) (by omega), getB b (i := 4 * i + 3) (by omega)]
    rfl
  have hc := of_decide_eq_false hc
  have hi : i = 16 := by omega
  subst hi
  refine tr_exit ?_
  repeat' (first | refine tr_seq ?_ | refine reg (T := tab) tOk hnt rfl ?_ ?_ | refine regD (T := tab) tOk mixedR hnt rfl (by decide +kernel) ?_ ?_ | refine tr_block ?_ | refine tr_skip ?_)
  · (dsimp only [AllP]; (repeat' first | exact trivial | assumption | exact Nat.le_of_ble_eq_true rfl | apply And.intro | intro _ | exact rfl))
  clear hc
  refine tr_loop (σ := Nat) (fun m => St.of [(2, .one (.ptr 2 0 0)), (3, .one (.ptr 3 0 0)), (4, .one (.ptr 4 0 0)), (5, .one (.ptr 5 0 0)), (7, .v (.int .i64 ((16 + m : Nat) : Int))), ((1000000 + 4), .one (.eptr kE))] [(2, ⟨0, .box (.es (hE h)), 0⟩), (3, ⟨0, .box (.es (bE b)), 0⟩), (4, ⟨0, .box (.es (hE hZ)), 0⟩), (5, ⟨0, .box (.es (wE (padW (sch b m)))), 0⟩)]) (fun m => m ≤ 48) (fun m => 48 - m) 0 (le_of (ad := []) ⟨⟨rfl, rfl, rfl, rfl, rfl⟩, ⟨rfl, rfl, rfl, rfl, rfl⟩, ⟨rfl, rfl, rfl, rfl, rfl⟩, ⟨rfl, rfl, rfl, rfl, rfl⟩, rfl, rfl, trivial⟩ (memOk_box rfl rfl rfl (memOk_box rfl rfl rfl (memOk_box rfl rfl rfl (memOk_box rfl rfl rfl trivial))))) (Nat.zero_le _) ?_
  intro m hm
  have hL : (sch b m).length = 16 + m := sch_len b m
  repeat' (first | refine tr_seq ?_ | refine reg (T := tab) tOk hnt rfl ?_ ?_ | refine regD (T := tab) tOk mixedR hnt rfl (by decide +kernel) ?_ ?_ | refine tr_block ?_ | refine tr_skip ?_)
  · (dsimp only [AllP]; (repeat' first | exact trivial | assumption | exact Nat.le_of_ble_eq_true rfl | apply And.intro | intro _ | exact rfl))
  refine tr_cond rfl (fun hc => ?_) (fun hc => ?_)
  · have hc := of_decide_eq_true hc
    have hm48 : m < 48 := by omega
    have hP : (padW (sch b m)).length = 64 := padW_len _ (by omega)
    have hj : ∀ j : Nat, j ≤ 16 → IntKind.i64.wrap (((16 + m : Nat) : Int) - (j : Int)) = ((16 + m - j : Nat) : Int) := fun j hj => by rw [wrap64_id (by omega) (by omega)]; omega
    have f15 : IntKind.i64.wrap (((16 + m : Nat) : Int) - 15) = ((16 + m - 15 : Nat) : Int) := hj 15 (by decide)
    have f2 : IntKind.i64.wrap (((16 + m : Nat) : Int) - 2) = ((16 + m - 2 : Nat) : Int) := hj 2 (by decide)
    have f16 : IntKind.i64.wrap (((16 + m : Nat) : Int) - 16) = ((16 + m - 16 : Nat) : Int) := hj 16 (by decide)
    have f7 : IntKind.i64.wrap (((16 + m : Nat) : Int) - 7) = ((16 + m - 7 : Nat) : Int) := hj 7 (by decide)
    have hg : ∀ j, j < 16 + m → (wE (padW (sch b m))).getD (0 + j * 1) E.dflt = eW ((sch b m).getD j 0) := fun j hj => by rw [getW _ (by omega), padW_get _ (by omega)]
    have hk : ∀ j, j < 16 + m → 0 + j * 1 < (Cs.es (wE (padW (sch b m)))).len ∧ D0.isA (.int .u32) ((Cs.es (wE (padW (sch b m)))).at (0 + j * 1)) := fun j hj => okW _ (by omega)
    repeat' (first | refine tr_seq ?_ | refine reg (T := tab) tOk hnt rfl ?_ ?_ | refine regD (T := tab) tOk mixedR hnt rfl (by decide +kernel) ?_ ?_ | refine tr_block ?_ | refine tr_skip ?_)
    · dsimp only [AllP]
      rw [f15, f2, Int.toNat_natCast, Int.toNat_natCast]
      exact ⟨trivial, trivial, hk _ (by omega), ⟨Int.natCast_nonneg _, by omega⟩, rfl, trivial, hk _ (by omega), ⟨Int.natCast_nonneg _, by omega⟩, rfl, trivial⟩
    refine tr_le (s' := St.of [(2, .one (.ptr 2 0 0)), (3, .one (.ptr 3 0 0)), (4, .one (.ptr 4 0 0)), (5, .one (.ptr 5 0 0)), (7, .v (.int .i64 ((16 + m : Nat) : Int))), (8, dW ((sch b m).getD (16 + m - 15) 0)), (9, dW ((sch b m).getD (16 + m - 2) 0)), ((1000000 + 4), .one (.eptr kE))] [(2, ⟨0, .box (.es (hE h)), 0⟩), (3, ⟨0, .box (.es (bE b)), 0⟩), (4, ⟨0, .box (.es (hE hZ)), 0⟩), (5, ⟨0, .box (.es (wE (padW (sch b m)))), 0⟩)]) (le_of (ad := []) ⟨⟨rfl, rfl, rfl, rfl, rfl⟩, ⟨rfl, rfl, rfl, rfl, rfl⟩, ⟨rfl, rfl, rfl, rfl, rfl⟩, ⟨rfl, rfl, rfl, rfl, rfl⟩, rfl, ?_, ?_, rfl, trivial⟩ (memOk_box rfl rfl rfl (memOk_box rfl rfl rfl (memOk_box rfl rfl rfl (memOk_box rfl rfl rfl trivial))))) ?_
    · refine Eq.trans (b := E.as (.int .u32) ((wE (padW (sch b m))).getD (0 + (IntKind.i64.wrap (((16 + m : Nat) : Int) - 15)).toNat * 1) E.dflt)) rfl ?_
      rw [f15, Int.toNat_natCast, hg _ (by omega)]
      rfl
    · refine Eq.trans (b := E.as (.int .u32) ((wE (padW (sch b m))).getD (0 + (IntKind.i64.wrap (((16 + m : Nat) : Int) - 2)).toNat * 1) E.dflt)) rfl ?_
      rw [f2, Int.toNat_natCast, hg _ (by omega)]
      rfl
    generalize hx : (sch b m).getD (16 + m - 15) 0 = x
    generalize hy : (sch b m).getD (16 + m - 2) 0 = y
    repeat' (first | refine tr_seq ?_ | refine tr_block ?_ | refine tr_skip ?_)
    refine tr_region (lex (T := tab) tOk hnt rfl ?_ (call rfl rfl rfl rfl rfl rfl rfl hnt (rotl_fn x (-7) 7 (by decide) (by decide)) (lex (T := tab) tOk hnt rfl ?_ (call rfl rfl rfl rfl rfl rfl rfl hnt (rotl_fn x (-18) 18 (by decide) (by decide)) (lex (T := tab) tOk hnt rfl ?_ (Lex.nil _)))))) ?_
    · (dsimp only [AllP]; (repeat' first | exact trivial | assumption | exact Nat.le_of_ble_eq_true rfl | apply And.intro | intro _ | exact rfl))
    · (dsimp only [AllP]; (repeat' first | exact trivial | assumption | exact Nat.le_of_ble_eq_true rfl | apply And.intro | intro _ | exact rfl))
    · (dsimp only [AllP]; (repeat' first | exact trivial | assumption | exact Nat.le_of_ble_eq_true rfl | apply And.intro | intro _ | exact rfl | decide))
    repeat' (first | refine tr_seq ?_ | refine tr_block ?_ | refine tr_skip ?_)
    refine tr_region (lex (T := tab) tOk hnt rfl ?_ (call rfl rfl rfl rfl rfl rfl rfl hnt (rotl_fn y (-17) 17 (by decide) (by decide)) (lex (T := tab) tOk hnt rfl ?_ (call rfl rfl rfl rfl rfl rfl rfl hnt (rotl_fn y (-19) 19 (by decide) (by decide)) (lex (T := tab) tOk hnt rfl ?_ (Lex.nil _)))))) ?_
    · (dsimp only [AllP]; (repeat' first | exact trivial | assumption | exact Nat.le_of_ble_eq_true rfl | apply And.intro | intro _ | exact rfl))
    · (dsimp only [AllP]; (repeat' first | exact trivial | assumption | exact Nat.le_of_ble_eq_true rfl | apply And.intro | intro _ | exact rfl))
    · (dsimp only [AllP]; (repeat' first | exact trivial | assumption | exact Nat.le_of_ble_eq_true rfl | apply And.intro | intro _ | exact rfl | decide))
    refine tr_le (s' := St.of [(2, .one (.ptr 2 0 0)), (3, .one (.ptr 3 0 0)), (4, .one (.ptr 4 0 0)), (5, .one (.ptr 5 0 0)), (7, .v (.int .i64 ((16 + m : Nat) : Int))), (10, dW (sg0 x)), (11, dW (sg1 y)), ((1000000 + 4), .one (.eptr kE))] [(2, ⟨0, .box (.es (hE h)), 0⟩), (3, ⟨0, .box (.es (bE b)), 0⟩), (4, ⟨0, .box (.es (hE hZ)), 0⟩), (5, ⟨0, .box (.es (wE (padW (sch b m)))), 0⟩)]) (le_of (ad := []) ⟨⟨rfl, rfl, rfl, rfl, rfl⟩, ⟨rfl, rfl, rfl, rfl, rfl⟩, ⟨rfl, rfl, rfl, rfl, rfl⟩, ⟨rfl, rfl, rfl, rfl, rfl⟩, rfl, eWq (sg0V x), eWq (sg1V y), rfl, trivial⟩ (memOk_box rfl rfl rfl (memOk_box rfl rfl rfl (memOk_box rfl rfl rfl (memOk_box rfl rfl rfl trivial))))) ?_
    repeat' (first | refine tr_seq ?_ | refine reg (T := tab) tOk hnt rfl ?_ ?_ | refine regD (T := tab) tOk mixedR hnt rfl (by decide +kernel) ?_ ?_ | refine tr_block ?_ | refine tr_skip ?_)
    · dsimp only [AllP]
      rw [f16, f7, Int.toNat_natCast, Int.toNat_natCast, Int.toNat_natCast]
      exact ⟨⟨rfl, putW _ (by omega), Nat.zero_le _⟩, ⟨Int.natCast_nonneg _, by omega⟩, rfl, trivial, rfl, hk _ (by omega), ⟨Int.natCast_nonneg _, by omega⟩, rfl, trivial, rfl, trivial, hk _ (by omega), ⟨Int.natCast_nonneg _, by omega⟩, rfl, trivial, trivial⟩
    · (dsimp only [AllP]; (repeat' first | exact trivial | assumption | exact Nat.le_of_ble_eq_true rfl | apply And.intro | intro _ | exact rfl))
    refine ⟨m + 1, by omega, by omega, le_of (ad := []) ⟨⟨rfl, rfl, rfl, rfl, rfl⟩, ⟨rfl, rfl, rfl, rfl, rfl⟩, ⟨rfl, rfl, rfl, rfl, rfl⟩, ⟨rfl, rfl, rfl, rfl, rfl⟩, congrArg (fun z : Int => E.v (.int .i64 z)) ?_, rfl, trivial⟩ (memOk_box rfl rfl rfl (memOk_box rfl rfl rfl (memOk_box rfl rfl rfl (memOk_boxE rfl rfl ?_ trivial))))⟩
    · rw [wrap64_id (by omega) (by omega)]
      omega
    rw [f16, f7, Int.toNat_natCast, Int.toNat_natCast, Int.toNat_natCast, hg _ (by omega), hg _ (by omega)]
    have e := pad_step (sch b m) (by omega) (nextW (sch b m))
    rw [hL] at e
    refine Eq.trans ?_ (e.trans (by rw [sch]))
    refine congrArg (fun z : Int => List.take (0 + (16 + m) * 1) (wE (padW (sch b m))) ++ [E.v (.int .u32 z)] ++ List.drop (0 + (16 + m) * 1 + 1) (wE (padW (sch b m)))) ?_
    rw [nextW, hL, hx, hy]
    generalize (sch b m).getD (16 + m - 16) 0 = p
    generalize (sch b m).getD (16 + m - 7) 0 = q
    show wW (wW (wW ((p.toNat : Int) + ((sg0 x).toNat : Int)) + (q.toNat : Int)) + ((sg1 y).toNat : Int)) = _
    unfold wW
    rw [w_add, w_add, w_add]
  have hc := of_decide_eq_false hc
  have hm : m = 48 := by omega
  subst hm
  rw [padW_full _ (sch_len b 48)]
  rw [show comp h b = compW h (sch b 48) from rfl]
  have hwl : (sch b 48).length = 64 := sch_len _ _
  generalize sch b 48 = w at hwl ⊢
  clear hc hL
  refine tr_exit ?_
  repeat' (first | refine tr_seq ?_ | refine reg (T := tab) tOk hnt rfl ?_ ?_ | refine regD (T := tab) tOk mixedR hnt rfl (by decide +kernel) ?_ ?_ | refine tr_block ?_ | refine tr_skip ?_)
  · (dsimp only [AllP]; (repeat' first | exact trivial | assumption | exact Nat.le_of_ble_eq_true rfl | apply And.intro | intro _ | exact rfl | decide))
  · (dsimp only [AllP]; (repeat' first | exact trivial | assumption | exact Nat.le_of_ble_eq_true rfl | apply And.intro | intro _ | exact rfl))
  refine tr_loop (σ := Nat) (fun i => St.of [(2, .one (.ptr 2 0 0)), (3, .one (.ptr 3 0 0)), (4, .one (.ptr 4 0 0)), (5, .one (.ptr 5 0 0)), (12, .one (.ptr 12 0 0)), (99, .v (.int .i64 i)), ((1000000 + 4), .one (.eptr kE))] [(2, ⟨0, .box (.es (hE h)), 0⟩), (3, ⟨0, .box (.es (bE b)), 0⟩), (4, ⟨0, .box (.es (hE hZ)), 0⟩), (5, ⟨0, .box (.es (wE w)), 0⟩), (12, ⟨0, .box (.es (hE (roundsW h w i))), 0⟩)]) (fun i => i ≤ 64) (fun i => 64 - i) 0 (le_of (ad := []) ⟨⟨rfl, rfl, rfl, rfl, rfl⟩, ⟨rfl, rfl, rfl, rfl, rfl⟩, ⟨rfl, rfl, rfl, rfl, rfl⟩, ⟨rfl, rfl, rfl, rfl, rfl⟩, ⟨rfl, rfl, rfl, rfl, rfl⟩, rfl, rfl, trivial⟩ (memOk_box rfl rfl rfl (memOk_box rfl rfl rfl (memOk_box rfl rfl rfl (memOk_box rfl rfl rfl (memOk_box rfl rfl rfl trivial)))))) (Nat.zero_le _) ?_
  intro i hi
  have hv : ∃ v, roundsW h w i = v ∧ Hd (roundsW h w i = v) := ⟨_, rfl, ⟨rfl⟩⟩
  obtain ⟨v, hv1, hv⟩ := hv
  rw [hv1]
  clear hv1
  have hwg := getW w (i := i)
  have hwk := okW w (i := i)
  have hkg := getK (i := i)
  have hkk := okK (i := i)
  rw [hwl] at hwg hwk
  repeat' (first | refine tr_seq ?_ | refine reg (T := tab) tOk hnt rfl ?_ ?_ | refine regD (T := tab) tOk mixedR hnt rfl (by decide +kernel) ?_ ?_ | refine tr_block ?_ | refine tr_skip ?_)
  · (dsimp only [AllP]; (repeat' first | exact trivial | assumption | exact Nat.le_of_ble_eq_true rfl | apply And.intro | intro _ | exact rfl))
  refine tr_cond rfl (fun hc => ?_) (fun hc => ?_)
  · have hc := of_decide_eq_true hc
    have hi64 : i < 64 := by omega
    have hwg := hwg hi64
    have hwk := hwk hi64
    have hkg := hkg hi64
    have hkk := hkk hi64
    repeat' (first | refine tr_seq ?_ | refine reg (T := tab) tOk hnt rfl ?_ ?_ | refine regD (T := tab) tOk mixedR hnt rfl (by decide +kernel) ?_ ?_ | refine tr_block ?_ | refine tr_skip ?_)
    · (dsimp only [AllP]; (repeat' first | exact trivial | assumption | exact Nat.le_of_ble_eq_true rfl | apply And.intro | intro _ | exact rfl))
    · (dsimp only [AllP]; (repeat' first | exact trivial | apply And.intro | exact Nat.le_of_ble_eq_true (by kernel_rfl) | decide | kernel_rfl | exact rfl))
    refine tr_le (s' := St.of [(2, .one (.ptr 2 0 0)), (3, .one (.ptr 3 0 0)), (4, .one (.ptr 4 0 0)), (5, .one (.ptr 5 0 0)), (12, .one (.ptr 12 0 0)), (99, .v (.int .i64 i)), (13, .v (.int .i64 i)), (14, dW v.e), (15, dW v.a), ((1000000 + 4), .one (.eptr kE))] [(2, ⟨0, .box (.es (hE h)), 0⟩), (3, ⟨0, .box (.es (bE b)), 0⟩), (4, ⟨0, .box (.es (hE hZ)), 0⟩), (5, ⟨0, .box (.es (wE w)), 0⟩), (12, ⟨0, .box (.es (hE v)), 0⟩)]) (le_of (ad := []) ⟨⟨rfl, rfl, rfl, rfl, rfl⟩, ⟨rfl, rfl, rfl, rfl, rfl⟩, ⟨rfl, rfl, rfl, rfl, rfl⟩, ⟨rfl, rfl, rfl, rfl, rfl⟩, ⟨rfl, rfl, rfl, rfl, rfl⟩, rfl, rfl, rfl, rfl, rfl, trivial⟩ (memOk_box rfl rfl rfl (memOk_box rfl rfl rfl (memOk_box rfl rfl rfl (memOk_box rfl rfl rfl (memOk_box rfl rfl rfl trivial)))))) ?_
    refine tr_region (lex (T := tab) tOk hnt rfl ?_ (call rfl rfl rfl rfl rfl rfl rfl hnt (rotl_fn v.e (-6) 6 (by decide) (by decide)) (lex (T := tab) tOk hnt rfl ?_ (call rfl rfl rfl rfl rfl rfl rfl hnt (rotl_fn v.e (-11) 11 (by decide) (by decide)) (lex (T := tab) tOk hnt rfl ?_ (call rfl rfl rfl rfl rfl rfl rfl hnt (rotl_fn v.e (-25) 25 (by decide) (by decide)) (lex (T := tab) tOk hnt rfl ?_ (Lex.nil _)))))))) ?_
    · exact trivial
    · exact trivial
    · (dsimp only [AllP]; (repeat' first | exact trivial | apply And.intro | exact Nat.le_of_ble_eq_true (by kernel_rfl) | decide | kernel_rfl | exact rfl))
    · (dsimp only [AllP]; (repeat' first | exact trivial | apply And.intro | exact Nat.le_of_ble_eq_true (by kernel_rfl) | decide | kernel_rfl | exact rfl))
    refine tr_le (s' := St.of [(2, .one (.ptr 2 0 0)), (3, .one (.ptr 3 0 0)), (4, .one (.ptr 4 0 0)), (5, .one (.ptr 5 0 0)), (12, .one (.ptr 12 0 0)), (99, .v (.int .i64 i)), (13, .v (.int .i64 i)), (14, dW v.e), (15, dW v.a), (16, dW (Sg1 v.e)), ((1000000 + 4), .one (.eptr kE))] [(2, ⟨0, .box (.es (hE h)), 0⟩), (3, ⟨0, .box (.es (bE b)), 0⟩), (4, ⟨0, .box (.es (hE hZ)), 0⟩), (5, ⟨0, .box (.es (wE w)), 0⟩), (12, ⟨0, .box (.es (hE v)), 0⟩)]) (le_of (ad := []) ⟨⟨rfl, rfl, rfl, rfl, rfl⟩, ⟨rfl, rfl, rfl, rfl, rfl⟩, ⟨rfl, rfl, rfl, rfl, rfl⟩, ⟨rfl, rfl, rfl, rfl, rfl⟩, ⟨rfl, rfl, rfl, rfl, rfl⟩, rfl, rfl, rfl, rfl, eWq (S1V v.e), rfl, trivial⟩ (memOk_box rfl rfl rfl (memOk_box rfl rfl rfl (memOk_box rfl rfl rfl (memOk_box rfl rfl rfl (memOk_box rfl rfl rfl trivial)))))) ?_
    repeat' (first | refine tr_seq ?_ | refine tr_block ?_ | refine tr_skip ?_)
    refine regD (T := tab) tOk mixedR hnt rfl (by decide +kernel) ?_ ?_
    · dsimp only [AllP]
      rw [Int.toNat_natCast]
      exact ⟨trivial, rfl, hwk, ⟨Int.natCast_nonneg _, by omega⟩, trivial, rfl, hkk, ⟨Int.natCast_nonneg _, by omega⟩, trivial, rfl, rfl, rfl, ⟨Nat.le_of_ble_eq_true rfl, rfl⟩, ⟨by decide, by decide⟩, trivial, trivial, rfl, ⟨Nat.le_of_ble_eq_true rfl, rfl⟩, ⟨by decide, by decide⟩, trivial, rfl, trivial, ⟨Nat.le_of_ble_eq_true rfl, rfl⟩, ⟨by decide, by decide⟩⟩
    rw [Int.toNat_natCast]
    refine tr_le (s' := St.of [(2, .one (.ptr 2 0 0)), (3, .one (.ptr 3 0 0)), (4, .one (.ptr 4 0 0)), (5, .one (.ptr 5 0 0)), (12, .one (.ptr 12 0 0)), (99, .v (.int .i64 i)), (14, dW v.e), (15, dW v.a), (17, dW (v.h + Sg1 v.e + chW v.e v.f v.g + kW.getD i 0 + w.getD i 0)), ((1000000 + 4), .one (.eptr kE))] [(2, ⟨0, .box (.es (hE h)), 0⟩), (3, ⟨0, .box (.es (bE b)), 0⟩), (4, ⟨0, .box (.es (hE hZ)), 0⟩), (5, ⟨0, .box (.es (wE w)), 0⟩), (12, ⟨0, .box (.es (hE v)), 0⟩)]) (le_of (ad := []) ⟨⟨rfl, rfl, rfl, rfl, rfl⟩, ⟨rfl, rfl, rfl, rfl, rfl⟩, ⟨rfl, rfl, rfl, rfl, rfl⟩, ⟨rfl, rfl, rfl, rfl, rfl⟩, ⟨rfl, rfl, rfl, rfl, rfl⟩, rfl, rfl, rfl, ?_, rfl, trivial⟩ (memOk_box rfl rfl rfl (memOk_box rfl rfl rfl (memOk_box rfl rfl rfl (memOk_box rfl rfl rfl (memOk_box rfl rfl rfl trivial)))))) ?_
    · show E.v (.int .u32 (wW (wW (wW (wW ((v.h.toNat : Int) + ((Sg1 v.e).toNat : Int)) + wW (((oW (wW (((oW (v.e.toNat : Int)) &&& (oW (v.f.toNat : Int))).toNat : Int))) ^^^ (oW (wW (((oW (wW (((oW 4294967295) ^^^ (oW (v.e.toNat : Int))).toNat : Int))) &&& (oW (v.g.toNat : Int))).toNat : Int)))).toNat : Int)) + ((kE.drop (i * 1)).getD 0 E.dflt).int) + ((wE w).getD (0 + i * 1) E.dflt).int))) = _
      rw [hkg, hwg]
      exact eWq (tV _ _ _ _ _ _ _)
    repeat' (first | refine tr_seq ?_ | refine tr_block ?_ | refine tr_skip ?_)
    refine tr_region (lex (T := tab) tOk hnt rfl ?_ (call rfl rfl rfl rfl rfl rfl rfl hnt (rotl_fn v.a (-2) 2 (by decide) (by decide)) (lex (T := tab) tOk hnt rfl ?_ (call rfl rfl rfl rfl rfl rfl rfl hnt (rotl_fn v.a (-13) 13 (by decide) (by decide)) (lex (T := tab) tOk hnt rfl ?_ (call rfl rfl rfl rfl rfl rfl rfl hnt (rotl_fn v.a (-22) 22 (by decide) (by decide)) (lex (T := tab) tOk hnt rfl ?_ (Lex.nil _)))))))) ?_
    · exact trivial
    · exact trivial
    · (dsimp only [AllP]; (repeat' first | exact trivial | apply And.intro | exact Nat.le_of_ble_eq_true (by kernel_rfl) | decide | kernel_rfl | exact rfl))
    · (dsimp only [AllP]; (repeat' first | exact trivial | apply And.intro | exact Nat.le_of_ble_eq_true (by kernel_rfl) | decide | kernel_rfl | exact rfl))
    refine tr_le (s' := St.of [(2, .one (.ptr 2 0 0)), (3, .one (.ptr 3 0 0)), (4, .one (.ptr 4 0 0)), (5, .one (.ptr 5 0 0)), (12, .one (.ptr 12 0 0)), (99, .v (.int .i64 i)), (14, dW v.e), (15, dW v.a), (17, dW (v.h + Sg1 v.e + chW v.e v.f v.g + kW.getD i 0 + w.getD i 0)), (18, dW (Sg0 v.a)), ((1000000 + 4), .one (.eptr kE))] [(2, ⟨0, .box (.es (hE h)), 0⟩), (3, ⟨0, .box (.es (bE b)), 0⟩), (4, ⟨0, .box (.es (hE hZ)), 0⟩), (5, ⟨0, .box (.es (wE w)), 0⟩), (12, ⟨0, .box (.es (hE v)), 0⟩)]) (le_of (ad := []) ⟨⟨rfl, rfl, rfl, rfl, rfl⟩, ⟨rfl, rfl, rfl, rfl, rfl⟩, ⟨rfl, rfl, rfl, rfl, rfl⟩, ⟨rfl, rfl, rfl, rfl, rfl⟩, ⟨rfl, rfl, rfl, rfl, rfl⟩, rfl, rfl, rfl, rfl, eWq (S0V v.a), rfl, trivial⟩ (memOk_box rfl rfl rfl (memOk_box rfl rfl rfl (memOk_box rfl rfl rfl (memOk_box rfl rfl rfl (memOk_box rfl rfl rfl trivial)))))) ?_
    repeat' (first | refine tr_seq ?_ | refine tr_block ?_ | refine tr_skip ?_)
    refine reg (T := tab) tOk hnt rfl ?_ ?_
    · (dsimp only [AllP]; (repeat' first | exact trivial | apply And.intro | exact Nat.le_of_ble_eq_true (by kernel_rfl) | decide | kernel_rfl | exact rfl))
    refine tr_le (s' := St.of [(2, .one (.ptr 2 0 0)), (3, .one (.ptr 3 0 0)), (4, .one (.ptr 4 0 0)), (5, .one (.ptr 5 0 0)), (12, .one (.ptr 12 0 0)), (99, .v (.int .i64 i)), (14, dW v.e), (15, dW v.a), (17, dW (v.h + Sg1 v.e + chW v.e v.f v.g + kW.getD i 0 + w.getD i 0)), (18, dW (Sg0 v.a + majW v.a v.b v.c)), ((1000000 + 4), .one (.eptr kE))] [(2, ⟨0, .box (.es (hE h)), 0⟩), (3, ⟨0, .box (.es (bE b)), 0⟩), (4, ⟨0, .box (.es (hE hZ)), 0⟩), (5, ⟨0, .box (.es (wE w)), 0⟩), (12, ⟨0, .box (.es (hE v)), 0⟩)]) (le_of (ad := []) ⟨⟨rfl, rfl, rfl, rfl, rfl⟩, ⟨rfl, rfl, rfl, rfl, rfl⟩, ⟨rfl, rfl, rfl, rfl, rfl⟩, ⟨rfl, rfl, rfl, rfl, rfl⟩, ⟨rfl, rfl, rfl, rfl, rfl⟩, rfl, rfl, rfl, rfl, eWq (uV (Sg0 v.a) v.a v.b v.c), rfl, trivial⟩ (memOk_box rfl rfl rfl (memOk_box rfl rfl rfl (memOk_box rfl rfl rfl (memOk_box rfl rfl rfl (memOk_box rfl rfl rfl trivial)))))) ?_
    repeat' (first | refine tr_seq ?_ | refine reg (T := tab) tOk hnt rfl ?_ ?_ | refine regD (T := tab) tOk mixedR hnt rfl (by decide +kernel) ?_ ?_ | refine tr_block ?_ | refine tr_skip ?_)
    · (dsimp only [AllP]; (repeat' first | exact trivial | apply And.intro | exact Nat.le_of_ble_eq_true (by kernel_rfl) | decide | kernel_rfl | exact rfl))
    · (dsimp only [AllP]; (repeat' first | exact trivial | assumption | exact Nat.le_of_ble_eq_true rfl | apply And.intro | intro _ | exact rfl))
    have hv2 : roundsW h w (i + 1) = roundW v (kW.getD i 0) (w.getD i 0) := by rw [roundsW, hv.out]
    refine ⟨i + 1, hi64, by omega, ?_⟩
    rw [hv2]
    have eb : [E.v (.int .u32 (wW (((v.h + Sg1 v.e + chW v.e v.f v.g + kW.getD i 0 + w.getD i 0).toNat : Int) + ((Sg0 v.a + majW v.a v.b v.c).toNat : Int)))), eW v.a, eW v.b, eW v.c, E.v (.int .u32 (wW ((v.d.toNat : Int) + ((v.h + Sg1 v.e + chW v.e v.f v.g + kW.getD i 0 + w.getD i 0).toNat : Int)))), eW v.e, eW v.f, eW v.g] = hE (roundW v (kW.getD i 0) (w.getD i 0)) := by
      unfold wW
      rw [w_add, w_add]
      rfl
    exact le_of (ad := []) ⟨⟨rfl, rfl, rfl, rfl, rfl⟩, ⟨rfl, rfl, rfl, rfl, rfl⟩, ⟨rfl, rfl, rfl, rfl, rfl⟩, ⟨rfl, rfl, rfl, rfl, rfl⟩, ⟨rfl, rfl, rfl, rfl, rfl⟩, congrArg (fun z : Int => E.v (.int .i64 z)) (wrap64_id (by omega) (by omega)), rfl, trivial⟩ (memOk_box rfl rfl rfl (memOk_box rfl rfl rfl (memOk_box rfl rfl rfl (memOk_box rfl rfl rfl (memOk_boxE rfl rfl (Eq.trans (b := [E.v (.int .u32 (wW (((v.h + Sg1 v.e + chW v.e v.f v.g + kW.getD i 0 + w.getD i 0).toNat : Int) + ((Sg0 v.a + majW v.a v.b v.c).toNat : Int)))), eW v.a, eW v.b, eW v.c, E.v (.int .u32 (wW ((v.d.toNat : Int) + ((v.h + Sg1 v.e + chW v.e v.f v.g + kW.getD i 0 + w.getD i 0).toNat : Int)))), eW v.e, eW v.f, eW v.g]) (by kernel_rfl) eb) trivial)))))
  have hc := of_decide_eq_false hc
  have hi : i = 64 := by omega
  subst hi
  have hvv : Hd (compW h w = v.add h) := ⟨by rw [compW, hv.out]⟩
  clear hc hwg hwk hkg hkk
  refine tr_exit ?_
  repeat' (first | refine tr_seq ?_ | refine reg (T := tab) tOk hnt rfl ?_ ?_ | refine regD (T := tab) tOk mixedR hnt rfl (by decide +kernel) ?_ ?_ | refine tr_block ?_ | refine tr_skip ?_)
  · (dsimp only [AllP]; (repeat' first | exact trivial | assumption | exact Nat.le_of_ble_eq_true rfl | apply And.intro | intro _ | exact rfl))
  refine tr_loop (σ := Nat) (fun i => St.of [(2, .one (.ptr 2 0 0)), (3, .one (.ptr 3 0 0)), (4, .one (.ptr 4 0 0)), (5, .one (.ptr 5 0 0)), (12, .one (.ptr 12 0 0)), (181, .v (.int .i64 i))] [(2, ⟨0, .box (.es (hE h)), 0⟩), (3, ⟨0, .box (.es (bE b)), 0⟩), (4, ⟨0, .box (.es (hE hZ)), 0⟩), (5, ⟨0, .box (.es (wE w)), 0⟩), (12, ⟨0, .box (.es (wE (mixL v.l h.l i))), 0⟩)]) (fun i => i ≤ 8) (fun i => 8 - i) 0 (le_of (ad := []) ⟨⟨rfl, rfl, rfl, rfl, rfl⟩, ⟨rfl, rfl, rfl, rfl, rfl⟩, ⟨rfl, rfl, rfl, rfl, rfl⟩, ⟨rfl, rfl, rfl, rfl, rfl⟩, ⟨rfl, rfl, rfl, rfl, rfl⟩, rfl, trivial⟩ (memOk_box rfl rfl rfl (memOk_box rfl rfl rfl (memOk_box rfl rfl rfl (memOk_box rfl rfl rfl (memOk_boxE rfl rfl rfl trivial)))))) (Nat.zero_le _) ?_
  intro i hi
  have hll : v.l.length = h.l.length := rfl
  repeat' (first | refine tr_seq ?_ | refine reg (T := tab) tOk hnt rfl ?_ ?_ | refine regD (T := tab) tOk mixedR hnt rfl (by decide +kernel) ?_ ?_ | refine tr_block ?_ | refine tr_skip ?_)
  · (dsimp only [AllP]; (repeat' first | exact trivial | assumption | exact Nat.le_of_ble_eq_true rfl | apply And.intro | intro _ | exact rfl))
  refine tr_cond rfl (fun hc => ?_) (fun hc => ?_)
  · have hc := of_decide_eq_true hc
    have hi8 : i < 8 := by omega
    have hiv : i < v.l.length := hi8
    have hml : (mixL v.l h.l i).length = 8 := mix_len v.l h.l hll (Nat.le_of_lt hiv)
    repeat' (first | refine tr_seq ?_ | refine reg (T := tab) tOk hnt rfl ?_ ?_ | refine regD (T := tab) tOk mixedR hnt rfl (by decide +kernel) ?_ ?_ | refine tr_block ?_ | refine tr_skip ?_)
    · exact ⟨trivial, trivial⟩
    · dsimp only [AllP]
      rw [Int.toNat_natCast]
      exact ⟨⟨rfl, putW _ (by omega), Nat.zero_le _⟩, ⟨Int.natCast_nonneg _, by omega⟩, rfl, okW h.l (by omega), ⟨Int.natCast_nonneg _, by omega⟩, trivial, okW _ (by omega), ⟨Int.natCast_nonneg _, by omega⟩, trivial⟩
    · exact ⟨trivial, rfl⟩
    rw [Int.toNat_natCast]
    refine ⟨i + 1, hi8, by omega, le_of (ad := []) ⟨⟨rfl, rfl, rfl, rfl, rfl⟩, ⟨rfl, rfl, rfl, rfl, rfl⟩, ⟨rfl, rfl, rfl, rfl, rfl⟩, ⟨rfl, rfl, rfl, rfl, rfl⟩, ⟨rfl, rfl, rfl, rfl, rfl⟩, congrArg (fun z : Int => E.v (.int .i64 z)) (wrap64_id (by omega) (by omega)), trivial⟩ (memOk_box rfl rfl rfl (memOk_box rfl rfl rfl (memOk_box rfl rfl rfl (memOk_box rfl rfl rfl (memOk_boxE rfl rfl ?_ trivial)))))⟩
    have e := setW (mixL v.l h.l i) (i := i) (by omega) (v.l.getD i 0 + h.l.getD i 0)
    rw [mix_set v.l h.l hll hiv] at e
    refine Eq.trans ?_ e
    refine congrArg (fun z : Int => List.take (0 + i * 1) (wE (mixL v.l h.l i)) ++ [E.v (.int .u32 z)] ++ List.drop (0 + i * 1 + 1) (wE (mixL v.l h.l i))) ?_
    show wW (((wE (mixL v.l h.l i)).getD (0 + i * 1) E.dflt).int + ((wE h.l).getD (0 + i * 1) E.dflt).int) = _
    rw [getW _ (by omega), getW h.l (by omega), mix_get v.l h.l hll hiv]
    exact w_add _ _
  have hc := of_decide_eq_false hc
  have hi : i = 8 := by omega
  subst hi
  rw [hvv.out]
  clear hc hll
  refine tr_exit ?_
  repeat' (first | refine tr_seq ?_ | refine reg (T := tab) tOk hnt rfl ?_ ?_ | refine regD (T := tab) tOk mixedR hnt rfl (by decide +kernel) ?_ ?_ | refine tr_cond rfl (fun _ => ?_) (fun _ => ?_) | refine tr_block ?_ | refine tr_skip ?_ | refine tr_ret ?_ | refine tr_exit ?_)
  · (dsimp only [AllP]; (repeat' first | exact trivial | apply And.intro | exact Nat.le_of_ble_eq_true (by kernel_rfl) | decide | kernel_rfl | exact rfl))
  refine ⟨.inr rfl, _, _, rfl, ⟨Nat.le_of_ble_eq_true (by kernel_rfl), trivial⟩, ?_⟩
  refine Eq.trans (b := D.agg (.es (hE (v.add h)))) (by kernel_rfl) rfl
end Go.Proofs.YtphaholcndhonaaDoor
namespace Go.Proofs.YtphaholcndhonaaDoor
open Go Go.RowKit Go.Proofs.YtphaholcndhonaaDoor.Ab

def stE (H : H8) (l : List UInt8) (n m : Int) : List E := hE H ++ (bE l ++ [eI n, eI m])
section
variable (H : H8) (l : List UInt8) (hl : l.length = 64) (n m : Int)
include hl
theorem st_len : (stE H l n m).length = 74 := by simp [stE, hE, bE, H8.l, hl]
theorem st_N : (stE H l n m).getD (0 + 72) E.dflt = eI n := by
  have h1 : (hE H).length = 8 := rfl
  have h2 : (bE l).length = 64 := by simp [bE, hl]
  unfold stE
  rw [List.getD_eq_getElem?_getD, List.getElem?_append_right (by omega), List.getElem?_append_right (by omega), h1, h2]
  rfl
theorem st_L : (stE H l n m).getD (0 + 73) E.dflt = eI m := by
  have h1 : (hE H).length = 8 := rfl
  have h2 : (bE l).length = 64 := by simp [bE, hl]
  unfold stE
  rw [List.getD_eq_getElem?_getD, List.getElem?_append_right (by omega), List.getElem?_append_right (by omega), h1, h2]
  rfl
theorem st_held {i : Nat} (h : i < 64) : (stE H l n m).getD (0 + 8 + i * 1) E.dflt = eB (l.getD i 0) := by
  have h1 : (hE H).length = 8 := rfl
  have h2 : (bE l).length = 64 := by simp [bE, hl]
  unfold stE
  rw [List.getD_eq_getElem?_getD, List.getElem?_append_right (by omega), List.getElem?_append_left (by omega), h1]
  have e : 0 + 8 + i * 1 - 8 = i := by omega
  rw [e]
  simp [bE, hl, h]
theorem st_setN (x : Int) : (stE H l n m).take (0 + 72) ++ [eI x] ++ (stE H l n m).drop (0 + 72 + 1) = stE H l x m := by
  have h1 : (hE H).length = 8 := rfl
  have h2 : (bE l).length = 64 := by simp [bE, hl]
  have e : stE H l n m = (hE H ++ bE l) ++ [eI n, eI m] := by simp [stE]
  rw [e, List.take_left' (by rw [List.length_append, h1, h2]), List.drop_append, List.drop_of_length_le (by rw [List.length_append, h1, h2]; omega)]
  rw [List.length_append, h1, h2]
  simp [stE]
theorem st_setL (x : Int) : (stE H l n m).take (0 + 73) ++ [eI x] ++ (stE H l n m).drop (0 + 73 + 1) = stE H l n x := by
  have h1 : (hE H).length = 8 := rfl
  have h2 : (bE l).length = 64 := by simp [bE, hl]
  have e : stE H l n m = (hE H ++ (bE l ++ [eI n])) ++ [eI m] := by simp [stE]
  rw [e, List.take_left' (by simp [h1, h2]), List.drop_of_length_le (by simp [h1, h2])]
  simp [stE]
theorem st_setHeld {i : Nat} (h : i < 64) (c : UInt8) : (stE H l n m).take (0 + 8 + i * 1) ++ [eB c] ++ (stE H l n m).drop (0 + 8 + i * 1 + 1) = stE H (l.set i c) n m := by
  have h1 : (hE H).length = 8 := rfl
  have h2 : (bE l).length = 64 := by simp [bE, hl]
  have e : bE (l.set i c) = (bE l).take i ++ ([eB c] ++ (bE l).drop (i + 1)) := by
    unfold bE
    rw [List.map_set, List.set_eq_take_append_cons_drop, if_pos (by simp [hl, h])]
    simp
  unfold stE
  rw [e, Nat.mul_one, List.take_append, List.drop_append, h1, List.take_of_length_le (by omega), List.drop_of_length_le (by omega)]
  have e1 : 0 + 8 + i - 8 = i := by omega
  have e2 : 0 + 8 + i + 1 - 8 = i + 1 := by omega
  rw [e1, e2, List.take_append, List.drop_append, h2]
  have e3 : i - 64 = 0 := by omega
  have e4 : i + 1 - 64 = 0 := by omega
  rw [e3, e4]
  simp
theorem st_H : List.take 8 (List.drop (0 + 0) (stE H l n m)) = hE H := by
  have _ := hl
  unfold stE
  rw [Nat.add_zero, List.drop_zero, List.take_left' (l₁ := hE H) (show (hE H).length = 8 from rfl)]
theorem st_Held : List.take 64 (List.drop (0 + 8) (stE H l n m)) = bE l := by
  have h2 : (bE l).length = 64 := by simp [bE, hl]
  unfold stE
  rw [Nat.zero_add, List.drop_left' (l₁ := hE H) (show (hE H).length = 8 from rfl), List.take_left' h2]
theorem st_setH (H' : H8) : (stE H l n m).take (0 + 0) ++ hE H' ++ (stE H l n m).drop (0 + 0 + 8) = stE H' l n m := by
  have _ := hl
  unfold stE
  rw [show (0 + 0 + 8) = 8 from rfl, List.drop_left' (l₁ := hE H) (show (hE H).length = 8 from rfl)]
  rfl
theorem st_setAll (l' : List UInt8) : (stE H l n m).take (0 + 8) ++ bE l' ++ (stE H l n m).drop (0 + 8 + 64) = stE H l' n m := by
  have h2 : (bE l).length = 64 := by simp [bE, hl]
  have e : stE H l n m = (hE H ++ bE l) ++ [eI n, eI m] := by simp [stE]
  rw [e, List.drop_left' (l₁ := hE H ++ bE l) (by rw [List.length_append, h2]; rfl), List.append_assoc (hE H), Nat.zero_add, List.take_left' (l₁ := hE H) (show (hE H).length = 8 from rfl)]
  simp [stE]
theorem st_okN : 0 + 72 < (Cs.es (stE H l n m)).len ∧ D0.isA (.int .i64) ((Cs.es (stE H l n m)).at (0 + 72)) := by
  refine ⟨?_, ?_⟩
  · show 0 + 72 < (stE H l n m).length
    rw [st_len H l hl]
    decide
  · show E.as _ ((stE H l n m).getD (0 + 72) E.dflt) = (stE H l n m).getD (0 + 72) E.dflt
    rw [st_N H l hl]
    rfl
theorem st_okL : 0 + 73 < (Cs.es (stE H l n m)).len ∧ D0.isA (.int .i64) ((Cs.es (stE H l n m)).at (0 + 73)) := by
  refine ⟨?_, ?_⟩
  · show 0 + 73 < (stE H l n m).length
    rw [st_len H l hl]
    decide
  · show E.as _ ((stE H l n m).getD (0 + 73) E.dflt) = (stE H l n m).getD (0 + 73) E.dflt
    rw [st_L H l hl]
    rfl
theorem st_okHeld {i : Nat} (h : i < 64) : 0 + 8 + i * 1 < (Cs.es (stE H l n m)).len ∧ D0.isA (.int .u8) ((Cs.es (stE H l n m)).at (0 + 8 + i * 1)) := by
  refine ⟨?_, ?_⟩
  · show 0 + 8 + i * 1 < (stE H l n m).length
    rw [st_len H l hl]
    omega
  · show E.as _ ((stE H l n m).getD (0 + 8 + i * 1) E.dflt) = (stE H l n m).getD (0 + 8 + i * 1) E.dflt
    rw [st_held H l hl n m h]
    rfl
theorem st_fit {k : Nat} (h : k ≤ 74) : k ≤ (Cs.es (stE H l n m)).len := by
  show k ≤ (stE H l n m).length
  rw [st_len H l hl]
  exact h
end
def padB (l : List UInt8) : List UInt8 := l ++ List.replicate (64 - l.length) 0
theorem padB_len {l : List UInt8} (h : l.length ≤ 64) : (padB l).length = 64 := by
  simp [padB]
  omega
theorem padB_set {l : List UInt8} (h : l.length < 64) (x : UInt8) : (padB l).set l.length x = padB (l ++ [x]) := by
  unfold padB
  rw [List.set_append_right _ _ (Nat.le_refl _), Nat.sub_self]
  have : 64 - l.length = (64 - (l ++ [x]).length) + 1 := by simp; omega
  rw [this, List.replicate_succ]
  simp
theorem padB_full {l : List UInt8} (h : l.length = 64) : padB l = l := by simp [padB, h]
def smE (s : Sm) : List E := stE s.H (padB s.held) s.held.length s.len
def feedF (s : Sm) (b : List UInt8) : Sm := (⟨s.H, s.held, s.len + b.length⟩ : Sm).fold b
theorem fold_held (s : Sm) (l : List UInt8) (hs : s.held.length < 64) : (s.fold l).held.length < 64 := (fold_law s l hs).2.2
end Go.Proofs.YtphaholcndhonaaDoor
namespace Go.Proofs.YtphaholcndhonaaDoor
open Go Go.RowKit Go.Proofs.YtphaholcndhonaaDoor.Ab

theorem all_of (L : List E) (n : Nat) (h : L.length = n) : List.take n (List.drop 0 L) = L := by
  rw [List.drop_zero, List.take_of_length_le (by omega)]
theorem put_all (O L : List E) (n : Nat) (h : L.length = n) (ho : O.length = n) : List.take 0 O ++ List.take n (List.drop 0 L) ++ List.drop (0 + n) O = L := by
  rw [all_of L n h, List.drop_of_length_le (by omega)]
  simp
def zB : List UInt8 := List.replicate 64 0
def gK : List (Nat × List E) := [(4, kE)]
theorem takeS (b : List UInt8) {k : Nat} (h : k < b.length) : b.take (k + 1) = b.take k ++ [b.getD k 0] := take_snocB b k h
theorem fold_snoc (s : Sm) (l : List UInt8) (c : UInt8) : s.fold (l ++ [c]) = (s.fold l).one c := by
  rw [fold_append]
  rfl
set_option maxRecDepth 10000 in
set_option maxHeartbeats 400000 in
theorem feed_fn (s : Sm) (b : List UInt8) (hs : s.held.length < 64) (h1 : -4611686018427387904 ≤ s.len) (h2 : s.len ≤ 4611686018427387904) (hb : b.length ≤ 2305843009213693952) : FnG Tryd.prog 178 gK [.agg (.es (smE s)), .one (.e (eBytes b))] (.agg (.es (smE (feedF s b)))) := by
  refine fn_introG (T := tab) tOk Tryd.func178 rfl (by kernel_rfl) (by simp [Tryd.ntmps178]) ?_
  intro X hX
  have hnt : X.nt = 42 := hX
  clear hX
  have hp := padB_len (Nat.le_of_lt hs)
  have hw : IntKind.i64.wrap (((smE s).getD (0 + 73) E.dflt).int + ((eCells b).length : Int)) = s.len + (b.length : Int) := by
    unfold smE
    rw [st_L _ _ hp, eCells_length]
    exact wrap64_id (show -9223372036854775808 ≤ s.len + (b.length : Int) by omega) (show s.len + (b.length : Int) ≤ 9223372036854775807 by omega)
  repeat' (first | refine tr_seq ?_ | refine reg (T := tab) tOk hnt rfl ?_ ?_ | refine regD (T := tab) tOk mixedR hnt rfl (by decide +kernel) ?_ ?_ | refine tr_block ?_ | refine tr_skip ?_)
  · (dsimp only [AllP]; (repeat' first | exact trivial | assumption | exact Nat.le_of_ble_eq_true rfl | apply And.intro | intro _ | exact rfl))
  · have k1 := st_okL s.H (padB s.held) hp s.held.length s.len
    have k2 := st_fit s.H (padB s.held) hp s.held.length s.len (k := 0 + 73 + 1) (by decide)
    exact ⟨⟨rfl, k2, Nat.zero_le _⟩, trivial, rfl, trivial, trivial, k1, trivial⟩
  · (dsimp only [AllP]; (repeat' first | exact trivial | assumption | exact Nat.le_of_ble_eq_true rfl | apply And.intro | intro _ | exact rfl))
  refine tr_loop (σ := Nat) (fun k => St.of [(2, .one (.ptr 2 0 0)), (4, .one (.ptr 4 0 0)), (13, .one (.e (eBytes b))), (14, .v (.int .i64 b.length)), (15, .v (.int .i64 k)), ((1000000 + 4), .one (.eptr kE))] [(2, ⟨0, .box (.es (smE ((⟨s.H, s.held, s.len + b.length⟩ : Sm).fold (b.take k)))), 0⟩), (4, ⟨0, .box (.es (stE hZ zB 0 0)), 0⟩)]) (fun k => k ≤ b.length) (fun k => b.length - k) 0 (le_of (ad := []) ⟨⟨rfl, rfl, rfl, rfl, rfl⟩, ⟨rfl, rfl, rfl, rfl, rfl⟩, rfl, congrArg (fun z : Nat => E.v (.int .i64 (z : Int))) (eCells_length b), rfl, rfl, trivial⟩ (memOk_boxE rfl rfl ?_ (memOk_boxE rfl rfl (by kernel_rfl) trivial))) (Nat.zero_le _) ?_
  · refine Eq.trans ?_ (st_setL s.H (padB s.held) hp s.held.length s.len (s.len + b.length))
    exact congrArg (fun z : Int => List.take (0 + 73) (smE s) ++ [E.v (.int .i64 z)] ++ List.drop (0 + 73 + 1) (smE s)) hw
  clear hw hp
  intro k hk
  have hF : ∃ t : Sm, (⟨s.H, s.held, s.len + b.length⟩ : Sm).fold (b.take k) = t ∧ Hd ((⟨s.H, s.held, s.len + b.length⟩ : Sm).fold (b.take k) = t) ∧ t.held.length < 64 := ⟨_, rfl, ⟨rfl⟩, fold_held _ _ hs⟩
  obtain ⟨t, e0, hF, ht⟩ := hF
  rw [e0]
  clear e0
  repeat' (first | refine tr_seq ?_ | refine reg (T := tab) tOk hnt rfl ?_ ?_ | refine regD (T := tab) tOk mixedR hnt rfl (by decide +kernel) ?_ ?_ | refine tr_block ?_ | refine tr_skip ?_)
  · (dsimp only [AllP]; (repeat' first | exact trivial | assumption | exact Nat.le_of_ble_eq_true rfl | apply And.intro | intro _ | exact rfl))
  refine tr_cond rfl (fun hc => ?_) (fun hc => ?_)
  · have hc := of_decide_eq_true hc
    have hkb : k < b.length := by omega
    have hF1 : Hd ((⟨s.H, s.held, s.len + b.length⟩ : Sm).fold (b.take (k + 1)) = t.one (b.getD k 0)) := ⟨by rw [takeS b hkb, fold_snoc, hF.out]⟩
    have hp := padB_len (Nat.le_of_lt ht)
    repeat' (first | refine tr_seq ?_ | refine tr_block ?_ | refine tr_skip ?_)
    refine reg (T := tab) tOk hnt rfl ?_ ?_
    · rw [Int.toNat_natCast]
      refine ⟨trivial, ⟨rdC b k hkb, rdA b k hkb⟩, Int.natCast_nonneg _, ?_, rdL b k hkb⟩
      rw [eCells_length]
      omega
    rw [Int.toNat_natCast, rdB b k hkb]
    generalize b.getD k 0 = c at hF1 ⊢
    have hn : ((smE t).getD (0 + 72) E.dflt).int = (t.held.length : Int) := by
      unfold smE
      rw [st_N _ _ hp]
      rfl
    repeat' (first | refine tr_seq ?_ | refine tr_block ?_ | refine tr_skip ?_)
    refine reg (T := tab) tOk hnt rfl ?_ ?_
    · dsimp only [AllP]
      rw [hn, Int.toNat_natCast]
      exact ⟨⟨rfl, st_fit _ _ hp _ _ (by omega), Nat.zero_le _⟩, ⟨Int.natCast_nonneg _, by omega⟩, trivial, trivial, st_okN _ _ hp _ _, trivial⟩
    rw [hn, Int.toNat_natCast]
    have hlp : (t.held ++ [c]).length = t.held.length + 1 := by rw [List.length_append]; rfl
    have hp1 : (padB (t.held ++ [c])).length = 64 := padB_len (by omega)
    refine tr_le (s' := St.of [(2, .one (.ptr 2 0 0)), (4, .one (.ptr 4 0 0)), (13, .one (.e (eBytes b))), (14, .v (.int .i64 b.length)), (15, .v (.int .i64 k)), ((1000000 + 4), .one (.eptr kE))] [(2, ⟨0, .box (.es (stE t.H (padB (t.held ++ [c])) t.held.length t.len)), 0⟩), (4, ⟨0, .box (.es (stE hZ zB 0 0)), 0⟩)]) (le_of (ad := []) ⟨⟨rfl, rfl, rfl, rfl, rfl⟩, ⟨rfl, rfl, rfl, rfl, rfl⟩, rfl, rfl, rfl, rfl, trivial⟩ (memOk_boxE rfl rfl ((st_setHeld t.H (padB t.held) hp t.held.length t.len ht c).trans (by rw [padB_set ht])) (memOk_box rfl rfl rfl trivial))) ?_
    clear hn
    generalize hq : padB (t.held ++ [c]) = q at hp1 ⊢
    have hn : ((stE t.H q t.held.length t.len).getD (0 + 72) E.dflt).int = (t.held.length : Int) := by
      rw [st_N _ _ hp1]
      rfl
    have hn1 : IntKind.i64.wrap ((t.held.length : Int) + 1) = ((t.held.length + 1 : Nat) : Int) := by rw [wrap64_id (by omega) (by omega)]; omega
    repeat' (first | refine tr_seq ?_ | refine tr_block ?_ | refine tr_skip ?_)
    refine reg (T := tab) tOk hnt rfl ?_ ?_
    · exact ⟨⟨rfl, st_fit _ _ hp1 _ _ (by decide), Nat.zero_le _⟩, trivial, rfl, st_okN _ _ hp1 _ _, trivial⟩
    rw [hn, hn1]
    refine tr_le (s' := St.of [(2, .one (.ptr 2 0 0)), (4, .one (.ptr 4 0 0)), (13, .one (.e (eBytes b))), (14, .v (.int .i64 b.length)), (15, .v (.int .i64 k)), ((1000000 + 4), .one (.eptr kE))] [(2, ⟨0, .box (.es (stE t.H q ((t.held.length + 1 : Nat) : Int) t.len)), 0⟩), (4, ⟨0, .box (.es (stE hZ zB 0 0)), 0⟩)]) (le_of (ad := []) ⟨⟨rfl, rfl, rfl, rfl, rfl⟩, ⟨rfl, rfl, rfl, rfl, rfl⟩, rfl, rfl, rfl, rfl, trivial⟩ (memOk_boxE rfl rfl (st_setN t.H q hp1 _ t.len _) (memOk_box rfl rfl rfl trivial))) ?_
    clear hn hn1
    have hn : ((stE t.H q ((t.held.length + 1 : Nat) : Int) t.len).getD (0 + 72) E.dflt).int = ((t.held.length + 1 : Nat) : Int) := by
      rw [st_N _ _ hp1]
      rfl
    repeat' (first | refine tr_seq ?_ | refine tr_block ?_ | refine tr_skip ?_)
    refine reg (T := tab) tOk hnt rfl ?_ ?_
    · exact ⟨rfl, st_okN _ _ hp1 _ _, trivial⟩
    rw [hn]
    refine tr_cond rfl (fun h6 => ?_) (fun h6 => ?_)
    · have h6 := of_decide_eq_true h6
      have h63 : t.held.length = 63 := by omega
      have hone : Hd (t.one c = ⟨comp t.H q, [], t.len⟩) := ⟨by
        unfold Sm.one
        rw [if_pos h63, ← hq, padB_full (by rw [hlp, h63])]⟩
      have hturn : FnG Tryd.prog 193 gK [.agg (.es (List.take 8 (List.drop (0 + 0) (stE t.H q ((t.held.length + 1 : Nat) : Int) t.len)))), .agg (.es (List.take 64 (List.drop (0 + 8) (stE t.H q ((t.held.length + 1 : Nat) : Int) t.len))))] (.agg (.es (hE (comp t.H q)))) := by
        rw [st_H, st_Held]
        · exact turn_fn t.H q hp1
        · exact hp1
        · exact hp1
      generalize comp t.H q = H1 at hone hturn
      repeat' (first | refine tr_seq ?_ | refine tr_block ?_ | refine tr_skip ?_)
      refine tr_region (lex (T := tab) tOk hnt rfl ?_ (callV rfl rfl rfl rfl rfl rfl rfl hnt rfl hturn (lex (T := tab) tOk hnt rfl ?_ (Lex.nil _)))) ?_
      · exact ⟨st_fit _ _ hp1 _ _ (by decide), trivial, st_fit _ _ hp1 _ _ (by decide), trivial⟩
      · exact ⟨⟨rfl, st_fit _ _ hp1 _ _ (by decide), Nat.zero_le _⟩, trivial⟩
      refine tr_le (s' := St.of [(2, .one (.ptr 2 0 0)), (4, .one (.ptr 4 0 0)), (13, .one (.e (eBytes b))), (14, .v (.int .i64 b.length)), (15, .v (.int .i64 k)), ((1000000 + 4), .one (.eptr kE))] [(2, ⟨0, .box (.es (stE H1 q ((t.held.length + 1 : Nat) : Int) t.len)), 0⟩), (4, ⟨0, .box (.es (stE hZ zB 0 0)), 0⟩)]) (le_of (ad := []) ⟨⟨rfl, rfl, rfl, rfl, rfl⟩, ⟨rfl, rfl, rfl, rfl, rfl⟩, rfl, rfl, rfl, rfl, trivial⟩ (memOk_boxE rfl rfl (st_setH t.H q hp1 _ t.len H1) (memOk_box rfl rfl rfl trivial))) ?_
      repeat' (first | refine tr_seq ?_ | refine tr_block ?_ | refine tr_skip ?_)
      refine reg (T := tab) tOk hnt rfl ?_ ?_
      · exact ⟨⟨rfl, st_fit _ _ hp1 _ _ (by decide), Nat.zero_le _⟩, trivial, trivial⟩
      refine tr_le (s' := St.of [(2, .one (.ptr 2 0 0)), (4, .one (.ptr 4 0 0)), (13, .one (.e (eBytes b))), (14, .v (.int .i64 b.length)), (15, .v (.int .i64 k)), ((1000000 + 4), .one (.eptr kE))] [(2, ⟨0, .box (.es (stE H1 zB ((t.held.length + 1 : Nat) : Int) t.len)), 0⟩), (4, ⟨0, .box (.es (stE hZ zB 0 0)), 0⟩)]) (le_of (ad := []) ⟨⟨rfl, rfl, rfl, rfl, rfl⟩, ⟨rfl, rfl, rfl, rfl, rfl⟩, rfl, rfl, rfl, rfl, trivial⟩ (memOk_boxE rfl rfl (Eq.trans (b := (stE H1 q ((t.held.length + 1 : Nat) : Int) t.len).take (0 + 8) ++ bE zB ++ (stE H1 q ((t.held.length + 1 : Nat) : Int) t.len).drop (0 + 8 + 64)) (by kernel_rfl) (st_setAll H1 q hp1 _ t.len zB)) (memOk_box rfl rfl rfl trivial))) ?_
      have hzl : zB.length = 64 := rfl
      repeat' (first | refine tr_seq ?_ | refine tr_block ?_ | refine tr_skip ?_)
      refine reg (T := tab) tOk hnt rfl ?_ ?_
      · exact ⟨⟨rfl, st_fit _ _ hzl _ _ (by decide), Nat.zero_le _⟩, trivial⟩
      repeat' (first | refine tr_seq ?_ | refine reg (T := tab) tOk hnt rfl ?_ ?_ | refine regD (T := tab) tOk mixedR hnt rfl (by decide +kernel) ?_ ?_ | refine tr_block ?_ | refine tr_skip ?_)
      · (dsimp only [AllP]; (repeat' first | exact trivial | assumption | exact Nat.le_of_ble_eq_true rfl | apply And.intro | intro _ | exact rfl))
      refine ⟨k + 1, hkb, by omega, ?_⟩
      rw [hF1.out, hone.out]
      exact le_of (ad := []) ⟨⟨rfl, rfl, rfl, rfl, rfl⟩, ⟨rfl, rfl, rfl, rfl, rfl⟩, rfl, rfl, congrArg (fun z : Int => E.v (.int .i64 z)) (wrap64_id (by omega) (by omega)), rfl, trivial⟩ (memOk_boxE rfl rfl (st_setN H1 zB hzl _ t.len 0) (memOk_box rfl rfl rfl trivial))
    · have h6 := of_decide_eq_false h6
      have hone : t.one c = ⟨t.H, t.held ++ [c], t.len⟩ := by
        unfold Sm.one
        rw [if_neg (by omega)]
      repeat' (first | refine tr_seq ?_ | refine reg (T := tab) tOk hnt rfl ?_ ?_ | refine regD (T := tab) tOk mixedR hnt rfl (by decide +kernel) ?_ ?_ | refine tr_block ?_ | refine tr_skip ?_)
      · (dsimp only [AllP]; (repeat' first | exact trivial | assumption | exact Nat.le_of_ble_eq_true rfl | apply And.intro | intro _ | exact rfl))
      refine ⟨k + 1, hkb, by omega, ?_⟩
      rw [hF1.out, hone]
      refine le_of (ad := []) ⟨⟨rfl, rfl, rfl, rfl, rfl⟩, ⟨rfl, rfl, rfl, rfl, rfl⟩, rfl, rfl, congrArg (fun z : Int => E.v (.int .i64 z)) (wrap64_id (by omega) (by omega)), rfl, trivial⟩ (memOk_boxE rfl rfl ?_ (memOk_box rfl rfl rfl trivial))
      unfold smE
      rw [hlp, hq]
  have hc := of_decide_eq_false hc
  have hkb : k = b.length := by omega
  subst hkb
  rw [List.take_length] at hF
  have hF2 : Hd (feedF s b = t) := ⟨hF.out⟩
  have hp := padB_len (Nat.le_of_lt ht)
  have hl74 : (smE t).length = 74 := st_len _ _ hp _ _
  have hz74 : (stE hZ zB 0 0).length = 74 := rfl
  rw [hF2.out]
  refine tr_exit ?_
  repeat' (first | refine tr_seq ?_ | refine tr_block ?_ | refine tr_skip ?_)
  refine reg (T := tab) tOk hnt rfl ?_ ?_
  · refine ⟨⟨?_, Nat.le_of_ble_eq_true rfl, Nat.zero_le _⟩, st_fit _ _ hp _ _ (by decide)⟩
    show (List.take 74 (List.drop 0 (smE t))).length = 74
    rw [all_of _ _ hl74, hl74]
  refine tr_le (s' := St.of [(4, .one (.ptr 4 0 0))] [(4, ⟨0, .box (.es (smE t)), 0⟩)]) (le_of (ad := []) ⟨⟨rfl, rfl, rfl, rfl, rfl⟩, trivial⟩ (memOk_boxE rfl rfl (put_all _ _ 74 hl74 hz74) trivial)) ?_
  refine tr_ret ⟨.inr rfl, _, _, rfl, ⟨st_fit _ _ hp _ _ (by decide), trivial⟩, ?_⟩
  exact congrArg (fun l => D.agg (.es l)) (all_of _ 74 hl74)
end Go.Proofs.YtphaholcndhonaaDoor
namespace Go.Proofs.YtphaholcndhonaaDoor
open Go Go.RowKit Go.Proofs.YtphaholcndhonaaDoor.Ab

/-- a stream behind bytes, its length set -/
def putS (s : Sm) (l : List UInt8) (m : Int) : Sm := ⟨(s.fold l).H, (s.fold l).held, m⟩
theorem fold_put : ∀ (l : List UInt8) (s : Sm) (m : Int), (⟨s.H, s.held, m⟩ : Sm).fold l = putS s l m
  | [], s, m => rfl
  | c :: l, s, m => by
    have e : (⟨s.H, s.held, m⟩ : Sm).one c = ⟨(s.one c).H, (s.one c).held, m⟩ := by
      unfold Sm.one
      split
      · rfl
      · rfl
    rw [Sm.fold, e, fold_put l (s.one c) m]
    rfl
theorem feed_put (s : Sm) (l r : List UInt8) (m : Int) : feedF (putS s l m) r = putS s (l ++ r) (m + r.length) := by
  unfold feedF
  show (⟨(s.fold l).H, (s.fold l).held, m + r.length⟩ : Sm).fold r = _
  rw [fold_put r (s.fold l)]
  unfold putS
  rw [fold_append]
theorem put_held (s : Sm) (l : List UInt8) (m : Int) (hs : s.held.length < 64) : (putS s l m).held.length < 64 := (fold_law s l hs).2.2
theorem held_mod (s : Sm) (l : List UInt8) (m : Int) (hs : s.held.length < 64) : (putS s l m).held.length = (s.held.length + l.length) % 64 := by
  show (s.fold l).held.length = _
  rw [(fold_law s l hs).2.1, List.length_drop, List.length_append]
  omega
def padZ (m : Nat) : Nat := (120 - m % 64) % 64
theorem padZ_law (m : Nat) : (m + padZ m) % 64 = 56 ∧ padZ m < 64 := by
  unfold padZ
  omega
theorem padZ_only (m k : Nat) (h : (m + k) % 64 = 56) (hk : k ≤ padZ m) : k = padZ m := by
  unfold padZ at *
  omega
theorem padZ_more (m k : Nat) (h : (m + k) % 64 ≠ 56) (hk : k ≤ padZ m) : k < padZ m := by
  have := (padZ_law m).1
  rcases Nat.lt_or_ge k (padZ m) with h1 | h1
  · exact h1
  · exact absurd (by rw [Nat.le_antisymm hk h1]; exact this) h
def tailB (s : Sm) : List UInt8 := 128 :: (List.replicate (padZ (s.held.length + 1)) 0 ++ bigF (8 * s.len.toNat) 8)
def outW (H : H8) : List UInt8 := (List.range 32).map fun i => UInt8.ofNat (((H.l.getD (i / 4) 0) >>> (24 - 8 * (i % 4))).toNat)
def endF (s : Sm) : List UInt8 := outW (s.fold (tailB s)).H
theorem outW_len (H : H8) : (outW H).length = 32 := by simp [outW]
theorem outW_get (H : H8) {i : Nat} (h : i < 32) : (outW H).getD i 0 = UInt8.ofNat (((H.l.getD (i / 4) 0) >>> (24 - 8 * (i % 4))).toNat) := by
  simp [outW, List.getD, h]
theorem bigF_get : ∀ (k n j : Nat), j < k → (bigF n k).getD j 0 = UInt8.ofNat (n / 256 ^ (k - 1 - j))
  | 0, n, j, h => by omega
  | k + 1, n, j, h => by
    rw [bigF]
    rcases Nat.lt_or_ge j k with h1 | h1
    · rw [List.getD_eq_getElem?_getD, List.getElem?_append_left (by rw [bigF_len]; exact h1), ← List.getD_eq_getElem?_getD, bigF_get k (n / 256) j h1, Nat.div_div_eq_div_mul]
      congr 2
      rw [← Nat.pow_succ']
      congr 1
      omega
    · have : j = k := by omega
      subst this
      rw [List.getD_eq_getElem?_getD, List.getElem?_append_right (by rw [bigF_len]; exact Nat.le_refl _), bigF_len, Nat.sub_self]
      simp
theorem take_bigF (n : Nat) {j : Nat} (h : j < 8) : (bigF n 8).take (j + 1) = (bigF n 8).take j ++ [UInt8.ofNat (n / 2 ^ (56 - 8 * j))] := by
  rw [take_snocB _ _ (by rw [bigF_len]; exact h), bigF_get 8 n j h]
  congr 3
  rw [show (256 : Nat) = 2 ^ 8 from rfl, ← Nat.pow_mul]
  congr 2
  omega
theorem u64_len (m : Int) (h0 : 0 ≤ m) (h1 : m ≤ 1152921504606846976) : IntKind.u64.wrap (IntKind.u64.wrap m * 8) = ((8 * m.toNat : Nat) : Int) := by
  unfold IntKind.wrap
  simp [IntKind.bits, IntKind.signed]
  omega
theorem put_all2 (O L : List E) (n : Nat) (ho : O.length = n) : List.take 0 O ++ L ++ List.drop (0 + n) O = L := by
  rw [List.drop_of_length_le (by omega)]
  simp
theorem smE_len (s : Sm) (hs : s.held.length < 64) : (smE s).length = 74 := st_len _ _ (padB_len (Nat.le_of_lt hs)) _ _
theorem smE_fit (s : Sm) (hs : s.held.length < 64) : 0 + 74 ≤ (Cs.es (smE s)).len := Nat.le_of_eq (smE_len s hs).symm
theorem feed_call (s : Sm) (l : List UInt8) (m : Int) (c : UInt8) (hs : s.held.length < 64) (h1 : 0 ≤ m) (h2 : m ≤ 4611686018427387904) : FnG Tryd.prog 178 gK [.agg (.es (List.take 74 (List.drop 0 (smE (putS s l m))))), .one (.e (.sl [[eB c]]))] (.agg (.es (smE (putS s (l ++ [c]) (m + 1))))) := by
  have hh := put_held s l m hs
  rw [all_of _ _ (smE_len _ hh)]
  have := feed_fn (putS s l m) [c] hh (by show -4611686018427387904 ≤ m; omega) h2 (by simp)
  rw [feed_put] at this
  exact this
theorem setB (l : List UInt8) {i : Nat} (h : i < l.length) (x : UInt8) : (bE l).take (0 + i * 1) ++ [eB x] ++ (bE l).drop (0 + i * 1 + 1) = bE (l.set i x) := by
  rw [Nat.zero_add, Nat.mul_one]
  unfold bE
  rw [List.map_set, List.set_eq_take_append_cons_drop, if_pos (by simpa using h)]
  simp
theorem putB (l : List UInt8) {i : Nat} (h : i < l.length) : 0 + i * 1 + 1 ≤ (Cs.es (bE l)).len := by
  show 0 + i * 1 + 1 ≤ (bE l).length
  simp [bE]
  omega
def pad32 (l : List UInt8) : List UInt8 := l ++ List.replicate (32 - l.length) 0
theorem pad32_len {l : List UInt8} (h : l.length ≤ 32) : (pad32 l).length = 32 := by
  simp [pad32]
  omega
theorem pad32_set {l : List UInt8} (h : l.length < 32) (x : UInt8) : (pad32 l).set l.length x = pad32 (l ++ [x]) := by
  unfold pad32
  rw [List.set_append_right _ _ (Nat.le_refl _), Nat.sub_self]
  have : 32 - l.length = (32 - (l ++ [x]).length) + 1 := by simp; omega
  rw [this, List.replicate_succ]
  simp
theorem pad32_full {l : List UInt8} (h : l.length = 32) : pad32 l = l := by simp [pad32, h]
theorem pad32_step (l : List UInt8) (h : l.length < 32) (x : UInt8) : (bE (pad32 l)).take (0 + l.length * 1) ++ [eB x] ++ (bE (pad32 l)).drop (0 + l.length * 1 + 1) = bE (pad32 (l ++ [x])) := by
  rw [setB (pad32 l) (by rw [pad32_len (by omega)]; exact h), pad32_set h]
theorem st_Hat (H : H8) (l : List UInt8) (n m : Int) {i : Nat} (h : i < 8) : (stE H l n m).getD (0 + 0 + i * 1) E.dflt = eW (H.l.getD i 0) := by
  have h1 : (hE H).length = 8 := rfl
  have e : 0 + 0 + i * 1 = i := by omega
  have hl : i < H.l.length := h
  unfold stE
  rw [e, List.getD_eq_getElem?_getD, List.getElem?_append_left (by omega)]
  unfold hE
  simp [List.getD, hl]
theorem st_okH (H : H8) (l : List UInt8) (hl : l.length = 64) (n m : Int) {i : Nat} (h : i < 8) : 0 + 0 + i * 1 < (Cs.es (stE H l n m)).len ∧ D0.isA (.int .u32) ((Cs.es (stE H l n m)).at (0 + 0 + i * 1)) := by
  refine ⟨?_, ?_⟩
  · show 0 + 0 + i * 1 < (stE H l n m).length
    rw [st_len H l hl]
    omega
  · show E.as _ ((stE H l n m).getD (0 + 0 + i * 1) E.dflt) = (stE H l n m).getD (0 + 0 + i * 1) E.dflt
    rw [st_Hat H l n m h]
    rfl
def z32 : List UInt8 := List.replicate 32 0
set_option maxRecDepth 10000 in
set_option maxHeartbeats 400000 in
theorem end_fn (s : Sm) (hs : s.held.length < 64) (h1 : 0 ≤ s.len) (h2 : s.len ≤ 1152921504606846976) : FnG Tryd.prog 177 gK [.agg (.es (smE s))] (.agg (.es (bE (endF s)))) := by
  refine fn_introG (T := tab) tOk Tryd.func177 rfl (by kernel_rfl) (by simp [Tryd.ntmps177]) ?_
  intro X hX
  have hnt : X.nt = 49 := hX
  clear hX
  have hp := padB_len (Nat.le_of_lt hs)
  have hl : ((smE s).getD (0 + 73) E.dflt).int = s.len := by
    unfold smE
    rw [st_L _ _ hp]
    rfl
  have hs0 : putS s [] s.len = s := rfl
  repeat' (first | refine tr_seq ?_ | refine tr_block ?_ | refine tr_skip ?_)
  refine reg (T := tab) tOk hnt rfl ?_ ?_
  · (dsimp only [AllP]; (repeat' first | exact trivial | assumption | exact Nat.le_of_ble_eq_true rfl | apply And.intro | intro _ | exact rfl))
  repeat' (first | refine tr_seq ?_ | refine tr_block ?_ | refine tr_skip ?_)
  refine reg (T := tab) tOk hnt rfl ?_ ?_
  · exact ⟨trivial, rfl, trivial, st_okL _ _ hp _ _, trivial⟩
  rw [hl, u64_len s.len h1 h2]
  repeat' (first | refine tr_seq ?_ | refine tr_block ?_ | refine tr_skip ?_)
  refine tr_le (s' := St.of [(1, .one (.ptr 1 0 0)), (2, .one (.ptr 2 0 0)), (3, .v (.int .u64 ((8 * s.len.toNat : Nat) : Int))), ((1000000 + 4), .one (.eptr kE))] [(1, ⟨0, .box (.es (smE (putS s [] s.len))), 0⟩), (2, ⟨0, .box (.es (bE z32)), 0⟩)]) (le_of (ad := []) ⟨⟨rfl, rfl, rfl, rfl, rfl⟩, ⟨rfl, rfl, rfl, rfl, rfl⟩, rfl, rfl, trivial⟩ (memOk_boxE rfl rfl rfl (memOk_boxE rfl rfl (by kernel_rfl) trivial))) ?_
  clear hl
  refine tr_region (lex (T := tab) tOk hnt rfl ?_ (callV rfl rfl rfl rfl rfl rfl rfl hnt rfl (feed_call s [] s.len 128 hs h1 (by omega)) (lex (T := tab) tOk hnt rfl ?_ (Lex.nil _)))) ?_
  · refine ⟨⟨⟨rfl, trivial⟩, by decide, by decide⟩, smE_fit _ (put_held s [] _ hs)⟩
  · refine ⟨?_, smE_fit _ (put_held s [] _ hs), Nat.zero_le _⟩
    exact smE_len _ (put_held s _ _ hs)
  refine tr_le (s' := St.of [(1, .one (.ptr 1 0 0)), (2, .one (.ptr 2 0 0)), (3, .v (.int .u64 ((8 * s.len.toNat : Nat) : Int))), ((1000000 + 4), .one (.eptr kE))] [(1, ⟨0, .box (.es (smE (putS s [128] (s.len + 1)))), 0⟩), (2, ⟨0, .box (.es (bE z32)), 0⟩)]) (le_of (ad := []) ⟨⟨rfl, rfl, rfl, rfl, rfl⟩, ⟨rfl, rfl, rfl, rfl, rfl⟩, rfl, rfl, trivial⟩ (memOk_boxE rfl rfl (put_all2 _ _ 74 (smE_len _ (put_held s [] _ hs))) (memOk_box rfl rfl rfl trivial))) ?_
  repeat' (first | refine tr_seq ?_ | refine tr_block ?_ | refine tr_skip ?_)
  have hz := padZ_law (s.held.length + 1)
  refine tr_loop (σ := Nat) (fun k => St.of [(1, .one (.ptr 1 0 0)), (2, .one (.ptr 2 0 0)), (3, .v (.int .u64 ((8 * s.len.toNat : Nat) : Int))), ((1000000 + 4), .one (.eptr kE))] [(1, ⟨0, .box (.es (smE (putS s (128 :: List.replicate k 0) (s.len + 1 + k)))), 0⟩), (2, ⟨0, .box (.es (bE z32)), 0⟩)]) (fun k => k ≤ padZ (s.held.length + 1)) (fun k => padZ (s.held.length + 1) - k) 0 (le_of (ad := []) ⟨⟨rfl, rfl, rfl, rfl, rfl⟩, ⟨rfl, rfl, rfl, rfl, rfl⟩, rfl, rfl, trivial⟩ (memOk_boxE rfl rfl (congrArg (fun z => smE (putS s [128] z)) (Int.add_zero _).symm) (memOk_box rfl rfl rfl trivial))) (Nat.zero_le _) ?_
  intro k hk
  have hht := put_held s (128 :: List.replicate k 0) (s.len + 1 + k) hs
  have hhm : Hd ((putS s (128 :: List.replicate k 0) (s.len + 1 + k)).held.length = (s.held.length + 1 + k) % 64) := ⟨by
    rw [held_mod s _ _ hs, List.length_cons, List.length_replicate]
    congr 1
    omega⟩
  have hpt := padB_len (Nat.le_of_lt hht)
  have hn : ((smE (putS s (128 :: List.replicate k 0) (s.len + 1 + k))).getD (0 + 72) E.dflt).int = (((s.held.length + 1 + k) % 64 : Nat) : Int) := by
    unfold smE
    rw [st_N _ _ hpt, hhm.out]
    rfl
  repeat' (first | refine tr_seq ?_ | refine tr_block ?_ | refine tr_skip ?_)
  refine reg (T := tab) tOk hnt rfl ?_ ?_
  · exact ⟨rfl, st_okN _ _ hpt _ _, trivial⟩
  rw [hn]
  refine tr_cond rfl (fun hc => ?_) (fun hc => ?_)
  · have hc : ¬ (((s.held.length + 1 + k) % 64 : Nat) : Int) = 56 := by simpa using hc
    have hkz := padZ_more (s.held.length + 1) k (by omega) hk
    repeat' (first | refine tr_seq ?_ | refine tr_block ?_ | refine tr_skip ?_)
    refine tr_region (lex (T := tab) tOk hnt rfl ?_ (callV rfl rfl rfl rfl rfl rfl rfl hnt rfl (feed_call s (128 :: List.replicate k 0) (s.len + 1 + k) 0 hs (by omega) (by omega)) (lex (T := tab) tOk hnt rfl ?_ (Lex.nil _)))) ?_
    · refine ⟨⟨⟨rfl, trivial⟩, by decide, by decide⟩, smE_fit _ hht⟩
    · refine ⟨?_, smE_fit _ hht, Nat.zero_le _⟩
      exact smE_len _ (put_held s _ _ hs)
    refine ⟨k + 1, hkz, by omega, le_of (ad := []) ⟨⟨rfl, rfl, rfl, rfl, rfl⟩, ⟨rfl, rfl, rfl, rfl, rfl⟩, rfl, rfl, trivial⟩ (memOk_boxE rfl rfl ?_ (memOk_box rfl rfl rfl trivial))⟩
    refine (put_all2 _ _ 74 (smE_len _ hht)).trans ?_
    have e1 : (128 :: List.replicate k 0) ++ [(0 : UInt8)] = 128 :: List.replicate (k + 1) 0 := by
      rw [List.cons_append, ← List.replicate_succ']
    have e2 : s.len + 1 + (k : Int) + 1 = s.len + 1 + ((k + 1 : Nat) : Int) := by omega
    rw [e1, e2]
  have hc : (((s.held.length + 1 + k) % 64 : Nat) : Int) = 56 := by simpa using hc
  have hkz := padZ_only (s.held.length + 1) k (by omega) hk
  clear hn hc hhm hpt
  rw [hkz] at hht ⊢
  clear hkz hk
  refine tr_exit ?_
  repeat' (first | refine tr_seq ?_ | refine reg (T := tab) tOk hnt rfl ?_ ?_ | refine regD (T := tab) tOk mixedR hnt rfl (by decide +kernel) ?_ ?_ | refine tr_block ?_ | refine tr_skip ?_)
  · (dsimp only [AllP]; (repeat' first | exact trivial | assumption | exact Nat.le_of_ble_eq_true rfl | apply And.intro | intro _ | exact rfl))
  refine tr_loop (σ := Nat) (fun j => St.of [(1, .one (.ptr 1 0 0)), (2, .one (.ptr 2 0 0)), (3, .v (.int .u64 ((8 * s.len.toNat : Nat) : Int))), (4, .v (.int .i64 (56 - 8 * (j : Int)))), ((1000000 + 4), .one (.eptr kE))] [(1, ⟨0, .box (.es (smE (putS s (128 :: List.replicate (padZ (s.held.length + 1)) 0 ++ (bigF (8 * s.len.toNat) 8).take j) (s.len + 1 + padZ (s.held.length + 1) + j)))), 0⟩), (2, ⟨0, .box (.es (bE z32)), 0⟩)]) (fun j => j ≤ 8) (fun j => 8 - j) 0 (le_of (ad := []) ⟨⟨rfl, rfl, rfl, rfl, rfl⟩, ⟨rfl, rfl, rfl, rfl, rfl⟩, rfl, rfl, rfl, trivial⟩ (memOk_boxE rfl rfl (by rw [List.take_zero, List.append_nil]; exact congrArg (fun z => smE (putS s _ z)) (Int.add_zero _).symm) (memOk_box rfl rfl rfl trivial))) (Nat.zero_le _) ?_
  intro j hj
  have hht := put_held s (128 :: List.replicate (padZ (s.held.length + 1)) 0 ++ (bigF (8 * s.len.toNat) 8).take j) (s.len + 1 + padZ (s.held.length + 1) + j) hs
  repeat' (first | refine tr_seq ?_ | refine tr_block ?_ | refine tr_skip ?_)
  refine reg (T := tab) tOk hnt rfl (by (dsimp only [AllP]; (repeat' first | exact trivial | assumption | exact Nat.le_of_ble_eq_true rfl | apply And.intro | intro _ | exact rfl))) ?_
  refine tr_cond rfl (fun hc => ?_) (fun hc => ?_)
  · have hc := of_decide_eq_true hc
    have hj8 : j < 8 := by omega
    have hsh : Int.toNat (56 - 8 * (j : Int)) = 56 - 8 * j := by omega
    have hmin : min (56 - 8 * j) IntKind.u64.bits = 56 - 8 * j := Nat.min_eq_left (show 56 - 8 * j ≤ 64 by omega)
    have hfd : IntKind.u8.wrap (Int.fdiv ((8 * s.len.toNat : Nat) : Int) (2 ^ min (Int.toNat (56 - 8 * (j : Int))) IntKind.u64.bits)) = ((UInt8.ofNat (8 * s.len.toNat / 2 ^ (56 - 8 * j))).toNat : Int) := by
      rw [hsh, hmin, Int.fdiv_eq_ediv_of_nonneg _ (Int.le_of_lt (Int.pow_pos (by decide))), ← ofNatB, Int.natCast_ediv]
      norm_cast
    have hf : FnG Tryd.prog 178 gK [.agg (.es (List.take 74 (List.drop 0 (smE (putS s (128 :: List.replicate (padZ (s.held.length + 1)) 0 ++ (bigF (8 * s.len.toNat) 8).take j) (s.len + 1 + padZ (s.held.length + 1) + j)))))), .one (.e (.sl [[E.v (.int .u8 (IntKind.u8.wrap (Int.fdiv ((8 * s.len.toNat : Nat) : Int) (2 ^ min (Int.toNat (56 - 8 * (j : Int))) IntKind.u64.bits))))]]))] (.agg (.es (smE (putS s ((128 :: List.replicate (padZ (s.held.length + 1)) 0 ++ (bigF (8 * s.len.toNat) 8).take j) ++ [UInt8.ofNat (8 * s.len.toNat / 2 ^ (56 - 8 * j))]) (s.len + 1 + padZ (s.held.length + 1) + j + 1))))) := by
      rw [hfd]
      exact feed_call s _ _ _ hs (by omega) (by omega)
    rw [List.append_assoc, ← take_bigF _ hj8] at hf
    repeat' (first | refine tr_seq ?_ | refine tr_block ?_ | refine tr_skip ?_)
    refine tr_draw (T := tab) tOk hnt mixedR (lexD (T := tab) rfl ?_ (callVDU rfl rfl rfl rfl rfl rfl rfl rfl rfl rfl hf (lexD (T := tab) rfl ?_ (.nil _)))) (by decide +kernel) ?_
    · exact ⟨⟨⟨rfl, trivial⟩, by decide, by decide⟩, trivial, hc, trivial, trivial, smE_fit _ hht⟩
    · refine ⟨?_, smE_fit _ hht, Nat.zero_le _⟩
      exact smE_len _ (put_held s _ _ hs)
    repeat' (first | refine tr_seq ?_ | refine reg (T := tab) tOk hnt rfl ?_ ?_ | refine regD (T := tab) tOk mixedR hnt rfl (by decide +kernel) ?_ ?_ | refine tr_block ?_ | refine tr_skip ?_)
    · (dsimp only [AllP]; (repeat' first | exact trivial | assumption | exact Nat.le_of_ble_eq_true rfl | apply And.intro | intro _ | exact rfl))
    refine ⟨j + 1, hj8, by omega, le_of (ad := []) ⟨⟨rfl, rfl, rfl, rfl, rfl⟩, ⟨rfl, rfl, rfl, rfl, rfl⟩, rfl, ?_, rfl, trivial⟩ (memOk_boxE rfl rfl ?_ (memOk_box rfl rfl rfl trivial))⟩
    · refine congrArg (fun z : Int => E.v (.int .i64 z)) ?_
      rw [wrap64_id (by omega) (by omega)]
      omega
    refine (put_all2 _ _ 74 (smE_len _ hht)).trans ?_
    rw [show s.len + 1 + (padZ (s.held.length + 1) : Int) + (j : Int) + 1 = s.len + 1 + (padZ (s.held.length + 1) : Int) + ((j + 1 : Nat) : Int) by omega]
  have hc := of_decide_eq_false hc
  have hj : j = 8 := by omega
  subst hj
  have htail : 128 :: List.replicate (padZ (s.held.length + 1)) 0 ++ (bigF (8 * s.len.toNat) 8).take 8 = tailB s := by
    rw [List.take_of_length_le (by rw [bigF_len]; exact Nat.le_refl _)]
    rfl
  rw [htail] at hht ⊢
  clear htail hc hz
  refine tr_exit ?_
  have hend : endF s = outW (s.fold (tailB s)).H := rfl
  have ht : ∃ t : Sm, putS s (tailB s) (s.len + 1 + padZ (s.held.length + 1) + ((8 : Nat) : Int)) = t ∧ Hd ((s.fold (tailB s)).H = t.H) ∧ t.held.length < 64 := ⟨_, rfl, ⟨rfl⟩, hht⟩
  obtain ⟨t, e0, hH, htt⟩ := ht
  rw [e0, hend, hH.out]
  clear e0 hend hH hht
  have hpt := padB_len (Nat.le_of_lt htt)
  repeat' (first | refine tr_seq ?_ | refine tr_block ?_ | refine tr_skip ?_)
  refine reg (T := tab) tOk hnt rfl (by (dsimp only [AllP]; (repeat' first | exact trivial | assumption | exact Nat.le_of_ble_eq_true rfl | apply And.intro | intro _ | exact rfl))) ?_
  repeat' (first | refine tr_seq ?_ | refine reg (T := tab) tOk hnt rfl ?_ ?_ | refine regD (T := tab) tOk mixedR hnt rfl (by decide +kernel) ?_ ?_ | refine tr_block ?_ | refine tr_skip ?_)
  · (dsimp only [AllP]; (repeat' first | exact trivial | assumption | exact Nat.le_of_ble_eq_true rfl | apply And.intro | intro _ | exact rfl))
  refine tr_loop (σ := Nat) (fun i => St.of [(1, .one (.ptr 1 0 0)), (2, .one (.ptr 2 0 0)), (5, .one (.ptr 5 0 0)), (31, .v (.int .i64 i))] [(1, ⟨0, .box (.es (smE t)), 0⟩), (2, ⟨0, .box (.es (bE z32)), 0⟩), (5, ⟨0, .box (.es (bE (pad32 ((outW t.H).take i)))), 0⟩)]) (fun i => i ≤ 32) (fun i => 32 - i) 0 (le_of (ad := []) ⟨⟨rfl, rfl, rfl, rfl, rfl⟩, ⟨rfl, rfl, rfl, rfl, rfl⟩, ⟨rfl, rfl, rfl, rfl, rfl⟩, rfl, trivial⟩ (memOk_boxE rfl rfl rfl (memOk_box rfl rfl rfl (memOk_boxE rfl rfl (by kernel_rfl) trivial)))) (Nat.zero_le _) ?_
  intro i hi
  repeat' (first | refine tr_seq ?_ | refine tr_block ?_ | refine tr_skip ?_)
  refine reg (T := tab) tOk hnt rfl (by (dsimp only [AllP]; (repeat' first | exact trivial | assumption | exact Nat.le_of_ble_eq_true rfl | apply And.intro | intro _ | exact rfl))) ?_
  repeat' (first | refine tr_seq ?_ | refine tr_block ?_ | refine tr_skip ?_)
  refine tr_cond rfl (fun hc => ?_) (fun hc => ?_)
  · have hc := of_decide_eq_true hc
    have hi32 : i < 32 := by omega
    have hol : ((outW t.H).take i).length = i := by
      rw [List.length_take, outW_len]
      omega
    have hp32 := pad32_len (l := (outW t.H).take i) (by omega)
    have q1 : IntKind.i64.wrap (Int.tdiv (i : Int) 4) = ((i / 4 : Nat) : Int) := by
      rw [Int.tdiv_eq_ediv_of_nonneg (Int.natCast_nonneg _), wrap64_id (by omega) (by omega)]
      rfl
    have q2 : Int.tmod (i : Int) 4 = ((i % 4 : Nat) : Int) := by
      rw [Int.tmod_eq_emod_of_nonneg (Int.natCast_nonneg _)]
      rfl
    have q3 : IntKind.i64.wrap (8 * ((i % 4 : Nat) : Int)) = ((8 * (i % 4) : Nat) : Int) := by rw [wrap64_id (by omega) (by omega)]; omega
    have q4 : IntKind.i64.wrap (24 - ((8 * (i % 4) : Nat) : Int)) = ((24 - 8 * (i % 4) : Nat) : Int) := by rw [wrap64_id (by omega) (by omega)]; omega
    repeat' (first | refine tr_seq ?_ | refine tr_block ?_ | refine tr_skip ?_)
    refine reg (T := tab) tOk hnt rfl (by (dsimp only [AllP]; (repeat' first | exact trivial | assumption | exact Nat.le_of_ble_eq_true rfl | apply And.intro | intro _ | exact rfl))) ?_
    repeat' (first | refine tr_seq ?_ | refine tr_block ?_ | refine tr_skip ?_)
    refine reg (T := tab) tOk hnt rfl ?_ ?_
    · dsimp only [AllP]
      rw [q1, q2, q3, q4, Int.toNat_natCast, Int.toNat_natCast, Int.toNat_natCast]
      exact ⟨⟨rfl, putB _ (by omega), Nat.zero_le _⟩, ⟨Int.natCast_nonneg _, by omega⟩, trivial, Int.natCast_nonneg _, rfl, rfl, ⟨rfl, by decide⟩, trivial, st_okH t.H _ hpt _ _ (by omega), ⟨Int.natCast_nonneg _, by omega⟩, trivial, ⟨rfl, by decide⟩, trivial, trivial⟩
    rw [q1, q2, q3, q4, Int.toNat_natCast, Int.toNat_natCast, Int.toNat_natCast]
    repeat' (first | refine tr_seq ?_ | refine reg (T := tab) tOk hnt rfl ?_ ?_ | refine regD (T := tab) tOk mixedR hnt rfl (by decide +kernel) ?_ ?_ | refine tr_block ?_ | refine tr_skip ?_)
    · (dsimp only [AllP]; (repeat' first | exact trivial | assumption | exact Nat.le_of_ble_eq_true rfl | apply And.intro | intro _ | exact rfl))
    refine ⟨i + 1, hi32, by omega, le_of (ad := []) ⟨⟨rfl, rfl, rfl, rfl, rfl⟩, ⟨rfl, rfl, rfl, rfl, rfl⟩, ⟨rfl, rfl, rfl, rfl, rfl⟩, congrArg (fun z : Int => E.v (.int .i64 z)) (wrap64_id (by omega) (by omega)), trivial⟩ (memOk_box rfl rfl rfl (memOk_box rfl rfl rfl (memOk_boxE rfl rfl ?_ trivial)))⟩
    have e := pad32_step ((outW t.H).take i) (by omega) ((outW t.H).getD i 0)
    rw [hol, ← take_snocB _ _ (by rw [outW_len]; exact hi32)] at e
    refine Eq.trans ?_ e
    refine congrArg (fun z : Int => List.take (0 + i * 1) (bE (pad32 ((outW t.H).take i))) ++ [E.v (.int .u8 z)] ++ List.drop (0 + i * 1 + 1) (bE (pad32 ((outW t.H).take i)))) ?_
    have hmin : min (24 - 8 * (i % 4)) IntKind.u32.bits = 24 - 8 * (i % 4) := Nat.min_eq_left (show 24 - 8 * (i % 4) ≤ 32 by omega)
    unfold smE
    rw [st_Hat t.H _ _ _ (by omega), hmin, outW_get _ hi32, ← ofNatB]
    exact congrArg IntKind.u8.wrap (w_shr _ _)
  have hc := of_decide_eq_false hc
  have hi : i = 32 := by omega
  subst hi
  have hol := outW_len t.H
  rw [List.take_of_length_le (Nat.le_of_eq hol), pad32_full hol]
  have hb32 : (bE (outW t.H)).length = 32 := by simp [bE, hol]
  have hz32 : (bE z32).length = 32 := rfl
  clear hc
  generalize outW t.H = o at hol hb32 ⊢
  refine tr_exit ?_
  repeat' (first | refine tr_seq ?_ | refine tr_block ?_ | refine tr_skip ?_)
  refine reg (T := tab) tOk hnt rfl ?_ ?_
  · refine ⟨⟨?_, Nat.le_of_ble_eq_true rfl, Nat.zero_le _⟩, ?_⟩
    · show (List.take 32 (List.drop 0 (bE o))).length = 32
      rw [all_of _ _ hb32, hb32]
    · show 0 + 32 ≤ (bE o).length
      omega
  refine tr_le (s' := St.of [(2, .one (.ptr 2 0 0))] [(2, ⟨0, .box (.es (bE o)), 0⟩)]) (le_of (ad := []) ⟨⟨rfl, rfl, rfl, rfl, rfl⟩, trivial⟩ (memOk_boxE rfl rfl (put_all _ _ 32 hb32 hz32) trivial)) ?_
  refine tr_ret ⟨.inr rfl, _, _, rfl, ⟨?_, trivial⟩, ?_⟩
  · show 0 + 32 ≤ (bE o).length
    omega
  exact congrArg (fun l => D.agg (.es l)) (all_of _ 32 hb32)
end Go.Proofs.YtphaholcndhonaaDoor
