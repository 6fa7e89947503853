/- HMAC: the padded key. No condition. -/
import Derived.Test.YtmicapdbgjafnabDoorTSh13
import Derived.Test.YtmicapdbgjafnabDoorAb27
namespace Go.Proofs.YtmicapdbgjafnabDoor
open Go Go.RowKit Go.Proofs.YtmicapdbgjafnabDoor.Ab

def xorP (c : UInt8) (k : List UInt8) : List UInt8 := k.map (· ^^^ c)
theorem wrapB8 (x : UInt8) : IntKind.u8.wrap (x.toNat : Int) = (x.toNat : Int) := by
  have := x.toNat_lt
  unfold IntKind.wrap
  simp [IntKind.bits, IntKind.signed]
  omega
def xorTo (c : UInt8) (k : List UInt8) (i : Nat) : List UInt8 := xorP c (k.take i) ++ k.drop i
theorem xorTo_len (c : UInt8) (k : List UInt8) (i : Nat) : (xorTo c k i).length = k.length := by
  simp [xorTo, xorP]
  omega
theorem xorTo_get (c : UInt8) (k : List UInt8) {i : Nat} (h : i < k.length) : (xorTo c k i).getD i 0 = k.getD i 0 := by
  unfold xorTo xorP
  rw [List.getD_eq_getElem?_getD, List.getElem?_append_right (by simp; omega)]
  simp [List.getElem?_drop, Nat.min_eq_left (Nat.le_of_lt h)]
theorem xorTo_set (c : UInt8) (k : List UInt8) {i : Nat} (h : i < k.length) : (xorTo c k i).set i (k.getD i 0 ^^^ c) = xorTo c k (i + 1) := by
  unfold xorTo xorP
  have e : k.getD i 0 = k[i] := by simp [List.getD, h]
  rw [List.set_append_right _ _ (by simp; omega), show i - (List.map (fun x => x ^^^ c) (List.take i k)).length = 0 by simp [Nat.min_eq_left (Nat.le_of_lt h)], List.drop_eq_getElem_cons h, List.set_cons_zero, List.take_succ_eq_append_getElem h, e, List.map_append, List.append_assoc]
  rfl
theorem xorTo_all (c : UInt8) (k : List UInt8) : xorTo c k k.length = xorP c k := by
  unfold xorTo
  rw [List.take_length, List.drop_length, List.append_nil]
theorem eC_set (l : List UInt8) (i : Nat) (h : i < l.length) (b : UInt8) : setEl (eCells l) i 0 1 [eB b] = eCells (l.set i b) := by
  rw [setEl, eCells_getD l h]
  simp [eCells, List.map_set]
theorem u8_xor (a c : UInt8) : IntKind.u8.wrap ((BitVec.ofInt IntKind.u8.bits (a.toNat : Int) ^^^ BitVec.ofInt IntKind.u8.bits (c.toNat : Int)).toNat : Int) = ((a ^^^ c).toNat : Int) := by
  have e : ∀ x : UInt8, BitVec.ofInt IntKind.u8.bits (x.toNat : Int) = x.toBitVec := fun x => by
    apply BitVec.eq_of_toNat_eq
    rw [BitVec.toNat_ofInt]
    have := x.toNat_lt
    show ((x.toNat : Int) % ((2 ^ 8 : Nat) : Int)).toNat = x.toNat
    omega
  rw [e, e]
  exact wrapB8 (a ^^^ c)
set_option maxRecDepth 10000 in
theorem pad_fn (c : UInt8) (k : List UInt8) (hk : k.length ≤ 1000000) : FnD Tryd.prog 64 [.v (.int .u8 (c.toNat : Int)), .one (.eptr [.v (.string (strB k))])] (.v (.string (strB (xorP c k)))) := by
  refine fn_intro (T := tab) tOk Tryd.func64 rfl (by kernel_rfl) (by simp [Tryd.ntmps64]) ?_
  intro X hX
  have hnt : X.nt = 23 := hX
  clear hX
  have hz : (strB k).size ≤ maxLen := by
    rw [strB_size, maxLen]
    omega
  repeat' (first | refine tr_seq ?_ | refine reg (T := tab) tOk hnt rfl ?_ ?_ | refine regD (T := tab) tOk mixedR hnt rfl (by decide +kernel) ?_ ?_ | refine tr_block ?_ | refine tr_skip ?_)
  · (dsimp only [AllP]; (repeat' first | exact trivial | assumption | exact Nat.le_of_ble_eq_true rfl | apply And.intro | intro _ | exact rfl))
  · (dsimp only [AllP]; (repeat' first | exact trivial | assumption | exact Nat.le_of_ble_eq_true rfl | apply And.intro | intro _ | exact rfl))
  · (dsimp only [AllP]; (repeat' first | exact trivial | assumption | exact Nat.le_of_ble_eq_true rfl | apply And.intro | intro _ | exact rfl))
  have hs : strBytes ([E.v (Value.string (strB k))].getD 0 E.dflt).str = eCells k := strBytes_B k
  rw [hs]
  refine tr_loop (σ := Nat) (fun i => St.of [(0, .v (.int .u8 (c.toNat : Int))), (4, .one (.own 7 0)), (9, .v (.int .i64 k.length)), (10, .v (.int .i64 i))] [(7, ⟨0, .row 1 (eCells (xorTo c k i)), 0⟩)]) (fun i => i ≤ k.length) (fun i => k.length - i) 0 (le_of (ad := []) ⟨rfl, ⟨rfl, rfl, rfl, rfl⟩, congrArg (fun z : Nat => E.v (.int .i64 (z : Int))) (eCells_length k), rfl, trivial⟩ (memOk_row rfl rfl rfl trivial)) (Nat.zero_le _) ?_
  intro i hi
  repeat' (first | refine tr_seq ?_ | refine tr_block ?_ | refine tr_skip ?_)
  refine reg (T := tab) tOk hnt rfl (by (dsimp only [AllP]; (repeat' first | exact trivial | assumption | exact Nat.le_of_ble_eq_true rfl | apply And.intro | intro _ | exact rfl))) ?_
  repeat' (first | refine tr_seq ?_ | refine tr_block ?_ | refine tr_skip ?_)
  refine tr_cond rfl (fun hc => ?_) (fun hc => ?_)
  · have hc := of_decide_eq_true hc
    have hil : i < k.length := by omega
    have hxl : i < (xorTo c k i).length := by rw [xorTo_len]; exact hil
    repeat' (first | refine tr_seq ?_ | refine tr_block ?_ | refine tr_skip ?_)
    refine reg (T := tab) tOk hnt rfl (by (dsimp only [AllP]; (repeat' first | exact trivial | assumption | exact Nat.le_of_ble_eq_true rfl | apply And.intro | intro _ | exact rfl))) ?_
    repeat' (first | refine tr_seq ?_ | refine tr_block ?_ | refine tr_skip ?_)
    refine reg (T := tab) tOk hnt rfl ?_ ?_
    · dsimp only [AllP]
      rw [Int.toNat_natCast]
      have hL : (i : Int) < ((eCells (xorTo c k i)).length : Int) := by rw [eCells_length]; omega
      exact ⟨⟨rfl, Nat.le_refl _, by rw [eCells_length]; exact hxl, Nat.zero_le _⟩, ⟨Int.natCast_nonneg _, hL⟩, rfl, trivial, ⟨rdC _ i hxl, rdA _ i hxl⟩, ⟨Int.natCast_nonneg _, hL⟩, trivial, trivial⟩
    have hset : setEl (eCells (xorTo c k i)) ((i : Int).toNat) 0 1 [E.v (.int .u8 (IntKind.u8.wrap ((BitVec.ofInt IntKind.u8.bits (((eCells (xorTo c k i)).getD (i : Int).toNat []).getD 0 E.dflt).int ^^^ BitVec.ofInt IntKind.u8.bits (c.toNat : Int)).toNat : Int)))] = eCells (xorTo c k (i + 1)) := by
      rw [Int.toNat_natCast, rdB _ i hxl, u8_xor, xorTo_get c k hil]
      exact (eC_set _ i hxl _).trans (by rw [xorTo_set c k hil])
    refine tr_le (s' := St.of [(0, .v (.int .u8 (c.toNat : Int))), (4, .one (.own 7 0)), (9, .v (.int .i64 k.length)), (10, .v (.int .i64 i))] [(7, ⟨0, .row 1 (eCells (xorTo c k (i + 1))), 0⟩)]) (le_of (ad := []) ⟨rfl, ⟨rfl, rfl, rfl, rfl⟩, rfl, rfl, trivial⟩ (memOk_row rfl rfl hset trivial)) ?_
    repeat' (first | refine tr_seq ?_ | refine tr_block ?_ | refine tr_skip ?_)
    refine reg (T := tab) tOk hnt rfl (by (dsimp only [AllP]; (repeat' first | exact trivial | assumption | exact Nat.le_of_ble_eq_true rfl | apply And.intro | intro _ | exact rfl))) ?_
    exact ⟨i + 1, hil, by omega, le_of (ad := []) ⟨rfl, ⟨rfl, rfl, rfl, rfl⟩, rfl, congrArg (fun z : Int => E.v (.int .i64 z)) (wrap64_id (by omega) (by omega)), trivial⟩ (memOk_row rfl rfl rfl trivial)⟩
  have hc := of_decide_eq_false hc
  have hik : i = k.length := by omega
  subst hik
  rw [xorTo_all]
  refine tr_exit ?_
  repeat' (first | refine tr_seq ?_ | refine reg (T := tab) tOk hnt rfl ?_ ?_ | refine regD (T := tab) tOk mixedR hnt rfl (by decide +kernel) ?_ ?_ | refine tr_block ?_ | refine tr_skip ?_)
  · exact ⟨trivial, eCells_isByte _, trivial⟩
  refine tr_ret ⟨.inr rfl, _, _, rfl, trivial, ?_⟩
  exact congrArg (fun z => D.v (.string z)) (strB_of _)
def keyF (key : List UInt8) : List UInt8 := if 64 < key.length then sumF key else key
def padK (key : List UInt8) (n : Nat) : List UInt8 := keyF key ++ List.replicate n 0
def macF (key b : List UInt8) : List UInt8 := sumF (xorP 0x5c (padK key (64 - (keyF key).length)) ++ sumF (xorP 0x36 (padK key (64 - (keyF key).length)) ++ b))
theorem sum_len (b : List UInt8) : (sumF b).length = 32 := by simp [sumF, endF, outW_len]
theorem keyF_len (key : List UInt8) : (keyF key).length ≤ 64 := by
  unfold keyF
  split
  · rw [sum_len]
    decide
  · omega
theorem padK_len (key : List UInt8) (n : Nat) : (padK key n).length = (keyF key).length + n := by simp [padK]
theorem padK_succ (key : List UInt8) (n : Nat) : padK key n ++ [0] = padK key (n + 1) := by
  unfold padK
  rw [List.append_assoc, ← List.replicate_succ']
theorem xorP_len (c : UInt8) (k : List UInt8) : (xorP c k).length = k.length := by simp [xorP]
theorem ch32s (l : List UInt8) (h : l.length = 32) : chunksE 1 32 (bE l) = eCells l := by
  apply List.ext_getElem
  · rw [chunksE_len, eCells_length, h]
  · intro i a b
    rw [chunksE_len] at a
    have hi : i < l.length := by omega
    have := (chunksE_get (List.getElem?_eq_getElem (l := chunksE 1 32 (bE l)) (i := i) (by rw [chunksE_len]; exact a))).2
    rw [this, Nat.mul_one]
    simp [bE, eCells, List.take_one, hi]
set_option maxRecDepth 10000 in
theorem Maced_fn (key b : List UInt8) (h1 : key.length ≤ 1000000000) (h2 : b.length ≤ 1000000000) : FnD Tryd.prog 36 [.one (.e (eBytes key)), .one (.e (eBytes b))] (.agg (.es (bE (macF key b)))) := by
  refine fn_intro (T := tab) tOk Tryd.func36 rfl (by kernel_rfl) (by simp [Tryd.ntmps36]) ?_
  intro X hX
  have hnt : X.nt = 38 := hX
  clear hX
  repeat' (first | refine tr_seq ?_ | refine tr_block ?_ | refine tr_skip ?_)
  refine reg (T := tab) tOk hnt rfl (by (dsimp only [AllP]; (repeat' first | exact trivial | apply And.intro | exact Nat.le_of_ble_eq_true (by kernel_rfl) | decide | kernel_rfl | exact rfl))) ?_
  repeat' (first | refine tr_seq ?_ | refine tr_block ?_ | refine tr_skip ?_)
  refine reg (T := tab) tOk hnt rfl ?_ ?_
  · exact ⟨⟨rfl, Nat.le_refl _, Nat.le_refl _⟩, trivial, eCells_isByte key, trivial⟩
  rw [strB_of]
  repeat' (first | refine tr_seq ?_ | refine tr_block ?_ | refine tr_skip ?_)
  refine reg (T := tab) tOk hnt rfl ?_ ?_
  · exact ⟨rfl, trivial, Nat.le_of_ble_eq_true rfl, rfl⟩
  refine tr_join (σ := Unit) (fun _ => St.of [(1, .one (.e (eBytes b))), (4, .one (.ptr 4 0 0)), (5, .one (.ptr 5 0 0))] [(4, ⟨0, .box (.es (bE z32)), 0⟩), (5, ⟨0, .box (.es [.v (.string (strB (keyF key)))]), 0⟩)]) (fun _ => True) ?_ ?_
  · refine tr_cond rfl (fun hc => ?_) (fun hc => ?_)
    · have hc : (64 : Int) < ((strB key).size : Int) := of_decide_eq_true hc
      rw [strB_size] at hc
      have hkf : keyF key = sumF key := by rw [keyF, if_pos (by omega)]
      have hs := Summed_fn key (Nat.le_trans h1 (by decide))
      have ho := sum_len key
      rw [hkf]
      generalize sumF key = o at hs ho ⊢
      have hr : (bE o).length = 32 := by simp [bE, ho]
      repeat' (first | refine tr_seq ?_ | refine tr_block ?_ | refine tr_skip ?_)
      refine tr_region (lex (T := tab) tOk hnt rfl ?_ (call rfl rfl rfl rfl rfl rfl rfl hnt hs (lex (T := tab) tOk hnt rfl ?_ (Lex.nil _)))) ?_
      · exact trivial
      · exact ⟨⟨hr, Nat.le_of_ble_eq_true (by kernel_rfl), Nat.zero_le _⟩, trivial⟩
      refine tr_le (s' := St.of [(1, .one (.e (eBytes b))), (4, .one (.ptr 4 0 0)), (5, .one (.ptr 5 0 0)), (6, .one (.ptr 6 0 0))] [(4, ⟨0, .box (.es (bE z32)), 0⟩), (5, ⟨0, .box (.es [.v (.string (strB key))]), 0⟩), (6, ⟨0, .box (.es (bE o)), 0⟩)]) (le_of (ad := []) ⟨rfl, ⟨rfl, rfl, rfl, rfl, rfl⟩, ⟨rfl, rfl, rfl, rfl, rfl⟩, ⟨rfl, rfl, rfl, rfl, rfl⟩, trivial⟩ (memOk_boxE rfl rfl (by kernel_rfl) (memOk_boxE rfl rfl (by kernel_rfl) (memOk_boxE rfl rfl (Eq.trans (b := List.take 0 (bE z32) ++ bE o ++ List.drop (0 + 32) (bE z32)) (by kernel_rfl) (put_all2 _ _ 32 rfl)) trivial)))) ?_
      have hch : chunksE 1 (((32 : Nat) : Int) - 0).toNat (List.drop (0 + Int.toNat 0 * 1) (bE o)) = eCells o := ch32s o ho
      repeat' (first | refine tr_seq ?_ | refine tr_block ?_ | refine tr_skip ?_)
      first | refine reg (T := tab) tOk hnt rfl ?_ ?_ | refine regD (T := tab) tOk mixedR hnt rfl (by decide +kernel) ?_ ?_
      · refine ⟨⟨rfl, Nat.le_refl _, Nat.le_refl _⟩, ?_, by decide, by decide, by decide, by decide, Nat.le_of_eq hr.symm, by decide, by decide⟩
        intro c hc
        exact eCells_isByte o c (hch ▸ hc)
      refine ⟨(), trivial, le_of (ad := []) ⟨rfl, ⟨rfl, rfl, rfl, rfl, rfl⟩, ⟨rfl, rfl, rfl, rfl, rfl⟩, trivial⟩ (memOk_box rfl rfl rfl (memOk_boxE rfl rfl ?_ trivial))⟩
      refine congrArg (fun z => [E.v (.string z)]) ?_
      exact (congrArg bytesOf hch).trans (strB_of o)
    · have hc : ¬ (64 : Int) < ((strB key).size : Int) := of_decide_eq_false hc
      rw [strB_size] at hc
      have hkf : keyF key = key := by rw [keyF, if_neg (by omega)]
      rw [hkf]
      refine tr_skip ⟨(), trivial, le_of (ad := []) ⟨rfl, ⟨rfl, rfl, rfl, rfl, rfl⟩, ⟨rfl, rfl, rfl, rfl, rfl⟩, trivial⟩ (memOk_boxE rfl rfl (by kernel_rfl) (memOk_boxE rfl rfl (by kernel_rfl) trivial))⟩
  intro _ _
  have hkl := keyF_len key
  repeat' (first | refine tr_seq ?_ | refine tr_block ?_ | refine tr_skip ?_)
  refine tr_loop (σ := Nat) (fun n => St.of [(1, .one (.e (eBytes b))), (4, .one (.ptr 4 0 0)), (5, .one (.ptr 5 0 0))] [(4, ⟨0, .box (.es (bE z32)), 0⟩), (5, ⟨0, .box (.es [.v (.string (strB (padK key n)))]), 0⟩)]) (fun n => n ≤ 64 - (keyF key).length) (fun n => 64 - (keyF key).length - n) 0 (le_of (ad := []) ⟨rfl, ⟨rfl, rfl, rfl, rfl, rfl⟩, ⟨rfl, rfl, rfl, rfl, rfl⟩, trivial⟩ (memOk_box rfl rfl rfl (memOk_boxE rfl rfl ?_ trivial))) (Nat.zero_le _) ?_
  · unfold padK
    rw [List.replicate_zero, List.append_nil]
  intro n hn
  have hpl := padK_len key n
  have hsz : (strB (padK key n)).size = (keyF key).length + n := by rw [strB_size, hpl]
  repeat' (first | refine tr_seq ?_ | refine tr_block ?_ | refine tr_skip ?_)
  refine reg (T := tab) tOk hnt rfl ?_ ?_
  · exact ⟨rfl, trivial, Nat.le_of_ble_eq_true rfl, rfl⟩
  repeat' (first | refine tr_seq ?_ | refine tr_block ?_ | refine tr_skip ?_)
  refine tr_cond rfl (fun hc => ?_) (fun hc => ?_)
  · have hc : ((strB (padK key n)).size : Int) < 64 := of_decide_eq_true hc
    repeat' (first | refine tr_seq ?_ | refine tr_block ?_ | refine tr_skip ?_)
    refine reg (T := tab) tOk hnt rfl ?_ ?_
    · refine ⟨⟨rfl, Nat.le_refl _, Nat.le_refl _⟩, ?_, Nat.le_of_ble_eq_true rfl, rfl⟩
      show (strB (padK key n)).size + 1 ≤ maxLen
      rw [hsz, maxLen]
      omega
    refine ⟨n + 1, by omega, by omega, le_of (ad := []) ⟨rfl, ⟨rfl, rfl, rfl, rfl, rfl⟩, ⟨rfl, rfl, rfl, rfl, rfl⟩, trivial⟩ (memOk_box rfl rfl rfl (memOk_boxE rfl rfl ?_ trivial))⟩
    refine congrArg (fun z => [E.v (.string z)]) ?_
    exact (strB_app (padK key n) [0]).trans (by rw [padK_succ])
  have hc : ¬ ((strB (padK key n)).size : Int) < 64 := of_decide_eq_false hc
  have hn' : n = 64 - (keyF key).length := by omega
  subst hn'
  clear hn hc hsz
  have hK : (padK key (64 - (keyF key).length)).length = 64 := by omega
  unfold macF
  generalize padK key (64 - (keyF key).length) = K at hK ⊢
  refine tr_exit ?_
  have hp1 : FnD Tryd.prog 64 [.v (.int .u8 54), .one (.eptr [.v (.string (strB K))])] (.v (.string (strB (xorP 0x36 K)))) := pad_fn 0x36 K (by omega)
  have hp2 : FnD Tryd.prog 64 [.v (.int .u8 92), .one (.eptr [.v (.string (strB K))])] (.v (.string (strB (xorP 0x5c K)))) := pad_fn 0x5c K (by omega)
  have hl1 := xorP_len 0x36 K
  have hl2 := xorP_len 0x5c K
  generalize xorP 0x36 K = I1 at *
  generalize xorP 0x5c K = I2 at *
  have hs1 : FnD Tryd.prog 40 [.one (.e (.sl (strBytes (strB I1 ++ bytesOf (eCells b)))))] (.agg (.es (bE (sumF (I1 ++ b))))) := by
    rw [strB_of, strB_app, strBytes_B]
    exact Summed_fn (I1 ++ b) (by rw [List.length_append]; omega)
  have ho1 := sum_len (I1 ++ b)
  generalize sumF (I1 ++ b) = o at *
  have hr : (bE o).length = 32 := by simp [bE, ho1]
  have hch : chunksE 1 (((32 : Nat) : Int) - 0).toNat (List.drop (0 + Int.toNat 0 * 1) (bE o)) = eCells o := ch32s o ho1
  have hs2 : FnD Tryd.prog 40 [.one (.e (.sl (strBytes (strB I2 ++ bytesOf (chunksE 1 (((32 : Nat) : Int) - 0).toNat (List.drop (0 + Int.toNat 0 * 1) (bE o)))))))] (.agg (.es (bE (sumF (I2 ++ o))))) := by
    rw [hch, strB_of, strB_app, strBytes_B]
    exact Summed_fn (I2 ++ o) (by rw [List.length_append]; omega)
  have ho2 := sum_len (I2 ++ o)
  generalize sumF (I2 ++ o) = q at *
  have hr2 : (bE q).length = 32 := by simp [bE, ho2]
  repeat' (first | refine tr_seq ?_ | refine tr_block ?_ | refine tr_skip ?_)
  refine reg (T := tab) tOk hnt rfl ?_ ?_
  · (dsimp only [AllP]; (repeat' first | exact trivial | assumption | exact Nat.le_of_ble_eq_true rfl | apply And.intro | intro _ | exact rfl))
  repeat' (first | refine tr_seq ?_ | refine tr_block ?_ | refine tr_skip ?_)
  refine tr_draw (T := tab) tOk hnt mixedR (lexD (T := tab) rfl ?_ (callCD rfl rfl rfl rfl rfl rfl rfl rfl rfl hp1 (lexD (T := tab) rfl ?_ (callDU rfl rfl rfl rfl rfl rfl rfl rfl rfl hs1 (lexD (T := tab) rfl ?_ (.nil _)))))) (by decide +kernel) ?_
  · trivial
  · have e1 : (strB I1).size + (bytesOf (eCells b)).size ≤ maxLen := by
      rw [strB_of, strB_size, strB_size, maxLen]
      omega
    have e2 : (strB I1 ++ bytesOf (eCells b)).size ≤ maxLen := by
      rw [strB_of, strB_app, strB_size, List.length_append, maxLen]
      omega
    exact ⟨e2, e1, eCells_isByte b, trivial⟩
  · exact ⟨⟨hr, Nat.le_of_ble_eq_true (by kernel_rfl), Nat.zero_le _⟩, trivial⟩
  have hput : List.take 0 (bE z32) ++ bE o ++ List.drop (0 + 32) (bE z32) = bE o := put_all2 _ _ 32 rfl
  have hs3 : FnD Tryd.prog 40 [.one (.e (.sl (strBytes (strB I2 ++ bytesOf (chunksE 1 (((32 : Nat) : Int) - 0).toNat (List.drop (0 + Int.toNat 0 * 1) (List.take 0 (bE z32) ++ bE o ++ List.drop (0 + 32) (bE z32))))))))] (.agg (.es (bE q))) := by
    rw [hput]
    exact hs2
  have hch3 : chunksE 1 (((32 : Nat) : Int) - 0).toNat (List.drop (0 + Int.toNat 0 * 1) (List.take 0 (bE z32) ++ bE o ++ List.drop (0 + 32) (bE z32))) = eCells o := by
    rw [hput]
    exact hch
  have hrp : (List.take 0 (bE z32) ++ bE o ++ List.drop (0 + 32) (bE z32)).length = 32 := by
    rw [hput]
    exact hr
  repeat' (first | refine tr_seq ?_ | refine tr_block ?_ | refine tr_skip ?_)
  refine tr_draw (T := tab) tOk hnt mixedR (lexD (T := tab) rfl ?_ (callCD rfl rfl rfl rfl rfl rfl rfl rfl rfl hp2 (lexD (T := tab) rfl ?_ (callDU rfl rfl rfl rfl rfl rfl rfl rfl rfl hs3 (lexD (T := tab) rfl ?_ (.nil _)))))) (by decide +kernel) ?_
  · trivial
  · have e1 : (strB I2 ++ bytesOf (chunksE 1 (((32 : Nat) : Int) - 0).toNat (List.drop (0 + Int.toNat 0 * 1) (List.take 0 (bE z32) ++ bE o ++ List.drop (0 + 32) (bE z32))))).size ≤ maxLen := by
      rw [hch3, strB_of, strB_app, strB_size, List.length_append, maxLen]
      omega
    have e2 : (strB I2).size + (bytesOf (chunksE 1 (((32 : Nat) : Int) - 0).toNat (List.drop (0 + Int.toNat 0 * 1) (List.take 0 (bE z32) ++ bE o ++ List.drop (0 + 32) (bE z32))))).size ≤ maxLen := by
      rw [hch3, strB_of, strB_size, strB_size, maxLen]
      omega
    have e3 : ∀ c ∈ chunksE 1 (((32 : Nat) : Int) - 0).toNat (List.drop (0 + Int.toNat 0 * 1) (List.take 0 (bE z32) ++ bE o ++ List.drop (0 + 32) (bE z32))), isByte c := by
      rw [hch3]
      exact eCells_isByte o
    refine ⟨e1, e2, e3, by decide, by decide, by decide, by decide, Nat.le_of_eq hrp.symm, by decide, by decide⟩
  · exact ⟨hr2, Nat.le_of_ble_eq_true (by kernel_rfl), Nat.zero_le _⟩
  refine tr_le (s' := St.of [(4, .one (.ptr 4 0 0))] [(4, ⟨0, .box (.es (bE q)), 0⟩)]) (le_of (ad := []) ⟨⟨rfl, rfl, rfl, rfl, rfl⟩, trivial⟩ (memOk_boxE rfl rfl (Eq.trans (b := List.take 0 (bE z32) ++ bE q ++ List.drop (0 + 32) (bE z32)) (by kernel_rfl) (put_all2 _ _ 32 rfl)) trivial)) ?_
  refine tr_ret ⟨.inr rfl, _, _, rfl, ⟨Nat.le_of_eq hr2.symm, trivial⟩, ?_⟩
  exact congrArg (fun l => D.agg (.es l)) (all_of _ 32 hr2)
end Go.Proofs.YtmicapdbgjafnabDoor
namespace Go.Proofs.YtmicapdbgjafnabDoor
open Go Go.RowKit Go.Proofs.YtmicapdbgjafnabDoor.Ab

theorem fold_as (s : Sm) (m : Int) (l : List UInt8) : (⟨s.H, s.held, m⟩ : Sm).fold l = ⟨(s.fold l).H, (s.fold l).held, m⟩ := by
  induction l generalizing s with
  | nil => rfl
  | cons c l ih =>
    rw [Sm.fold, Sm.fold]
    have h : (⟨s.H, s.held, m⟩ : Sm).one c = ⟨(s.one c).H, (s.one c).held, m⟩ := by
      unfold Sm.one
      dsimp only
      split <;> rfl
    rw [h]
    exact ih (s.one c)
theorem feed_app (s : Sm) (a b : List UInt8) : feedF (feedF s a) b = feedF s (a ++ b) := by
  unfold feedF
  rw [fold_append, fold_as s (s.len + (a ++ b).length) a, fold_as s (s.len + a.length) a, List.length_append]
  dsimp only
  rw [Int.natCast_add, Int.add_assoc]
theorem copyK (l : List UInt8) (h : l.length ≤ 64) : List.take 0 (bE zB) ++ (List.take (min 64 (eCells l).length) (eCells l)).flatten ++ List.drop (0 + min 64 (eCells l).length * 1) (bE zB) = bE (l ++ List.replicate (64 - l.length) 0) := by
  have hf : (eCells l).flatten = bE l := by
    unfold eCells bE
    induction l with
    | nil => rfl
    | cons a l ih => simp [ih (by simp at h; omega)]
  have hz : bE zB = List.replicate 64 (eB 0) := rfl
  rw [eCells_length, Nat.min_eq_right h, List.take_of_length_le (Nat.le_of_eq (eCells_length l)), hf, hz, List.drop_replicate]
  simp [bE]
theorem padB_put (l : List UInt8) (h : l.length < 64) (x : UInt8) : (bE (padB l)).take (0 + l.length * 1) ++ [eB x] ++ (bE (padB l)).drop (0 + l.length * 1 + 1) = bE (padB (l ++ [x])) := by
  rw [setB (padB l) (by rw [padB_len (by omega)]; exact h), padB_set h]
theorem xorB (c : UInt8) (K : List UInt8) {i : Nat} (h : i < K.length) : E.v (.int .u8 (IntKind.u8.wrap ((BitVec.ofInt IntKind.u8.bits ((bE K).getD (0 + i * 1) E.dflt).int ^^^ BitVec.ofInt IntKind.u8.bits (c.toNat : Int)).toNat : Int))) = eB ((xorP c K).getD i 0) := by
  have e : (bE K).getD (0 + i * 1) E.dflt = eB (K.getD i 0) := by
    rw [Nat.zero_add, Nat.mul_one]
    simp [bE, h]
  rw [e]
  show E.v (.int .u8 (IntKind.u8.wrap ((BitVec.ofInt IntKind.u8.bits ((K.getD i 0).toNat : Int) ^^^ BitVec.ofInt IntKind.u8.bits (c.toNat : Int)).toNat : Int))) = _
  rw [u8_xor]
  simp [xorP, eB, h]
theorem xorP_put (c : UInt8) (K : List UInt8) {i : Nat} (h : i < 64) (hK : K.length = 64) : (bE (padB ((xorP c K).take i))).take (0 + i * 1) ++ [E.v (.int .u8 (IntKind.u8.wrap ((BitVec.ofInt IntKind.u8.bits ((bE K).getD (0 + i * 1) E.dflt).int ^^^ BitVec.ofInt IntKind.u8.bits (c.toNat : Int)).toNat : Int)))] ++ (bE (padB ((xorP c K).take i))).drop (0 + i * 1 + 1) = bE (padB ((xorP c K).take (i + 1))) := by
  have hl : ((xorP c K).take i).length = i := by
    rw [List.length_take, xorP_len]
    omega
  rw [xorB c K (by omega), take_snocB (xorP c K) i (by rw [xorP_len]; omega)]
  have := padB_put ((xorP c K).take i) (by omega) ((xorP c K).getD i 0)
  rw [hl] at this
  exact this
set_option maxRecDepth 10000 in
theorem Mac_fn (key b : List UInt8) (h1 : key.length ≤ 1000000000) (h2 : b.length ≤ 1000000000) : FnG Tryd.prog 32 gK [.one (.e (eBytes key)), .one (.e (eBytes b))] (.agg (.es (bE (macF key b)))) := by
  refine fn_introG (T := tab) tOk Tryd.func32 rfl (by kernel_rfl) (by simp [Tryd.ntmps32]) ?_
  intro X hX
  have hnt : X.nt = 50 := hX
  clear hX
  repeat' (first | refine tr_seq ?_ | refine tr_block ?_ | refine tr_skip ?_)
  refine reg (T := tab) tOk hnt rfl (by (dsimp only [AllP]; (repeat' first | exact trivial | apply And.intro | exact Nat.le_of_ble_eq_true (by kernel_rfl) | decide | kernel_rfl | exact rfl))) ?_
  repeat' (first | refine tr_seq ?_ | refine tr_block ?_ | refine tr_skip ?_)
  refine reg (T := tab) tOk hnt rfl (by (dsimp only [AllP]; (repeat' first | exact trivial | apply And.intro | exact Nat.le_of_ble_eq_true (by kernel_rfl) | decide | kernel_rfl | exact rfl))) ?_
  repeat' (first | refine tr_seq ?_ | refine tr_block ?_ | refine tr_skip ?_)
  refine reg (T := tab) tOk hnt rfl (by (dsimp only [AllP]; (repeat' first | exact trivial | apply And.intro | exact Nat.le_of_ble_eq_true (by kernel_rfl) | decide | kernel_rfl | exact rfl))) ?_
  refine tr_join (σ := Unit) (fun _ => St.of [(1, .one (.e (eBytes b))), (4, .one (.ptr 4 0 0)), (5, .one (.ptr 5 0 0)), ((1000000 + 3), .one (.eptr kE))] [(4, ⟨0, .box (.es (bE z32)), 0⟩), (5, ⟨0, .box (.es (bE (padK key (64 - (keyF key).length)))), 0⟩)]) (fun _ => True) ?_ ?_
  · refine tr_cond rfl (fun hc => ?_) (fun hc => ?_)
    · have hc : (64 : Int) < ((eCells key).length : Int) := of_decide_eq_true hc
      rw [eCells_length] at hc
      have hkf : keyF key = sumF key := by rw [keyF, if_pos (by omega)]
      have hs := Sum_fn key (Nat.le_trans h1 (by decide))
      have ho := sum_len key
      unfold padK
      rw [hkf]
      generalize sumF key = o at hs ho ⊢
      have hr : (bE o).length = 32 := by simp [bE, ho]
      repeat' (first | refine tr_seq ?_ | refine tr_block ?_ | refine tr_skip ?_)
      refine tr_region (lex (T := tab) tOk hnt rfl ?_ (callV rfl rfl rfl rfl rfl rfl rfl hnt rfl hs (lex (T := tab) tOk hnt rfl ?_ (Lex.nil _)))) ?_
      · exact trivial
      · exact ⟨⟨hr, Nat.le_of_ble_eq_true (by kernel_rfl), Nat.zero_le _⟩, trivial⟩
      refine tr_le (s' := St.of [(1, .one (.e (eBytes b))), (4, .one (.ptr 4 0 0)), (5, .one (.ptr 5 0 0)), (6, .one (.ptr 6 0 0)), ((1000000 + 3), .one (.eptr kE))] [(4, ⟨0, .box (.es (bE z32)), 0⟩), (5, ⟨0, .box (.es (bE zB)), 0⟩), (6, ⟨0, .box (.es (bE o)), 0⟩)]) (le_of (ad := []) ⟨rfl, ⟨rfl, rfl, rfl, rfl, rfl⟩, ⟨rfl, rfl, rfl, rfl, rfl⟩, ⟨rfl, rfl, rfl, rfl, rfl⟩, rfl, trivial⟩ (memOk_boxE rfl rfl (by kernel_rfl) (memOk_boxE rfl rfl (by kernel_rfl) (memOk_boxE rfl rfl (Eq.trans (b := List.take 0 (bE z32) ++ bE o ++ List.drop (0 + 32) (bE z32)) (by kernel_rfl) (put_all2 _ _ 32 rfl)) trivial)))) ?_
      have hch : chunksE 1 (((32 : Nat) : Int) - 0).toNat (List.drop (0 + Int.toNat 0 * 1) (bE o)) = eCells o := ch32s o ho
      repeat' (first | refine tr_seq ?_ | refine tr_block ?_ | refine tr_skip ?_)
      first | refine reg (T := tab) tOk hnt rfl ?_ ?_ | refine regD (T := tab) tOk mixedR hnt rfl (by decide +kernel) ?_ ?_
      · exact ⟨⟨trivial, Nat.zero_le _⟩, ⟨by decide, by decide, by decide, by decide, Nat.le_of_eq hr.symm, by decide, by decide⟩, by decide, by decide, by decide, by decide, Nat.le_of_ble_eq_true rfl, by decide, by decide⟩
      refine ⟨(), trivial, le_of (ad := []) ⟨rfl, ⟨rfl, rfl, rfl, rfl, rfl⟩, ⟨rfl, rfl, rfl, rfl, rfl⟩, rfl, trivial⟩ (memOk_box rfl rfl rfl (memOk_boxE rfl rfl ?_ trivial))⟩
      have := copyK o (by omega)
      rw [← hch] at this
      exact this
    · have hc : ¬ (64 : Int) < ((eCells key).length : Int) := of_decide_eq_false hc
      rw [eCells_length] at hc
      have hkf : keyF key = key := by rw [keyF, if_neg (by omega)]
      unfold padK
      rw [hkf]
      repeat' (first | refine tr_seq ?_ | refine tr_block ?_ | refine tr_skip ?_)
      refine tr_le (s' := St.of [(0, .one (.e (eBytes key))), (1, .one (.e (eBytes b))), (4, .one (.ptr 4 0 0)), (5, .one (.ptr 5 0 0)), ((1000000 + 3), .one (.eptr kE))] [(4, ⟨0, .box (.es (bE z32)), 0⟩), (5, ⟨0, .box (.es (bE zB)), 0⟩)]) (le_of (ad := []) ⟨rfl, rfl, ⟨rfl, rfl, rfl, rfl, rfl⟩, ⟨rfl, rfl, rfl, rfl, rfl⟩, rfl, trivial⟩ (memOk_boxE rfl rfl (by kernel_rfl) (memOk_boxE rfl rfl (by kernel_rfl) trivial))) ?_
      repeat' (first | refine tr_seq ?_ | refine tr_block ?_ | refine tr_skip ?_)
      first | refine reg (T := tab) tOk hnt rfl ?_ ?_ | refine regD (T := tab) tOk mixedR hnt rfl (by decide +kernel) ?_ ?_
      · exact ⟨⟨eCells_len1 key, Nat.zero_le _⟩, trivial, by decide, by decide, by decide, by decide, Nat.le_of_ble_eq_true rfl, by decide, by decide⟩
      refine ⟨(), trivial, le_of (ad := []) ⟨rfl, ⟨rfl, rfl, rfl, rfl, rfl⟩, ⟨rfl, rfl, rfl, rfl, rfl⟩, rfl, trivial⟩ (memOk_box rfl rfl rfl (memOk_boxE rfl rfl ?_ trivial))⟩
      exact copyK key (by omega)
  intro _ _
  have hkl := keyF_len key
  have hK : (padK key (64 - (keyF key).length)).length = 64 := by
    rw [padK_len]
    omega
  unfold macF
  generalize padK key (64 - (keyF key).length) = K at hK ⊢
  have hkc : ∀ i, i < 64 → (bE K).getD (0 + i * 1) E.dflt = eB (K.getD i 0) := fun i hi => by
    rw [Nat.zero_add, Nat.mul_one]
    have : i < K.length := by omega
    simp [bE, this]
  repeat' (first | refine tr_seq ?_ | refine reg (T := tab) tOk hnt rfl ?_ ?_ | refine regD (T := tab) tOk mixedR hnt rfl (by decide +kernel) ?_ ?_ | refine tr_block ?_ | refine tr_skip ?_)
  · (dsimp only [AllP]; (repeat' first | exact trivial | assumption | exact Nat.le_of_ble_eq_true rfl | apply And.intro | intro _ | exact rfl))
  · (dsimp only [AllP]; (repeat' first | exact trivial | assumption | exact Nat.le_of_ble_eq_true rfl | apply And.intro | intro _ | exact rfl))
  refine tr_loop (σ := Nat) (fun i => St.of [(1, .one (.e (eBytes b))), (4, .one (.ptr 4 0 0)), (5, .one (.ptr 5 0 0)), (7, .one (.ptr 7 0 0)), (8, .one (.ptr 8 0 0)), (22, .v (.int .i64 i)), ((1000000 + 3), .one (.eptr kE))] [(4, ⟨0, .box (.es (bE z32)), 0⟩), (5, ⟨0, .box (.es (bE K)), 0⟩), (7, ⟨0, .box (.es (bE (padB ((xorP 0x36 K).take i)))), 0⟩), (8, ⟨0, .box (.es (bE (padB ((xorP 0x5c K).take i)))), 0⟩)]) (fun i => i ≤ 64) (fun i => 64 - i) 0 (le_of (ad := []) ⟨rfl, ⟨rfl, rfl, rfl, rfl, rfl⟩, ⟨rfl, rfl, rfl, rfl, rfl⟩, ⟨rfl, rfl, rfl, rfl, rfl⟩, ⟨rfl, rfl, rfl, rfl, rfl⟩, rfl, rfl, trivial⟩ (memOk_box rfl rfl rfl (memOk_box rfl rfl rfl (memOk_boxE rfl rfl (by kernel_rfl) (memOk_boxE rfl rfl (by kernel_rfl) trivial))))) (Nat.zero_le _) ?_
  intro i hi
  repeat' (first | refine tr_seq ?_ | refine tr_block ?_ | refine tr_skip ?_)
  refine reg (T := tab) tOk hnt rfl (by (dsimp only [AllP]; (repeat' first | exact trivial | assumption | exact Nat.le_of_ble_eq_true rfl | apply And.intro | intro _ | exact rfl))) ?_
  repeat' (first | refine tr_seq ?_ | refine tr_block ?_ | refine tr_skip ?_)
  refine tr_cond rfl (fun hc => ?_) (fun hc => ?_)
  · have hc := of_decide_eq_true hc
    have hi64 : i < 64 := by omega
    repeat' (first | refine tr_seq ?_ | refine reg (T := tab) tOk hnt rfl ?_ ?_ | refine regD (T := tab) tOk mixedR hnt rfl (by decide +kernel) ?_ ?_ | refine tr_block ?_ | refine tr_skip ?_)
    · (dsimp only [AllP]; (repeat' first | exact trivial | assumption | exact Nat.le_of_ble_eq_true rfl | apply And.intro | intro _ | exact rfl))
    · have ha : ∀ c : UInt8, 0 + i * 1 + 1 ≤ (Cs.es (bE (padB ((xorP c K).take i)))).len := fun c => by
        show _ ≤ (bE (padB ((xorP c K).take i))).length
        have : (padB ((xorP c K).take i)).length = 64 := padB_len (by rw [List.length_take]; omega)
        simp only [bE, List.length_map]
        omega
      have hb : 0 + i * 1 < (Cs.es (bE K)).len := by
        show _ < (bE K).length
        simp only [bE, List.length_map]
        omega
      have hd : D0.isA (.int .u8) ((Cs.es (bE K)).at (0 + i * 1)) := by
        show E.as (.int .u8) ((bE K).getD (0 + i * 1) E.dflt) = (bE K).getD (0 + i * 1) E.dflt
        rw [hkc i hi64]
        rfl
      have he : (i : Int) < ((64 : Nat) : Int) := hc
      have hf := Int.natCast_nonneg i
      dsimp only [AllP]
      rw [Int.toNat_natCast]
      exact ⟨⟨rfl, ha 0x5c, Nat.zero_le _⟩, ⟨hf, he⟩, ⟨rfl, ha 0x36, Nat.zero_le _⟩, ⟨hf, he⟩, rfl, ⟨hb, hd⟩, ⟨hf, he⟩, trivial, rfl, ⟨hb, hd⟩, ⟨hf, he⟩, trivial, trivial, trivial⟩
    · (dsimp only [AllP]; (repeat' first | exact trivial | assumption | exact Nat.le_of_ble_eq_true rfl | apply And.intro | intro _ | exact rfl))
    exact ⟨i + 1, hi64, by omega, le_of (ad := []) ⟨rfl, ⟨rfl, rfl, rfl, rfl, rfl⟩, ⟨rfl, rfl, rfl, rfl, rfl⟩, ⟨rfl, rfl, rfl, rfl, rfl⟩, ⟨rfl, rfl, rfl, rfl, rfl⟩, congrArg (fun z : Int => E.v (.int .i64 z)) (wrap64_id (by omega) (by omega)), rfl, trivial⟩ (memOk_box rfl rfl rfl (memOk_box rfl rfl rfl (memOk_boxE rfl rfl (xorP_put 0x36 K hi64 hK) (memOk_boxE rfl rfl (xorP_put 0x5c K hi64 hK) trivial))))⟩
  have hc := of_decide_eq_false hc
  have hi : i = 64 := by omega
  subst hi
  have hl1 : (xorP 0x36 K).length = 64 := (xorP_len _ _).trans hK
  have hl2 : (xorP 0x5c K).length = 64 := (xorP_len _ _).trans hK
  rw [List.take_of_length_le (Nat.le_of_eq hl1), List.take_of_length_le (Nat.le_of_eq hl2), padB_full hl1, padB_full hl2]
  clear hkc hc
  generalize xorP 0x36 K = I1 at *
  generalize xorP 0x5c K = I2 at *
  clear hK hkl
  have hch : ∀ l : List UInt8, l.length = 64 → chunksE 1 (((64 : Nat) : Int) - 0).toNat (List.drop (0 + Int.toNat 0 * 1) (bE l)) = eCells l := fun l hl => bytesOf_chunks l hl
  have hb1 : (bE I1).length = 64 := by simp [bE, hl1]
  have hb2 : (bE I2).length = 64 := by simp [bE, hl2]
  have hlen : ∀ (s : Sm) (l : List UInt8), (feedF s l).len = s.len + l.length := fun s l => by
    unfold feedF
    rw [fold_len]
  have hld : ∀ (s : Sm) (l : List UInt8), s.held.length < 64 → (feedF s l).held.length < 64 := fun s l h => fold_held _ _ h
  have hs0 : s0.held.length < 64 := by decide
  have z0 : s0.len = 0 := rfl
  have f1 := feed_fn s0 I1 (by decide) (by decide) (by decide) (by omega)
  have d1 := hld s0 I1 hs0
  have g1 := hlen s0 I1
  have f2 := feed_fn (feedF s0 I1) b d1 (by omega) (by omega) (by omega)
  have d2 := hld (feedF s0 I1) b d1
  have g2 := hlen (feedF s0 I1) b
  have f3 := end_fn (feedF (feedF s0 I1) b) d2 (by omega) (by omega)
  rw [show sumF (I1 ++ b) = endF (feedF (feedF s0 I1) b) by rw [feed_app]; rfl]
  generalize feedF (feedF s0 I1) b = t2 at *
  generalize feedF s0 I1 = t1 at *
  have hor : (endF t2).length = 32 := by simp [endF, outW_len]
  generalize endF t2 = o at *
  have hr : (bE o).length = 32 := by simp [bE, hor]
  have k1 := feed_fn s0 I2 (by decide) (by decide) (by decide) (by omega)
  have e1 := hld s0 I2 hs0
  have m1 := hlen s0 I2
  have k2 := feed_fn (feedF s0 I2) o e1 (by omega) (by omega) (by omega)
  have e2 := hld (feedF s0 I2) o e1
  have m2 := hlen (feedF s0 I2) o
  have k3 := end_fn (feedF (feedF s0 I2) o) e2 (by omega) (by omega)
  rw [show sumF (I2 ++ o) = endF (feedF (feedF s0 I2) o) by rw [feed_app]; rfl]
  generalize feedF (feedF s0 I2) o = u2 at *
  generalize feedF s0 I2 = u1 at *
  have hqr : (endF u2).length = 32 := by simp [endF, outW_len]
  generalize endF u2 = q at *
  have hr2 : (bE q).length = 32 := by simp [bE, hqr]
  have f1 : FnG Tryd.prog 62 gK [.agg (.es (smE s0)), .one (.e (.sl (chunksE 1 (((64 : Nat) : Int) - 0).toNat (List.drop (0 + Int.toNat 0 * 1) (bE I1)))))] (.agg (.es (smE t1))) := by
    rw [hch I1 hl1]
    exact f1
  have k1 : FnG Tryd.prog 62 gK [.agg (.es (smE s0)), .one (.e (.sl (chunksE 1 (((64 : Nat) : Int) - 0).toNat (List.drop (0 + Int.toNat 0 * 1) (bE I2)))))] (.agg (.es (smE u1))) := by
    rw [hch I2 hl2]
    exact k1
  have k2 : FnG Tryd.prog 62 gK [.agg (.es (smE u1)), .one (.e (.sl (chunksE 1 (((32 : Nat) : Int) - 0).toNat (List.drop (0 + Int.toNat 0 * 1) (bE o)))))] (.agg (.es (smE u2))) := by
    rw [show chunksE 1 (((32 : Nat) : Int) - 0).toNat (List.drop (0 + Int.toNat 0 * 1) (bE o)) = eCells o from ch32s o hor]
    exact k2
  refine tr_exit ?_
  repeat' (first | refine tr_seq ?_ | refine tr_block ?_ | refine tr_skip ?_)
  refine tr_draw (T := tab) tOk hnt mixedR (lexD (T := tab) rfl ?_ (callD rfl rfl rfl rfl rfl rfl rfl rfl Begin_fn (lexD (T := tab) rfl ?_ (callVDU rfl rfl rfl rfl rfl rfl rfl rfl rfl rfl f1 (lexD (T := tab) rfl ?_ (callVD rfl rfl rfl rfl rfl rfl rfl rfl rfl f2 (lexD (T := tab) rfl ?_ (callVD rfl rfl rfl rfl rfl rfl rfl rfl rfl f3 (lexD (T := tab) rfl ?_ (.nil _)))))))))) (by decide +kernel) ?_
  · trivial
  · exact ⟨by decide, by decide, by decide, by decide, Nat.le_of_eq hb1.symm, by decide, by decide⟩
  · trivial
  · trivial
  · exact ⟨⟨hr, Nat.le_of_ble_eq_true (by kernel_rfl), Nat.zero_le _⟩, trivial⟩
  refine tr_le (s' := St.of [(4, .one (.ptr 4 0 0)), (8, .one (.ptr 8 0 0)), (10, .one (.ptr 10 0 0)), ((1000000 + 3), .one (.eptr kE))] [(4, ⟨0, .box (.es (bE z32)), 0⟩), (8, ⟨0, .box (.es (bE I2)), 0⟩), (10, ⟨0, .box (.es (bE o)), 0⟩)]) (le_of (ad := []) ⟨⟨rfl, rfl, rfl, rfl, rfl⟩, ⟨rfl, rfl, rfl, rfl, rfl⟩, ⟨rfl, rfl, rfl, rfl, rfl⟩, rfl, trivial⟩ (memOk_box rfl rfl rfl (memOk_box rfl rfl rfl (memOk_boxE rfl rfl (Eq.trans (b := List.take 0 (bE z32) ++ bE o ++ List.drop (0 + 32) (bE z32)) (by kernel_rfl) (put_all2 _ _ 32 rfl)) trivial)))) ?_
  repeat' (first | refine tr_seq ?_ | refine tr_block ?_ | refine tr_skip ?_)
  refine tr_draw (T := tab) tOk hnt mixedR (lexD (T := tab) rfl ?_ (callD rfl rfl rfl rfl rfl rfl rfl rfl Begin_fn (lexD (T := tab) rfl ?_ (callVDU rfl rfl rfl rfl rfl rfl rfl rfl rfl rfl k1 (lexD (T := tab) rfl ?_ (callVDU rfl rfl rfl rfl rfl rfl rfl rfl rfl rfl k2 (lexD (T := tab) rfl ?_ (callVD rfl rfl rfl rfl rfl rfl rfl rfl rfl k3 (lexD (T := tab) rfl ?_ (.nil _)))))))))) (by decide +kernel) ?_
  · trivial
  · exact ⟨by decide, by decide, by decide, by decide, Nat.le_of_eq hb2.symm, by decide, by decide⟩
  · exact ⟨by decide, by decide, by decide, by decide, Nat.le_of_eq hr.symm, by decide, by decide⟩
  · trivial
  · exact ⟨hr2, Nat.le_of_ble_eq_true (by kernel_rfl), Nat.zero_le _⟩
  refine tr_le (s' := St.of [(4, .one (.ptr 4 0 0))] [(4, ⟨0, .box (.es (bE q)), 0⟩)]) (le_of (ad := []) ⟨⟨rfl, rfl, rfl, rfl, rfl⟩, trivial⟩ (memOk_boxE rfl rfl (Eq.trans (b := List.take 0 (bE z32) ++ bE q ++ List.drop (0 + 32) (bE z32)) (by kernel_rfl) (put_all2 _ _ 32 rfl)) trivial)) ?_
  refine tr_ret ⟨.inr rfl, _, _, rfl, ⟨Nat.le_of_eq hr2.symm, trivial⟩, ?_⟩
  exact congrArg (fun l => D.agg (.es l)) (all_of _ 32 hr2)
end Go.Proofs.YtmicapdbgjafnabDoor
