/- SHA-256 as the program has it: a block is taken in (its table of words given). No condition. -/
import Derived.Test.YtjpmghphkkhcjaaDoorTSh3
namespace Go.Proofs.YtjpmghphkkhcjaaDoor
open Go Go.RowKit Go.Proofs.YtjpmghphkkhcjaaDoor.Ab

def kE : List E := kW.map eW
def wE (l : List W) : List E := l.map eW
def bE (l : List UInt8) : List E := l.map eB
theorem getW (l : List W) {i : Nat} (h : i < l.length) : (wE l).getD (0 + i * 1) E.dflt = eW (l.getD i 0) := by
  rw [Nat.zero_add, Nat.mul_one]
  simp [wE, h]
theorem getB (l : List UInt8) {i : Nat} (h : i < l.length) : (bE l).getD (0 + i * 1) E.dflt = eB (l.getD i 0) := by
  rw [Nat.zero_add, Nat.mul_one]
  simp [bE, h]
theorem okW (l : List W) {i : Nat} (h : i < l.length) : 0 + i * 1 < (Cs.es (wE l)).len ∧ D0.isA (.int .u32) ((Cs.es (wE l)).at (0 + i * 1)) := by
  refine ⟨?_, ?_⟩
  · show 0 + i * 1 < (wE l).length
    simp [wE, h]
  · show E.as (.int .u32) ((wE l).getD (0 + i * 1) E.dflt) = (wE l).getD (0 + i * 1) E.dflt
    rw [getW l h]
    rfl
theorem okB (l : List UInt8) {i : Nat} (h : i < l.length) : 0 + i * 1 < (Cs.es (bE l)).len ∧ D0.isA (.int .u8) ((Cs.es (bE l)).at (0 + i * 1)) := by
  refine ⟨?_, ?_⟩
  · show 0 + i * 1 < (bE l).length
    simp [bE, h]
  · show E.as (.int .u8) ((bE l).getD (0 + i * 1) E.dflt) = (bE l).getD (0 + i * 1) E.dflt
    rw [getB l h]
    rfl
theorem setW (l : List W) {i : Nat} (h : i < l.length) (x : W) : (wE l).take (0 + i * 1) ++ [eW x] ++ (wE l).drop (0 + i * 1 + 1) = wE (l.set i x) := by
  rw [Nat.zero_add, Nat.mul_one]
  unfold wE
  rw [List.map_set, List.set_eq_take_append_cons_drop, if_pos (by simpa using h)]
  simp
theorem putW (l : List W) {i : Nat} (h : i < l.length) : 0 + i * 1 + 1 ≤ (Cs.es (wE l)).len := by
  show 0 + i * 1 + 1 ≤ (wE l).length
  simp [wE]
  omega
/-- the words so far, the rest nought -/
def padW (l : List W) : List W := l ++ List.replicate (64 - l.length) 0
theorem padW_len (l : List W) (h : l.length ≤ 64) : (padW l).length = 64 := by
  simp [padW]
  omega
theorem padW_get (l : List W) {i : Nat} (h : i < l.length) : (padW l).getD i 0 = l.getD i 0 := by
  unfold padW
  rw [List.getD_eq_getElem?_getD, List.getElem?_append_left h, List.getD_eq_getElem?_getD]
theorem padW_set (l : List W) (h : l.length < 64) (x : W) : (padW l).set l.length x = padW (l ++ [x]) := by
  unfold padW
  rw [List.set_append_right _ _ (Nat.le_refl _), Nat.sub_self]
  have : 64 - l.length = (64 - (l ++ [x]).length) + 1 := by simp; omega
  rw [this, List.replicate_succ]
  simp
theorem or_nat (a b k : Nat) (hb : b < 2 ^ k) : a * 2 ^ k ||| b = a * 2 ^ k + b := by
  rw [← Nat.shiftLeft_eq, Nat.shiftLeft_add_eq_or_of_lt hb]
set_option maxRecDepth 10000 in
theorem wordN (a b c d : Nat) (ha : a < 256) (hb : b < 256) (hc : c < 256) (hd : d < 256) : ((((BitVec.ofNat 32 a <<< 24 ||| BitVec.ofNat 32 b <<< 16) ||| BitVec.ofNat 32 c <<< 8) ||| BitVec.ofNat 32 d) : W).toNat = (BitVec.ofNat 32 (a * 16777216 + b * 65536 + c * 256 + d)).toNat := by
  have o24 : ∀ x y : Nat, y < 16777216 → x * 16777216 ||| y = x * 16777216 + y := fun x y h => or_nat x y 24 h
  have o16 : ∀ x y : Nat, y < 65536 → x * 65536 ||| y = x * 65536 + y := fun x y h => or_nat x y 16 h
  have o8 : ∀ x y : Nat, y < 256 → x * 256 ||| y = x * 256 + y := fun x y h => or_nat x y 8 h
  simp only [BitVec.toNat_or, BitVec.toNat_shiftLeft, BitVec.toNat_ofNat, Nat.shiftLeft_eq, Nat.reducePow]
  have lt : ∀ x k : Nat, x < 256 → 256 * k ≤ 4294967296 → 0 < k → x * k < 4294967296 := fun x k hx hk h0 => Nat.lt_of_lt_of_le (Nat.mul_lt_mul_of_pos_right hx h0) hk
  have sm : ∀ x : Nat, x < 256 → x < 4294967296 := fun x hx => Nat.lt_of_lt_of_le hx (by decide)
  rw [Nat.mod_eq_of_lt (sm a ha), Nat.mod_eq_of_lt (sm b hb), Nat.mod_eq_of_lt (sm c hc), Nat.mod_eq_of_lt (sm d hd)]
  rw [Nat.mod_eq_of_lt (lt a 16777216 ha (by decide) (by decide)), Nat.mod_eq_of_lt (lt b 65536 hb (by decide) (by decide)), Nat.mod_eq_of_lt (lt c 256 hc (by decide) (by decide))]
  rw [o24 a (b * 65536) (Nat.lt_of_lt_of_le (Nat.mul_lt_mul_of_pos_right hb (by decide : 0 < 65536)) (by decide))]
  have e1 : a * 16777216 + b * 65536 = (a * 256 + b) * 65536 := by rw [Nat.add_mul, Nat.mul_assoc]
  rw [e1, o16 (a * 256 + b) (c * 256) (Nat.lt_of_lt_of_le (Nat.mul_lt_mul_of_pos_right hc (by decide : 0 < 256)) (by decide))]
  have e2 : (a * 256 + b) * 65536 + c * 256 = ((a * 256 + b) * 256 + c) * 256 := by rw [Nat.add_mul _ c, Nat.mul_assoc _ 256 256]
  rw [e2, o8 ((a * 256 + b) * 256 + c) d hd]
  have e3 : ((a * 256 + b) * 256 + c) * 256 + d = a * 16777216 + b * 65536 + c * 256 + d := by rw [← e2, ← e1]
  rw [Nat.mod_eq_of_lt]
  omega
theorem wordV (a b c d : UInt8) : wW (((oW (wW (((oW (wW (((oW (wW (wW (a.toNat : Int) * 2 ^ min (Int.toNat 24) IntKind.u32.bits))) ||| (oW (wW (wW (b.toNat : Int) * 2 ^ min (Int.toNat 16) IntKind.u32.bits)))).toNat : Int))) ||| (oW (wW (wW (c.toNat : Int) * 2 ^ min (Int.toNat 8) IntKind.u32.bits)))).toNat : Int))) ||| (oW (wW (d.toNat : Int)))).toNat : Int) = ((wordW a b c d).toNat : Int) := by
  unfold wW oW
  rw [show min (Int.toNat 24) IntKind.u32.bits = 24 from rfl, show min (Int.toNat 16) IntKind.u32.bits = 16 from rfl, show min (Int.toNat 8) IntKind.u32.bits = 8 from rfl]
  rw [w_byte, w_byte, w_byte, w_byte, w_shl, w_shl, w_shl, w_or, w_or, w_or]
  congr 1
  exact wordN a.toNat b.toNat c.toNat d.toNat a.toNat_lt b.toNat_lt c.toNat_lt d.toNat_lt
theorem memOk_boxE {ad : List Nat} {s s' : St} {id v v' pub : Nat} {xs ys : List E} {r : List (Nat × Blk)} (h1 : inB ad id = false) (h2 : s.mem id = some ⟨v, .box (.es xs), pub⟩) (h3 : xs = ys) (hr : memOk ad s s' r) : memOk ad s s' ((id, ⟨v', .box (.es ys), pub⟩) :: r) := memOk_box h1 h2 h3 hr
theorem pad_step (l : List W) (h : l.length < 64) (x : W) : (wE (padW l)).take (0 + l.length * 1) ++ [eW x] ++ (wE (padW l)).drop (0 + l.length * 1 + 1) = wE (padW (l ++ [x])) := by
  rw [setW (padW l) (by rw [padW_len l (by omega)]; exact h), padW_set l h]
theorem padW_full (l : List W) (h : l.length = 64) : padW l = l := by simp [padW, h]
def mixL (a b : List W) (i : Nat) : List W := (List.zipWith (· + ·) a b).take i ++ a.drop i
theorem mix_get (a b : List W) (h : a.length = b.length) {i : Nat} (hi : i < a.length) : (mixL a b i).getD i 0 = a.getD i 0 := by
  unfold mixL
  have : ((List.zipWith (· + ·) a b).take i).length = i := by simp; omega
  rw [List.getD_eq_getElem?_getD, List.getElem?_append_right (by omega), this, Nat.sub_self, List.getElem?_drop]
  rfl
theorem mix_len (a b : List W) (h : a.length = b.length) {i : Nat} (hi : i ≤ a.length) : (mixL a b i).length = a.length := by
  simp [mixL]
  omega
theorem mix_set (a b : List W) (h : a.length = b.length) {i : Nat} (hi : i < a.length) : (mixL a b i).set i (a.getD i 0 + b.getD i 0) = mixL a b (i + 1) := by
  unfold mixL
  have hl : ((List.zipWith (· + ·) a b).take i).length = i := by simp; omega
  have hz : i < (List.zipWith (· + ·) a b).length := by simp; omega
  have hib : i < b.length := by omega
  rw [List.set_append_right _ _ (by omega), hl, Nat.sub_self, List.take_succ_eq_append_getElem hz, List.drop_eq_getElem_cons hi, List.set_cons_zero, List.getElem_zipWith, List.append_assoc, List.singleton_append]
  simp [List.getD, hi, hib]
theorem chV2 (e f g : W) : wW (((oW (wW (((oW (e.toNat : Int)) &&& (oW (f.toNat : Int))).toNat : Int))) ^^^ (oW (wW (((oW (wW (((oW 4294967295) ^^^ (oW (e.toNat : Int))).toNat : Int))) &&& (oW (g.toNat : Int))).toNat : Int)))).toNat : Int) = ((chW e f g).toNat : Int) := by
  unfold wW oW
  rw [w_and, w_not, w_and, w_xor]
  rfl
theorem majV2 (a b c : W) : wW (((oW (wW (((oW (wW (((oW (a.toNat : Int)) &&& (oW (b.toNat : Int))).toNat : Int))) ^^^ (oW (wW (((oW (a.toNat : Int)) &&& (oW (c.toNat : Int))).toNat : Int)))).toNat : Int))) ^^^ (oW (wW (((oW (b.toNat : Int)) &&& (oW (c.toNat : Int))).toNat : Int)))).toNat : Int) = ((majW a b c).toNat : Int) := by
  unfold wW oW
  rw [w_and, w_and, w_xor, w_and, w_xor]
  rfl
theorem tV (h s e f g k w : W) : wW (wW (wW (wW ((h.toNat : Int) + (s.toNat : Int)) + wW (((oW (wW (((oW (e.toNat : Int)) &&& (oW (f.toNat : Int))).toNat : Int))) ^^^ (oW (wW (((oW (wW (((oW 4294967295) ^^^ (oW (e.toNat : Int))).toNat : Int))) &&& (oW (g.toNat : Int))).toNat : Int)))).toNat : Int)) + (k.toNat : Int)) + (w.toNat : Int)) = ((h + s + chW e f g + k + w).toNat : Int) := by
  rw [chV2]
  unfold wW
  rw [w_add, w_add, w_add, w_add]
theorem uV (s a b c : W) : wW ((s.toNat : Int) + wW (((oW (wW (((oW (wW (((oW (a.toNat : Int)) &&& (oW (b.toNat : Int))).toNat : Int))) ^^^ (oW (wW (((oW (a.toNat : Int)) &&& (oW (c.toNat : Int))).toNat : Int)))).toNat : Int))) ^^^ (oW (wW (((oW (b.toNat : Int)) &&& (oW (c.toNat : Int))).toNat : Int)))).toNat : Int)) = ((s + majW a b c).toNat : Int) := by
  rw [majV2]
  exact w_add _ _
theorem getK {i : Nat} (h : i < 64) : (kE.drop (i * 1)).getD 0 E.dflt = eW (kW.getD i 0) := by
  have hl : i < kW.length := h
  rw [Nat.mul_one]
  simp [kE, List.getD, hl]
theorem okK {i : Nat} (h : i < 64) : 0 < (Cs.es (kE.drop (i * 1))).len ∧ D0.isA (.int .u32) ((Cs.es (kE.drop (i * 1))).at 0) := by
  refine ⟨?_, ?_⟩
  · show 0 < (kE.drop (i * 1)).length
    have : kE.length = 64 := rfl
    rw [List.length_drop, this]
    omega
  · show E.as (.int .u32) ((kE.drop (i * 1)).getD 0 E.dflt) = (kE.drop (i * 1)).getD 0 E.dflt
    rw [getK h]
    rfl
def zW : List W := List.replicate 64 0
set_option maxRecDepth 10000 in
set_option maxHeartbeats 400000 in
theorem turn_fn (h : H8) (b : List UInt8) (hb : b.length = 64) : FnG Tryd.prog 98 [(0, kE)] [.agg (.es (hE h)), .agg (.es (bE b))] (.agg (.es (hE (comp h b)))) := by
  refine fn_introG (T := tab) tOk Tryd.func98 rfl (by kernel_rfl) (by simp [Tryd.ntmps98]) ?_
  intro X hX
  have hnt : X.nt = 194 := hX
  clear hX
  repeat' (first | refine tr_seq ?_ | refine reg (T := tab) tOk hnt rfl ?_ ?_ | refine regD (T := tab) tOk mixedR hnt rfl (by decide +kernel) ?_ ?_ | refine tr_block ?_ | refine tr_skip ?_)
  · (dsimp only [AllP]; (repeat' first | exact trivial | assumption | exact Nat.le_of_ble_eq_true rfl | apply And.intro | intro _ | exact rfl))
  · (dsimp only [AllP]; (repeat' first | exact trivial | assumption | exact Nat.le_of_ble_eq_true rfl | apply And.intro | intro _ | exact rfl))
  · (dsimp only [AllP]; (repeat' first | exact trivial | assumption | exact Nat.le_of_ble_eq_true rfl | apply And.intro | intro _ | exact rfl))
  refine tr_loop (σ := Nat) (fun i => St.of [(2, .one (.ptr 2 0 0)), (3, .one (.ptr 3 0 0)), (4, .one (.ptr 4 0 0)), (5, .one (.ptr 5 0 0)), (20, .v (.int .i64 i)), ((1000000 + 0), .one (.eptr kE))] [(2, ⟨0, .box (.es (hE h)), 0⟩), (3, ⟨0, .box (.es (bE b)), 0⟩), (4, ⟨0, .box (.es (hE hZ)), 0⟩), (5, ⟨0, .box (.es (wE (padW (words b i)))), 0⟩)]) (fun i => i ≤ 16) (fun i => 16 - i) 0 (le_of (ad := []) ⟨⟨rfl, rfl, rfl, rfl, rfl⟩, ⟨rfl, rfl, rfl, rfl, rfl⟩, ⟨rfl, rfl, rfl, rfl, rfl⟩, ⟨rfl, rfl, rfl, rfl, rfl⟩, rfl, rfl, trivial⟩ (memOk_box rfl rfl rfl (memOk_box rfl rfl rfl (memOk_box rfl rfl rfl (memOk_boxE rfl rfl (by kernel_rfl) trivial))))) (Nat.zero_le _) ?_
  intro i hi
  repeat' (first | refine tr_seq ?_ | refine reg (T := tab) tOk hnt rfl ?_ ?_ | refine regD (T := tab) tOk mixedR hnt rfl (by decide +kernel) ?_ ?_ | refine tr_block ?_ | refine tr_skip ?_)
  · (dsimp only [AllP]; (repeat' first | exact trivial | assumption | exact Nat.le_of_ble_eq_true rfl | apply And.intro | intro _ | exact rfl))
  refine tr_cond rfl (fun hc => ?_) (fun hc => ?_)
  · have hc := of_decide_eq_true hc
    have hi16 : i < 16 := by omega
    have n0 : IntKind.i64.wrap (4 * (i : Int)) = ((4 * i : Nat) : Int) := by rw [wrap64_id (by omega) (by omega)]; omega
    have n1 : IntKind.i64.wrap (((4 * i : Nat) : Int) + 1) = ((4 * i + 1 : Nat) : Int) := by rw [wrap64_id (by omega) (by omega)]; omega
    have n2 : IntKind.i64.wrap (((4 * i : Nat) : Int) + 2) = ((4 * i + 2 : Nat) : Int) := by rw [wrap64_id (by omega) (by omega)]; omega
    have n3 : IntKind.i64.wrap (((4 * i : Nat) : Int) + 3) = ((4 * i + 3 : Nat) : Int) := by rw [wrap64_id (by omega) (by omega)]; omega
    have nx : IntKind.i64.wrap ((i : Int) + 1) = ((i + 1 : Nat) : Int) := by rw [wrap64_id (by omega) (by omega)]; omega
    repeat' (first | refine tr_seq ?_ | refine reg (T := tab) tOk hnt rfl ?_ ?_ | refine regD (T := tab) tOk mixedR hnt rfl (by decide +kernel) ?_ ?_ | refine tr_block ?_ | refine tr_skip ?_)
    · (dsimp only [AllP]; (repeat' first | exact trivial | assumption | exact Nat.le_of_ble_eq_true rfl | apply And.intro | intro _ | exact rfl))
    · have hw : (padW (words b i)).length = 64 := padW_len _ (by rw [words_len]; omega)
      have p4 := putW (padW (words b i)) (i := i) (by omega)
      dsimp only [AllP]
      rw [n0, n1, n2, n3]
      simp only [Int.toNat_natCast]
      exact ⟨⟨rfl, p4, Nat.zero_le _⟩, ⟨Int.natCast_nonneg _, by omega⟩, trivial, trivial, okB b (by omega), ⟨Int.natCast_nonneg _, by omega⟩, trivial, trivial, trivial, trivial, (show (0 : Int) ≤ 8 by decide), trivial, okB b (by omega), ⟨Int.natCast_nonneg _, by omega⟩, trivial, trivial, trivial, trivial, (show (0 : Int) ≤ 16 by decide), trivial, okB b (by omega), ⟨Int.natCast_nonneg _, by omega⟩, trivial, trivial, trivial, (show (0 : Int) ≤ 24 by decide), trivial, okB b (by omega), ⟨Int.natCast_nonneg _, by omega⟩, trivial, trivial, trivial⟩
    · (dsimp only [AllP]; (repeat' first | exact trivial | assumption | exact Nat.le_of_ble_eq_true rfl | apply And.intro | intro _ | exact rfl))
    rw [n0, n1, n2, n3]
    simp only [Int.toNat_natCast]
    refine ⟨i + 1, hi16, by omega, le_of (ad := []) ⟨⟨rfl, rfl, rfl, rfl, rfl⟩, ⟨rfl, rfl, rfl, rfl, rfl⟩, ⟨rfl, rfl, rfl, rfl, rfl⟩, ⟨rfl, rfl, rfl, rfl, rfl⟩, congrArg (fun z : Int => E.v (.int .i64 z)) nx, rfl, trivial⟩ (memOk_box rfl rfl rfl (memOk_box rfl rfl rfl (memOk_box rfl rfl rfl (memOk_boxE rfl rfl ?_ trivial))))⟩
    have e := pad_step (words b i) (by rw [words_len]; omega) (word4 b i)
    rw [words_len, ← words_succ] at e
    refine Eq.trans ?_ e
    refine congrArg (fun z : Int => List.take (0 + i * 1) (wE (padW (words b i))) ++ [E.v (.int .u32 z)] ++ List.drop (0 + i * 1 + 1) (wE (padW (words b i)))) ?_
    refine Eq.trans ?_ (wordV _ _ _ _)
    rw [getB b (i := 4 * i) (by omega), getB b (i := 4 * i + 1) (by omega), getB b (i := 4 * i + 2) (by omega), getB b (i := 4 * i + 3) (by omega)]
    rfl
  have hc := of_decide_eq_false hc
  have hi : i = 16 := by omega
  subst hi
  refine tr_exit ?_
  repeat' (first | refine tr_seq ?_ | refine reg (T := tab) tOk hnt rfl ?_ ?_ | refine regD (T := tab) tOk mixedR hnt rfl (by decide +kernel) ?_ ?_ | refine tr_block ?_ | refine tr_skip ?_)
  · (dsimp only [AllP]; (repeat' first | exact trivial | assumption | exact Nat.le_of_ble_eq_true rfl | apply And.intro | intro _ | exact rfl))
  clear hc
  refine tr_loop (σ := Nat) (fun m => St.of [(2, .one (.ptr 2 0 0)), (3, .one (.ptr 3 0 0)), (4, .one (.ptr 4 0 0)), (5, .one (.ptr 5 0 0)), (7, .v (.int .i64 ((16 + m : Nat) : Int))), ((1000000 + 0), .one (.eptr kE))] [(2, ⟨0, .box (.es (hE h)), 0⟩), (3, ⟨0, .box (.es (bE b)), 0⟩), (4, ⟨0, .box (.es (hE hZ)), 0⟩), (5, ⟨0, .box (.es (wE (padW (sch b m)))), 0⟩)]) (fun m => m ≤ 48) (fun m => 48 - m) 0 (le_of (ad := []) ⟨⟨rfl, rfl, rfl, rfl, rfl⟩, ⟨rfl, rfl, rfl, rfl, rfl⟩, ⟨rfl, rfl, rfl, rfl, rfl⟩, ⟨rfl, rfl, rfl, rfl, rfl⟩, rfl, rfl, trivial⟩ (memOk_box rfl rfl rfl (memOk_box rfl rfl rfl (memOk_box rfl rfl rfl (memOk_box rfl rfl rfl trivial))))) (Nat.zero_le _) ?_
  intro m hm
  have hL : (sch b m).length = 16 + m := sch_len b m
  repeat' (first | refine tr_seq ?_ | refine reg (T := tab) tOk hnt rfl ?_ ?_ | refine regD (T := tab) tOk mixedR hnt rfl (by decide +kernel) ?_ ?_ | refine tr_block ?_ | refine tr_skip ?_)
  · (dsimp only [AllP]; (repeat' first | exact trivial | assumption | exact Nat.le_of_ble_eq_true rfl | apply And.intro | intro _ | exact rfl))
  refine tr_cond rfl (fun hc => ?_) (fun hc => ?_)
  · have hc := of_decide_eq_true hc
    have hm48 : m < 48 := by omega
    have hP : (padW (sch b m)).length = 64 := padW_len _ (by omega)
    have hj : ∀ j : Nat, j ≤ 16 → IntKind.i64.wrap (((16 + m : Nat) : Int) - (j : Int)) = ((16 + m - j : Nat) : Int) := fun j hj => by rw [wrap64_id (by omega) (by omega)]; omega
    have f15 : IntKind.i64.wrap (((16 + m : Nat) : Int) - 15) = ((16 + m - 15 : Nat) : Int) := hj 15 (by decide)
    have f2 : IntKind.i64.wrap (((16 + m : Nat) : Int) - 2) = ((16 + m - 2 : Nat) : Int) := hj 2 (by decide)
    have f16 : IntKind.i64.wrap (((16 + m : Nat) : Int) - 16) = ((16 + m - 16 : Nat) : Int) := hj 16 (by decide)
    have f7 : IntKind.i64.wrap (((16 + m : Nat) : Int) - 7) = ((16 + m - 7 : Nat) : Int) := hj 7 (by decide)
    have hg : ∀ j, j < 16 + m → (wE (padW (sch b m))).getD (0 + j * 1) E.dflt = eW ((sch b m).getD j 0) := fun j hj => by rw [getW _ (by omega), padW_get _ (by omega)]
    have hk : ∀ j, j < 16 + m → 0 + j * 1 < (Cs.es (wE (padW (sch b m)))).len ∧ D0.isA (.int .u32) ((Cs.es (wE (padW (sch b m)))).at (0 + j * 1)) := fun j hj => okW _ (by omega)
    repeat' (first | refine tr_seq ?_ | refine reg (T := tab) tOk hnt rfl ?_ ?_ | refine regD (T := tab) tOk mixedR hnt rfl (by decide +kernel) ?_ ?_ | refine tr_block ?_ | refine tr_skip ?_)
    · dsimp only [AllP]
      rw [f15, f2, Int.toNat_natCast, Int.toNat_natCast]
      exact ⟨trivial, trivial, hk _ (by omega), ⟨Int.natCast_nonneg _, by omega⟩, rfl, trivial, hk _ (by omega), ⟨Int.natCast_nonneg _, by omega⟩, rfl, trivial⟩
    refine tr_le (s' := St.of [(2, .one (.ptr 2 0 0)), (3, .one (.ptr 3 0 0)), (4, .one (.ptr 4 0 0)), (5, .one (.ptr 5 0 0)), (7, .v (.int .i64 ((16 + m : Nat) : Int))), (8, dW ((sch b m).getD (16 + m - 15) 0)), (9, dW ((sch b m).getD (16 + m - 2) 0)), ((1000000 + 0), .one (.eptr kE))] [(2, ⟨0, .box (.es (hE h)), 0⟩), (3, ⟨0, .box (.es (bE b)), 0⟩), (4, ⟨0, .box (.es (hE hZ)), 0⟩), (5, ⟨0, .box (.es (wE (padW (sch b m)))), 0⟩)]) (le_of (ad := []) ⟨⟨rfl, rfl, rfl, rfl, rfl⟩, ⟨rfl, rfl, rfl, rfl, rfl⟩, ⟨rfl, rfl, rfl, rfl, rfl⟩, ⟨rfl, rfl, rfl, rfl, rfl⟩, rfl, ?_, ?_, rfl, trivial⟩ (memOk_box rfl rfl rfl (memOk_box rfl rfl rfl (memOk_box rfl rfl rfl (memOk_box rfl rfl rfl trivial))))) ?_
    · refine Eq.trans (b := E.as (.int .u32) ((wE (padW (sch b m))).getD (0 + (IntKind.i64.wrap (((16 + m : Nat) : Int) - 15)).toNat * 1) E.dflt)) rfl ?_
      rw [f15, Int.toNat_natCast, hg _ (by omega)]
      rfl
    · refine Eq.trans (b := E.as (.int .u32) ((wE (padW (sch b m))).getD (0 + (IntKind.i64.wrap (((16 + m : Nat) : Int) - 2)).toNat * 1) E.dflt)) rfl ?_
      rw [f2, Int.toNat_natCast, hg _ (by omega)]
      rfl
    generalize hx : (sch b m).getD (16 + m - 15) 0 = x
    generalize hy : (sch b m).getD (16 + m - 2) 0 = y
    repeat' (first | refine tr_seq ?_ | refine tr_block ?_ | refine tr_skip ?_)
    refine tr_region (lex (T := tab) tOk hnt rfl ?_ (call rfl rfl rfl rfl rfl rfl rfl hnt (rotl_fn x (-7) 7 (by decide) (by decide)) (lex (T := tab) tOk hnt rfl ?_ (call rfl rfl rfl rfl rfl rfl rfl hnt (rotl_fn x (-18) 18 (by decide) (by decide)) (lex (T := tab) tOk hnt rfl ?_ (Lex.nil _)))))) ?_
    · (dsimp only [AllP]; (repeat' first | exact trivial | assumption | exact Nat.le_of_ble_eq_true rfl | apply And.intro | intro _ | exact rfl))
    · (dsimp only [AllP]; (repeat' first | exact trivial | assumption | exact Nat.le_of_ble_eq_true rfl | apply And.intro | intro _ | exact rfl))
    · (dsimp only [AllP]; (repeat' first | exact trivial | assumption | exact Nat.le_of_ble_eq_true rfl | apply And.intro | intro _ | exact rfl | decide))
    repeat' (first | refine tr_seq ?_ | refine tr_block ?_ | refine tr_skip ?_)
    refine tr_region (lex (T := tab) tOk hnt rfl ?_ (call rfl rfl rfl rfl rfl rfl rfl hnt (rotl_fn y (-17) 17 (by decide) (by decide)) (lex (T := tab) tOk hnt rfl ?_ (call rfl rfl rfl rfl rfl rfl rfl hnt (rotl_fn y (-19) 19 (by decide) (by decide)) (lex (T := tab) tOk hnt rfl ?_ (Lex.nil _)))))) ?_
    · (dsimp only [AllP]; (repeat' first | exact trivial | assumption | exact Nat.le_of_ble_eq_true rfl | apply And.intro | intro _ | exact rfl))
    · (dsimp only [AllP]; (repeat' first | exact trivial | assumption | exact Nat.le_of_ble_eq_true rfl | apply And.intro | intro _ | exact rfl))
    · (dsimp only [AllP]; (repeat' first | exact trivial | assumption | exact Nat.le_of_ble_eq_true rfl | apply And.intro | intro _ | exact rfl | decide))
    refine tr_le (s' := St.of [(2, .one (.ptr 2 0 0)), (3, .one (.ptr 3 0 0)), (4, .one (.ptr 4 0 0)), (5, .one (.ptr 5 0 0)), (7, .v (.int .i64 ((16 + m : Nat) : Int))), (10, dW (sg0 x)), (11, dW (sg1 y)), ((1000000 + 0), .one (.eptr kE))] [(2, ⟨0, .box (.es (hE h)), 0⟩), (3, ⟨0, .box (.es (bE b)), 0⟩), (4, ⟨0, .box (.es (hE hZ)), 0⟩), (5, ⟨0, .box (.es (wE (padW (sch b m)))), 0⟩)]) (le_of (ad := []) ⟨⟨rfl, rfl, rfl, rfl, rfl⟩, ⟨rfl, rfl, rfl, rfl, rfl⟩, ⟨rfl, rfl, rfl, rfl, rfl⟩, ⟨rfl, rfl, rfl, rfl, rfl⟩, rfl, eWq (sg0V x), eWq (sg1V y), rfl, trivial⟩ (memOk_box rfl rfl rfl (memOk_box rfl rfl rfl (memOk_box rfl rfl rfl (memOk_box rfl rfl rfl trivial))))) ?_
    repeat' (first | refine tr_seq ?_ | refine reg (T := tab) tOk hnt rfl ?_ ?_ | refine regD (T := tab) tOk mixedR hnt rfl (by decide +kernel) ?_ ?_ | refine tr_block ?_ | refine tr_skip ?_)
    · dsimp only [AllP]
      rw [f16, f7, Int.toNat_natCast, Int.toNat_natCast, Int.toNat_natCast]
      exact ⟨⟨rfl, putW _ (by omega), Nat.zero_le _⟩, ⟨Int.natCast_nonneg _, by omega⟩, rfl, trivial, rfl, hk _ (by omega), ⟨Int.natCast_nonneg _, by omega⟩, rfl, trivial, rfl, trivial, hk _ (by omega), ⟨Int.natCast_nonneg _, by omega⟩, rfl, trivial, trivial⟩
    · (dsimp only [AllP]; (repeat' first | exact trivial | assumption | exact Nat.le_of_ble_eq_true rfl | apply And.intro | intro _ | exact rfl))
    refine ⟨m + 1, by omega, by omega, le_of (ad := []) ⟨⟨rfl, rfl, rfl, rfl, rfl⟩, ⟨rfl, rfl, rfl, rfl, rfl⟩, ⟨rfl, rfl, rfl, rfl, rfl⟩, ⟨rfl, rfl, rfl, rfl, rfl⟩, congrArg (fun z : Int => E.v (.int .i64 z)) ?_, rfl, trivial⟩ (memOk_box rfl rfl rfl (memOk_box rfl rfl rfl (memOk_box rfl rfl rfl (memOk_boxE rfl rfl ?_ trivial))))⟩
    · rw [wrap64_id (by omega) (by omega)]
      omega
    rw [f16, f7, Int.toNat_natCast, Int.toNat_natCast, Int.toNat_natCast, hg _ (by omega), hg _ (by omega)]
    have e := pad_step (sch b m) (by omega) (nextW (sch b m))
    rw [hL] at e
    refine Eq.trans ?_ (e.trans (by rw [sch]))
    refine congrArg (fun z : Int => List.take (0 + (16 + m) * 1) (wE (padW (sch b m))) ++ [E.v (.int .u32 z)] ++ List.drop (0 + (16 + m) * 1 + 1) (wE (padW (sch b m)))) ?_
    rw [nextW, hL, hx, hy]
    generalize (sch b m).getD (16 + m - 16) 0 = p
    generalize (sch b m).getD (16 + m - 7) 0 = q
    show wW (wW (wW ((p.toNat : Int) + ((sg0 x).toNat : Int)) + (q.toNat : Int)) + ((sg1 y).toNat : Int)) = _
    unfold wW
    rw [w_add, w_add, w_add]
  have hc := of_decide_eq_false hc
  have hm : m = 48 := by omega
  subst hm
  rw [padW_full _ (sch_len b 48)]
  rw [show comp h b = compW h (sch b 48) from rfl]
  have hwl : (sch b 48).length = 64 := sch_len _ _
  generalize sch b 48 = w at hwl ⊢
  clear hc hL
  refine tr_exit ?_
  repeat' (first | refine tr_seq ?_ | refine reg (T := tab) tOk hnt rfl ?_ ?_ | refine regD (T := tab) tOk mixedR hnt rfl (by decide +kernel) ?_ ?_ | refine tr_block ?_ | refine tr_skip ?_)
  · (dsimp only [AllP]; (repeat' first | exact trivial | assumption | exact Nat.le_of_ble_eq_true rfl | apply And.intro | intro _ | exact rfl | decide))
  · (dsimp only [AllP]; (repeat' first | exact trivial | assumption | exact Nat.le_of_ble_eq_true rfl | apply And.intro | intro _ | exact rfl))
  refine tr_loop (σ := Nat) (fun i => St.of [(2, .one (.ptr 2 0 0)), (3, .one (.ptr 3 0 0)), (4, .one (.ptr 4 0 0)), (5, .one (.ptr 5 0 0)), (12, .one (.ptr 12 0 0)), (99, .v (.int .i64 i)), ((1000000 + 0), .one (.eptr kE))] [(2, ⟨0, .box (.es (hE h)), 0⟩), (3, ⟨0, .box (.es (bE b)), 0⟩), (4, ⟨0, .box (.es (hE hZ)), 0⟩), (5, ⟨0, .box (.es (wE w)), 0⟩), (12, ⟨0, .box (.es (hE (roundsW h w i))), 0⟩)]) (fun i => i ≤ 64) (fun i => 64 - i) 0 (le_of (ad := []) ⟨⟨rfl, rfl, rfl, rfl, rfl⟩, ⟨rfl, rfl, rfl, rfl, rfl⟩, ⟨rfl, rfl, rfl, rfl, rfl⟩, ⟨rfl, rfl, rfl, rfl, rfl⟩, ⟨rfl, rfl, rfl, rfl, rfl⟩, rfl, rfl, trivial⟩ (memOk_box rfl rfl rfl (memOk_box rfl rfl rfl (memOk_box rfl rfl rfl (memOk_box rfl rfl rfl (memOk_box rfl rfl rfl trivial)))))) (Nat.zero_le _) ?_
  intro i hi
  have hv : ∃ v, roundsW h w i = v ∧ Hd (roundsW h w i = v) := ⟨_, rfl, ⟨rfl⟩⟩
  obtain ⟨v, hv1, hv⟩ := hv
  rw [hv1]
  clear hv1
  have hwg := getW w (i := i)
  have hwk := okW w (i := i)
  have hkg := getK (i := i)
  have hkk := okK (i := i)
  rw [hwl] at hwg hwk
  repeat' (first | refine tr_seq ?_ | refine reg (T := tab) tOk hnt rfl ?_ ?_ | refine regD (T := tab) tOk mixedR hnt rfl (by decide +kernel) ?_ ?_ | refine tr_block ?_ | refine tr_skip ?_)
  · (dsimp only [AllP]; (repeat' first | exact trivial | assumption | exact Nat.le_of_ble_eq_true rfl | apply And.intro | intro _ | exact rfl))
  refine tr_cond rfl (fun hc => ?_) (fun hc => ?_)
  · have hc := of_decide_eq_true hc
    have hi64 : i < 64 := by omega
    have hwg := hwg hi64
    have hwk := hwk hi64
    have hkg := hkg hi64
    have hkk := hkk hi64
    repeat' (first | refine tr_seq ?_ | refine reg (T := tab) tOk hnt rfl ?_ ?_ | refine regD (T := tab) tOk mixedR hnt rfl (by decide +kernel) ?_ ?_ | refine tr_block ?_ | refine tr_skip ?_)
    · (dsimp only [AllP]; (repeat' first | exact trivial | assumption | exact Nat.le_of_ble_eq_true rfl | apply And.intro | intro _ | exact rfl))
    · (dsimp only [AllP]; (repeat' first | exact trivial | apply And.intro | exact Nat.le_of_ble_eq_true (by kernel_rfl) | decide | kernel_rfl | exact rfl))
    refine tr_le (s' := St.of [(2, .one (.ptr 2 0 0)), (3, .one (.ptr 3 0 0)), (4, .one (.ptr 4 0 0)), (5, .one (.ptr 5 0 0)), (12, .one (.ptr 12 0 0)), (99, .v (.int .i64 i)), (13, .v (.int .i64 i)), (14, dW v.e), (15, dW v.a), ((1000000 + 0), .one (.eptr kE))] [(2, ⟨0, .box (.es (hE h)), 0⟩), (3, ⟨0, .box (.es (bE b)), 0⟩), (4, ⟨0, .box (.es (hE hZ)), 0⟩), (5, ⟨0, .box (.es (wE w)), 0⟩), (12, ⟨0, .box (.es (hE v)), 0⟩)]) (le_of (ad := []) ⟨⟨rfl, rfl, rfl, rfl, rfl⟩, ⟨rfl, rfl, rfl, rfl, rfl⟩, ⟨rfl, rfl, rfl, rfl, rfl⟩, ⟨rfl, rfl, rfl, rfl, rfl⟩, ⟨rfl, rfl, rfl, rfl, rfl⟩, rfl, rfl, rfl, rfl, rfl, trivial⟩ (memOk_box rfl rfl rfl (memOk_box rfl rfl rfl (memOk_box rfl rfl rfl (memOk_box rfl rfl rfl (memOk_box rfl rfl rfl trivial)))))) ?_
    refine tr_region (lex (T := tab) tOk hnt rfl ?_ (call rfl rfl rfl rfl rfl rfl rfl hnt (rotl_fn v.e (-6) 6 (by decide) (by decide)) (lex (T := tab) tOk hnt rfl ?_ (call rfl rfl rfl rfl rfl rfl rfl hnt (rotl_fn v.e (-11) 11 (by decide) (by decide)) (lex (T := tab) tOk hnt rfl ?_ (call rfl rfl rfl rfl rfl rfl rfl hnt (rotl_fn v.e (-25) 25 (by decide) (by decide)) (lex (T := tab) tOk hnt rfl ?_ (Lex.nil _)))))))) ?_
    · exact trivial
    · exact trivial
    · (dsimp only [AllP]; (repeat' first | exact trivial | apply And.intro | exact Nat.le_of_ble_eq_true (by kernel_rfl) | decide | kernel_rfl | exact rfl))
    · (dsimp only [AllP]; (repeat' first | exact trivial | apply And.intro | exact Nat.le_of_ble_eq_true (by kernel_rfl) | decide | kernel_rfl | exact rfl))
    refine tr_le (s' := St.of [(2, .one (.ptr 2 0 0)), (3, .one (.ptr 3 0 0)), (4, .one (.ptr 4 0 0)), (5, .one (.ptr 5 0 0)), (12, .one (.ptr 12 0 0)), (99, .v (.int .i64 i)), (13, .v (.int .i64 i)), (14, dW v.e), (15, dW v.a), (16, dW (Sg1 v.e)), ((1000000 + 0), .one (.eptr kE))] [(2, ⟨0, .box (.es (hE h)), 0⟩), (3, ⟨0, .box (.es (bE b)), 0⟩), (4, ⟨0, .box (.es (hE hZ)), 0⟩), (5, ⟨0, .box (.es (wE w)), 0⟩), (12, ⟨0, .box (.es (hE v)), 0⟩)]) (le_of (ad := []) ⟨⟨rfl, rfl, rfl, rfl, rfl⟩, ⟨rfl, rfl, rfl, rfl, rfl⟩, ⟨rfl, rfl, rfl, rfl, rfl⟩, ⟨rfl, rfl, rfl, rfl, rfl⟩, ⟨rfl, rfl, rfl, rfl, rfl⟩, rfl, rfl, rfl, rfl, eWq (S1V v.e), rfl, trivial⟩ (memOk_box rfl rfl rfl (memOk_box rfl rfl rfl (memOk_box rfl rfl rfl (memOk_box rfl rfl rfl (memOk_box rfl rfl rfl trivial)))))) ?_
    repeat' (first | refine tr_seq ?_ | refine tr_block ?_ | refine tr_skip ?_)
    refine regD (T := tab) tOk mixedR hnt rfl (by decide +kernel) ?_ ?_
    · dsimp only [AllP]
      rw [Int.toNat_natCast]
      exact ⟨trivial, rfl, hwk, ⟨Int.natCast_nonneg _, by omega⟩, trivial, rfl, hkk, ⟨Int.natCast_nonneg _, by omega⟩, trivial, rfl, rfl, rfl, ⟨Nat.le_of_ble_eq_true rfl, rfl⟩, ⟨by decide, by decide⟩, trivial, trivial, rfl, ⟨Nat.le_of_ble_eq_true rfl, rfl⟩, ⟨by decide, by decide⟩, trivial, rfl, trivial, ⟨Nat.le_of_ble_eq_true rfl, rfl⟩, ⟨by decide, by decide⟩⟩
    rw [Int.toNat_natCast]
    refine tr_le (s' := St.of [(2, .one (.ptr 2 0 0)), (3, .one (.ptr 3 0 0)), (4, .one (.ptr 4 0 0)), (5, .one (.ptr 5 0 0)), (12, .one (.ptr 12 0 0)), (99, .v (.int .i64 i)), (14, dW v.e), (15, dW v.a), (17, dW (v.h + Sg1 v.e + chW v.e v.f v.g + kW.getD i 0 + w.getD i 0)), ((1000000 + 0), .one (.eptr kE))] [(2, ⟨0, .box (.es (hE h)), 0⟩), (3, ⟨0, .box (.es (bE b)), 0⟩), (4, ⟨0, .box (.es (hE hZ)), 0⟩), (5, ⟨0, .box (.es (wE w)), 0⟩), (12, ⟨0, .box (.es (hE v)), 0⟩)]) (le_of (ad := []) ⟨⟨rfl, rfl, rfl, rfl, rfl⟩, ⟨rfl, rfl, rfl, rfl, rfl⟩, ⟨rfl, rfl, rfl, rfl, rfl⟩, ⟨rfl, rfl, rfl, rfl, rfl⟩, ⟨rfl, rfl, rfl, rfl, rfl⟩, rfl, rfl, rfl, ?_, rfl, trivial⟩ (memOk_box rfl rfl rfl (memOk_box rfl rfl rfl (memOk_box rfl rfl rfl (memOk_box rfl rfl rfl (memOk_box rfl rfl rfl trivial)))))) ?_
    · show E.v (.int .u32 (wW (wW (wW (wW ((v.h.toNat : Int) + ((Sg1 v.e).toNat : Int)) + wW (((oW (wW (((oW (v.e.toNat : Int)) &&& (oW (v.f.toNat : Int))).toNat : Int))) ^^^ (oW (wW (((oW (wW (((oW 4294967295) ^^^ (oW (v.e.toNat : Int))).toNat : Int))) &&& (oW (v.g.toNat : Int))).toNat : Int)))).toNat : Int)) + ((kE.drop (i * 1)).getD 0 E.dflt).int) + ((wE w).getD (0 + i * 1) E.dflt).int))) = _
      rw [hkg, hwg]
      exact eWq (tV _ _ _ _ _ _ _)
    repeat' (first | refine tr_seq ?_ | refine tr_block ?_ | refine tr_skip ?_)
    refine tr_region (lex (T := tab) tOk hnt rfl ?_ (call rfl rfl rfl rfl rfl rfl rfl hnt (rotl_fn v.a (-2) 2 (by decide) (by decide)) (lex (T := tab) tOk hnt rfl ?_ (call rfl rfl rfl rfl rfl rfl rfl hnt (rotl_fn v.a (-13) 13 (by decide) (by decide)) (lex (T := tab) tOk hnt rfl ?_ (call rfl rfl rfl rfl rfl rfl rfl hnt (rotl_fn v.a (-22) 22 (by decide) (by decide)) (lex (T := tab) tOk hnt rfl ?_ (Lex.nil _)))))))) ?_
    · exact trivial
    · exact trivial
    · (dsimp only [AllP]; (repeat' first | exact trivial | apply And.intro | exact Nat.le_of_ble_eq_true (by kernel_rfl) | decide | kernel_rfl | exact rfl))
    · (dsimp only [AllP]; (repeat' first | exact trivial | apply And.intro | exact Nat.le_of_ble_eq_true (by kernel_rfl) | decide | kernel_rfl | exact rfl))
    refine tr_le (s' := St.of [(2, .one (.ptr 2 0 0)), (3, .one (.ptr 3 0 0)), (4, .one (.ptr 4 0 0)), (5, .one (.ptr 5 0 0)), (12, .one (.ptr 12 0 0)), (99, .v (.int .i64 i)), (14, dW v.e), (15, dW v.a), (17, dW (v.h + Sg1 v.e + chW v.e v.f v.g + kW.getD i 0 + w.getD i 0)), (18, dW (Sg0 v.a)), ((1000000 + 0), .one (.eptr kE))] [(2, ⟨0, .box (.es (hE h)), 0⟩), (3, ⟨0, .box (.es (bE b)), 0⟩), (4, ⟨0, .box (.es (hE hZ)), 0⟩), (5, ⟨0, .box (.es (wE w)), 0⟩), (12, ⟨0, .box (.es (hE v)), 0⟩)]) (le_of (ad := []) ⟨⟨rfl, rfl, rfl, rfl, rfl⟩, ⟨rfl, rfl, rfl, rfl, rfl⟩, ⟨rfl, rfl, rfl, rfl, rfl⟩, ⟨rfl, rfl, rfl, rfl, rfl⟩, ⟨rfl, rfl, rfl, rfl, rfl⟩, rfl, rfl, rfl, rfl, eWq (S0V v.a), rfl, trivial⟩ (memOk_box rfl rfl rfl (memOk_box rfl rfl rfl (memOk_box rfl rfl rfl (memOk_box rfl rfl rfl (memOk_box rfl rfl rfl trivial)))))) ?_
    repeat' (first | refine tr_seq ?_ | refine tr_block ?_ | refine tr_skip ?_)
    refine reg (T := tab) tOk hnt rfl ?_ ?_
    · (dsimp only [AllP]; (repeat' first | exact trivial | apply And.intro | exact Nat.le_of_ble_eq_true (by kernel_rfl) | decide | kernel_rfl | exact rfl))
    refine tr_le (s' := St.of [(2, .one (.ptr 2 0 0)), (3, .one (.ptr 3 0 0)), (4, .one (.ptr 4 0 0)), (5, .one (.ptr 5 0 0)), (12, .one (.ptr 12 0 0)), (99, .v (.int .i64 i)), (14, dW v.e), (15, dW v.a), (17, dW (v.h + Sg1 v.e + chW v.e v.f v.g + kW.getD i 0 + w.getD i 0)), (18, dW (Sg0 v.a + majW v.a v.b v.c)), ((1000000 + 0), .one (.eptr kE))] [(2, ⟨0, .box (.es (hE h)), 0⟩), (3, ⟨0, .box (.es (bE b)), 0⟩), (4, ⟨0, .box (.es (hE hZ)), 0⟩), (5, ⟨0, .box (.es (wE w)), 0⟩), (12, ⟨0, .box (.es (hE v)), 0⟩)]) (le_of (ad := []) ⟨⟨rfl, rfl, rfl, rfl, rfl⟩, ⟨rfl, rfl, rfl, rfl, rfl⟩, ⟨rfl, rfl, rfl, rfl, rfl⟩, ⟨rfl, rfl, rfl, rfl, rfl⟩, ⟨rfl, rfl, rfl, rfl, rfl⟩, rfl, rfl, rfl, rfl, eWq (uV (Sg0 v.a) v.a v.b v.c), rfl, trivial⟩ (memOk_box rfl rfl rfl (memOk_box rfl rfl rfl (memOk_box rfl rfl rfl (memOk_box rfl rfl rfl (memOk_box rfl rfl rfl trivial)))))) ?_
    repeat' (first | refine tr_seq ?_ | refine reg (T := tab) tOk hnt rfl ?_ ?_ | refine regD (T := tab) tOk mixedR hnt rfl (by decide +kernel) ?_ ?_ | refine tr_block ?_ | refine tr_skip ?_)
    · (dsimp only [AllP]; (repeat' first | exact trivial | apply And.intro | exact Nat.le_of_ble_eq_true (by kernel_rfl) | decide | kernel_rfl | exact rfl))
    · (dsimp only [AllP]; (repeat' first | exact trivial | assumption | exact Nat.le_of_ble_eq_true rfl | apply And.intro | intro _ | exact rfl))
    have hv2 : roundsW h w (i + 1) = roundW v (kW.getD i 0) (w.getD i 0) := by rw [roundsW, hv.out]
    refine ⟨i + 1, hi64, by omega, ?_⟩
    rw [hv2]
    have eb : [E.v (.int .u32 (wW (((v.h + Sg1 v.e + chW v.e v.f v.g + kW.getD i 0 + w.getD i 0).toNat : Int) + ((Sg0 v.a + majW v.a v.b v.c).toNat : Int)))), eW v.a, eW v.b, eW v.c, E.v (.int .u32 (wW ((v.d.toNat : Int) + ((v.h + Sg1 v.e + chW v.e v.f v.g + kW.getD i 0 + w.getD i 0).toNat : Int)))), eW v.e, eW v.f, eW v.g] = hE (roundW v (kW.getD i 0) (w.getD i 0)) := by
      unfold wW
      rw [w_add, w_add]
      rfl
    exact le_of (ad := []) ⟨⟨rfl, rfl, rfl, rfl, rfl⟩, ⟨rfl, rfl, rfl, rfl, rfl⟩, ⟨rfl, rfl, rfl, rfl, rfl⟩, ⟨rfl, rfl, rfl, rfl, rfl⟩, ⟨rfl, rfl, rfl, rfl, rfl⟩, congrArg (fun z : Int => E.v (.int .i64 z)) (wrap64_id (by omega) (by omega)), rfl, trivial⟩ (memOk_box rfl rfl rfl (memOk_box rfl rfl rfl (memOk_box rfl rfl rfl (memOk_box rfl rfl rfl (memOk_boxE rfl rfl (Eq.trans (b := [E.v (.int .u32 (wW (((v.h + Sg1 v.e + chW v.e v.f v.g + kW.getD i 0 + w.getD i 0).toNat : Int) + ((Sg0 v.a + majW v.a v.b v.c).toNat : Int)))), eW v.a, eW v.b, eW v.c, E.v (.int .u32 (wW ((v.d.toNat : Int) + ((v.h + Sg1 v.e + chW v.e v.f v.g + kW.getD i 0 + w.getD i 0).toNat : Int)))), eW v.e, eW v.f, eW v.g]) (by kernel_rfl) eb) trivial)))))
  have hc := of_decide_eq_false hc
  have hi : i = 64 := by omega
  subst hi
  have hvv : Hd (compW h w = v.add h) := ⟨by rw [compW, hv.out]⟩
  clear hc hwg hwk hkg hkk
  refine tr_exit ?_
  repeat' (first | refine tr_seq ?_ | refine reg (T := tab) tOk hnt rfl ?_ ?_ | refine regD (T := tab) tOk mixedR hnt rfl (by decide +kernel) ?_ ?_ | refine tr_block ?_ | refine tr_skip ?_)
  · (dsimp only [AllP]; (repeat' first | exact trivial | assumption | exact Nat.le_of_ble_eq_true rfl | apply And.intro | intro _ | exact rfl))
  refine tr_loop (σ := Nat) (fun i => St.of [(2, .one (.ptr 2 0 0)), (3, .one (.ptr 3 0 0)), (4, .one (.ptr 4 0 0)), (5, .one (.ptr 5 0 0)), (12, .one (.ptr 12 0 0)), (181, .v (.int .i64 i))] [(2, ⟨0, .box (.es (hE h)), 0⟩), (3, ⟨0, .box (.es (bE b)), 0⟩), (4, ⟨0, .box (.es (hE hZ)), 0⟩), (5, ⟨0, .box (.es (wE w)), 0⟩), (12, ⟨0, .box (.es (wE (mixL v.l h.l i))), 0⟩)]) (fun i => i ≤ 8) (fun i => 8 - i) 0 (le_of (ad := []) ⟨⟨rfl, rfl, rfl, rfl, rfl⟩, ⟨rfl, rfl, rfl, rfl, rfl⟩, ⟨rfl, rfl, rfl, rfl, rfl⟩, ⟨rfl, rfl, rfl, rfl, rfl⟩, ⟨rfl, rfl, rfl, rfl, rfl⟩, rfl, trivial⟩ (memOk_box rfl rfl rfl (memOk_box rfl rfl rfl (memOk_box rfl rfl rfl (memOk_box rfl rfl rfl (memOk_boxE rfl rfl rfl trivial)))))) (Nat.zero_le _) ?_
  intro i hi
  have hll : v.l.length = h.l.length := rfl
  repeat' (first | refine tr_seq ?_ | refine reg (T := tab) tOk hnt rfl ?_ ?_ | refine regD (T := tab) tOk mixedR hnt rfl (by decide +kernel) ?_ ?_ | refine tr_block ?_ | refine tr_skip ?_)
  · (dsimp only [AllP]; (repeat' first | exact trivial | assumption | exact Nat.le_of_ble_eq_true rfl | apply And.intro | intro _ | exact rfl))
  refine tr_cond rfl (fun hc => ?_) (fun hc => ?_)
  · have hc := of_decide_eq_true hc
    have hi8 : i < 8 := by omega
    have hiv : i < v.l.length := hi8
    have hml : (mixL v.l h.l i).length = 8 := mix_len v.l h.l hll (Nat.le_of_lt hiv)
    repeat' (first | refine tr_seq ?_ | refine reg (T := tab) tOk hnt rfl ?_ ?_ | refine regD (T := tab) tOk mixedR hnt rfl (by decide +kernel) ?_ ?_ | refine tr_block ?_ | refine tr_skip ?_)
    · exact ⟨trivial, trivial⟩
    · dsimp only [AllP]
      rw [Int.toNat_natCast]
      exact ⟨⟨rfl, putW _ (by omega), Nat.zero_le _⟩, ⟨Int.natCast_nonneg _, by omega⟩, rfl, okW h.l (by omega), ⟨Int.natCast_nonneg _, by omega⟩, trivial, okW _ (by omega), ⟨Int.natCast_nonneg _, by omega⟩, trivial⟩
    · exact ⟨trivial, rfl⟩
    rw [Int.toNat_natCast]
    refine ⟨i + 1, hi8, by omega, le_of (ad := []) ⟨⟨rfl, rfl, rfl, rfl, rfl⟩, ⟨rfl, rfl, rfl, rfl, rfl⟩, ⟨rfl, rfl, rfl, rfl, rfl⟩, ⟨rfl, rfl, rfl, rfl, rfl⟩, ⟨rfl, rfl, rfl, rfl, rfl⟩, congrArg (fun z : Int => E.v (.int .i64 z)) (wrap64_id (by omega) (by omega)), trivial⟩ (memOk_box rfl rfl rfl (memOk_box rfl rfl rfl (memOk_box rfl rfl rfl (memOk_box rfl rfl rfl (memOk_boxE rfl rfl ?_ trivial)))))⟩
    have e := setW (mixL v.l h.l i) (i := i) (by omega) (v.l.getD i 0 + h.l.getD i 0)
    rw [mix_set v.l h.l hll hiv] at e
    refine Eq.trans ?_ e
    refine congrArg (fun z : Int => List.take (0 + i * 1) (wE (mixL v.l h.l i)) ++ [E.v (.int .u32 z)] ++ List.drop (0 + i * 1 + 1) (wE (mixL v.l h.l i))) ?_
    show wW (((wE (mixL v.l h.l i)).getD (0 + i * 1) E.dflt).int + ((wE h.l).getD (0 + i * 1) E.dflt).int) = _
    rw [getW _ (by omega), getW h.l (by omega), mix_get v.l h.l hll hiv]
    exact w_add _ _
  have hc := of_decide_eq_false hc
  have hi : i = 8 := by omega
  subst hi
  rw [hvv.out]
  clear hc hll
  refine tr_exit ?_
  repeat' (first | refine tr_seq ?_ | refine reg (T := tab) tOk hnt rfl ?_ ?_ | refine regD (T := tab) tOk mixedR hnt rfl (by decide +kernel) ?_ ?_ | refine tr_cond rfl (fun _ => ?_) (fun _ => ?_) | refine tr_block ?_ | refine tr_skip ?_ | refine tr_ret ?_ | refine tr_exit ?_)
  · (dsimp only [AllP]; (repeat' first | exact trivial | apply And.intro | exact Nat.le_of_ble_eq_true (by kernel_rfl) | decide | kernel_rfl | exact rfl))
  refine ⟨.inr rfl, _, _, rfl, ⟨Nat.le_of_ble_eq_true (by kernel_rfl), trivial⟩, ?_⟩
  refine Eq.trans (b := D.agg (.es (hE (v.add h)))) (by kernel_rfl) rfl
end Go.Proofs.YtjpmghphkkhcjaaDoor
