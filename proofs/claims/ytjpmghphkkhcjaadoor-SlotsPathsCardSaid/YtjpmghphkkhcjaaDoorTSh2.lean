/- SHA-256 as the document has it: the schedule of a block, a block. No condition. -/
import Derived.Test.YtjpmghphkkhcjaaDoorTSh1
namespace Go.Proofs.YtjpmghphkkhcjaaDoor
open Go Go.RowKit Go.Proofs.YtjpmghphkkhcjaaDoor.Ab

def wCells (l : List W) : List (List E) := l.map fun w => [eW w]
def eWs (l : List W) : E := .sl (wCells l)
theorem wCells_length (l : List W) : (wCells l).length = l.length := by simp [wCells]
theorem wCells_getD (l : List W) {i : Nat} (h : i < l.length) : (wCells l).getD i [] = [eW (l.getD i 0)] := by
  simp [wCells, h]
theorem four (l : List UInt8) (k : Nat) (h : 4 * k + 4 ≤ l.length) : (l.take (4 * k + 4)).drop (4 * k) = [l.getD (4 * k) 0, l.getD (4 * k + 1) 0, l.getD (4 * k + 2) 0, l.getD (4 * k + 3) 0] := by
  apply List.ext_getElem
  · simp
    omega
  · intro i h1 h2
    have h2 : i < 4 := by simpa using h2
    rcases (show i = 0 ∨ i = 1 ∨ i = 2 ∨ i = 3 by omega) with rfl | rfl | rfl | rfl <;> simp [List.getD] <;> rw [List.getElem?_eq_getElem (by omega)] <;> rfl
theorem numF_word (l : List UInt8) (k : Nat) (h : 4 * k + 4 ≤ l.length) : IntKind.u32.wrap ((numF ((l.take (4 * k + 4)).drop (4 * k)) : Nat) : Int) = ((word4 l k).toNat : Int) := by
  rw [four l k h, w_wrap, BitVec.ofInt_natCast]
  unfold word4 wordW
  generalize l.getD (4 * k) 0 = a
  generalize l.getD (4 * k + 1) 0 = b
  generalize l.getD (4 * k + 2) 0 = c
  generalize l.getD (4 * k + 3) 0 = d
  have ha := a.toNat_lt
  have hb := b.toNat_lt
  have hc := c.toNat_lt
  have hd := d.toNat_lt
  have : numF [a, b, c, d] = a.toNat * 16777216 + b.toNat * 65536 + c.toNat * 256 + d.toNat := by
    unfold numF
    simp only [List.foldl_cons, List.foldl_nil]
    omega
  rw [this]
theorem words_succ (b : List UInt8) (n : Nat) : words b (n + 1) = words b n ++ [word4 b n] := by
  simp [words, List.range_succ]
theorem words_len (b : List UInt8) (n : Nat) : (words b n).length = n := by simp [words]
theorem wCells_app (l : List W) (w : W) : wCells l ++ [[eW w]] = wCells (l ++ [w]) := by simp [wCells]
abbrev oW (n : Int) : BitVec IntKind.u32.bits := BitVec.ofInt IntKind.u32.bits n
abbrev wW (n : Int) : Int := IntKind.u32.wrap n
theorem sg0V (x : W) : wW (((oW (wW (((oW ((rotr x 7).toNat : Int)) ^^^ (oW ((rotr x 18).toNat : Int))).toNat : Int))) ^^^ (oW (Int.fdiv (x.toNat : Int) (2 ^ min (Int.toNat 3) IntKind.u32.bits)))).toNat : Int) = ((sg0 x).toNat : Int) := by
  unfold wW oW
  rw [show min (Int.toNat 3) IntKind.u32.bits = 3 from rfl, w_shr, w_xor, w_xor]
  rfl
theorem sg1V (x : W) : wW (((oW (wW (((oW ((rotr x 17).toNat : Int)) ^^^ (oW ((rotr x 19).toNat : Int))).toNat : Int))) ^^^ (oW (Int.fdiv (x.toNat : Int) (2 ^ min (Int.toNat 10) IntKind.u32.bits)))).toNat : Int) = ((sg1 x).toNat : Int) := by
  unfold wW oW
  rw [show min (Int.toNat 10) IntKind.u32.bits = 10 from rfl, w_shr, w_xor, w_xor]
  rfl
theorem schV (a b x y : W) : wW (wW (wW ((a.toNat : Int) + (b.toNat : Int)) + wW (((oW (wW (((oW ((rotr x 7).toNat : Int)) ^^^ (oW ((rotr x 18).toNat : Int))).toNat : Int))) ^^^ (oW (Int.fdiv (x.toNat : Int) (2 ^ min (Int.toNat 3) IntKind.u32.bits)))).toNat : Int)) +
    wW (((oW (wW (((oW ((rotr y 17).toNat : Int)) ^^^ (oW ((rotr y 19).toNat : Int))).toNat : Int))) ^^^ (oW (Int.fdiv (y.toNat : Int) (2 ^ min (Int.toNat 10) IntKind.u32.bits)))).toNat : Int)) = ((a + sg0 x + b + sg1 y).toNat : Int) := by
  rw [sg0V, sg1V]
  unfold wW
  rw [w_add, w_add, w_add, BitVec.add_assoc a b, BitVec.add_comm b, ← BitVec.add_assoc]
theorem roomW (l : List W) (xs : List (List E)) (hx : xs.length = 1) (h : l.length ≤ 1000) : (wCells l).length + xs.length ≤ maxLen ∧ ((wCells l).length + xs.length) * 4 ≤ 140737488355328 := by
  rw [wCells_length, hx, maxLen]
  omega
set_option maxRecDepth 10000 in
theorem schedule_fn (s : ByteArray) (h : 64 ≤ s.size) (hs : s.size ≤ 1000000000) : FnD Tryd.prog 101 [.v (.string s)] (.one (.e (eWs (sch s.data.toList 48)))) := by
  refine fn_intro (T := tab) tOk Tryd.func101 rfl (by kernel_rfl) (by simp [Tryd.ntmps101]) ?_
  intro X hX
  have hnt : X.nt = 72 := hX
  clear hX
  have hsz : s.data.toList.length = s.size := rfl
  repeat' (first | refine tr_seq ?_ | refine reg (T := tab) tOk hnt rfl ?_ ?_ | refine regD (T := tab) tOk mixedR hnt rfl (by decide +kernel) ?_ ?_ | refine tr_block ?_ | refine tr_skip ?_)
  · (dsimp only [AllP]; (repeat' first | exact trivial | assumption | exact Nat.le_of_ble_eq_true rfl | apply And.intro | intro _ | exact rfl))
  · (dsimp only [AllP]; (repeat' first | exact trivial | assumption | exact Nat.le_of_ble_eq_true rfl | apply And.intro | intro _ | exact rfl))
  · (dsimp only [AllP]; (repeat' first | exact trivial | assumption | exact Nat.le_of_ble_eq_true rfl | apply And.intro | intro _ | exact rfl))
  refine tr_loop (σ := Nat) (fun k => St.of [(0, .v (.string s)), (3, .one (.own 23 0)), (4, .v (.int .i64 k))] [(23, ⟨0, .row 1 (wCells (words s.data.toList k)), 0⟩)]) (fun k => k ≤ 16) (fun k => 16 - k) 0 (le_of (ad := [23]) ⟨rfl, ⟨rfl, rfl⟩, rfl, trivial⟩ (memOk_new rfl (by decide) trivial)) (Nat.zero_le _) ?_
  intro k hk
  repeat' (first | refine tr_seq ?_ | refine reg (T := tab) tOk hnt rfl ?_ ?_ | refine regD (T := tab) tOk mixedR hnt rfl (by decide +kernel) ?_ ?_ | refine tr_block ?_ | refine tr_skip ?_)
  · (dsimp only [AllP]; (repeat' first | exact trivial | assumption | exact Nat.le_of_ble_eq_true rfl | apply And.intro | intro _ | exact rfl))
  refine tr_cond rfl (fun h => ?_) (fun h => ?_)
  · have h := of_decide_eq_true h
    have hk16 : k < 16 := by omega
    repeat' (first | refine tr_seq ?_ | refine tr_block ?_ | refine tr_skip ?_)
    have e1 : IntKind.i64.wrap (4 * (k : Int)) = ((4 * k : Nat) : Int) := by rw [wrap64_id (by omega) (by omega)]; omega
    have e2 : IntKind.i64.wrap (((4 * k : Nat) : Int) + 4) = ((4 * k + 4 : Nat) : Int) := by rw [wrap64_id (by omega) (by omega)]; omega
    have e3 : (s.extract (4 * k) (4 * k + 4)).data.toList = (s.data.toList.take (4 * k + 4)).drop (4 * k) := ext_list _ _ _
    have e4 := numF_word s.data.toList k (by omega)
    rw [← e3] at e4
    refine tr_region (lex (T := tab) tOk hnt rfl ?_ (call rfl rfl rfl rfl rfl rfl rfl hnt (num_fn _ ?_) (lex (T := tab) tOk hnt rfl ?_ (Lex.nil _)))) ?_
    · dsimp only [AllP]
      rw [e1, e2]
      exact ⟨⟨Int.natCast_nonneg _, by omega, by omega⟩, rfl, rfl, trivial, rfl, trivial, trivial, trivial⟩
    · rw [e1, e2, Int.toNat_natCast, Int.toNat_natCast]
      simp
      omega
    · exact ⟨trivial, ⟨trivial, roomW _ _ rfl (by rw [words_len]; omega)⟩, ⟨⟨rfl, trivial⟩, by decide, by decide⟩, trivial⟩
    rw [e1, e2, Int.toNat_natCast, Int.toNat_natCast, e4]
    repeat' (first | refine tr_seq ?_ | refine reg (T := tab) tOk hnt rfl ?_ ?_ | refine regD (T := tab) tOk mixedR hnt rfl (by decide +kernel) ?_ ?_ | refine tr_block ?_ | refine tr_skip ?_)
    · (dsimp only [AllP]; (repeat' first | exact trivial | assumption | exact Nat.le_of_ble_eq_true rfl | apply And.intro | intro _ | exact rfl))
    refine ⟨k + 1, by omega, by omega, le_of (ad := []) ⟨rfl, ⟨rfl, rfl, rfl, rfl⟩, congrArg (fun z : Int => E.v (.int .i64 z)) (wrap64_id (by omega) (by omega)), trivial⟩ (memOk_row rfl rfl ?_ trivial)⟩
    rw [words_succ, ← wCells_app]
    rfl
  have h := of_decide_eq_false h
  have hk : k = 16 := by omega
  subst hk
  refine tr_exit ?_
  repeat' (first | refine tr_seq ?_ | refine tr_block ?_ | refine tr_skip ?_)
  refine tr_loop (σ := Nat) (fun m => St.of [(3, .one (.own 23 0))] [(23, ⟨0, .row 1 (wCells (sch s.data.toList m)), 0⟩)]) (fun m => m ≤ 48) (fun m => 48 - m) 0 (le_of (ad := []) ⟨⟨rfl, rfl, rfl, rfl⟩, trivial⟩ (memOk_row rfl rfl rfl trivial)) (Nat.zero_le _) ?_
  intro m hm
  have hL : (wCells (sch s.data.toList m)).length = 16 + m := by rw [wCells_length, sch_len]
  repeat' (first | refine tr_seq ?_ | refine reg (T := tab) tOk hnt rfl ?_ ?_ | refine regD (T := tab) tOk mixedR hnt rfl (by decide +kernel) ?_ ?_ | refine tr_block ?_ | refine tr_skip ?_)
  · (dsimp only [AllP]; (repeat' first | exact trivial | assumption | exact Nat.le_of_ble_eq_true rfl | apply And.intro | intro _ | exact rfl))
  rw [hL]
  refine tr_cond rfl (fun h => ?_) (fun h => ?_)
  · have h := of_decide_eq_true h
    have hm48 : m < 48 := by omega
    have hj : ∀ j : Nat, j ≤ 16 → IntKind.i64.wrap (((16 + m : Nat) : Int) - (j : Int)) = ((16 + m - j : Nat) : Int) := fun j hj => by rw [wrap64_id (by omega) (by omega)]; omega
    have f15 : IntKind.i64.wrap (((16 + m : Nat) : Int) - 15) = ((16 + m - 15 : Nat) : Int) := hj 15 (by decide)
    have f2 : IntKind.i64.wrap (((16 + m : Nat) : Int) - 2) = ((16 + m - 2 : Nat) : Int) := hj 2 (by decide)
    have f16 : IntKind.i64.wrap (((16 + m : Nat) : Int) - 16) = ((16 + m - 16 : Nat) : Int) := hj 16 (by decide)
    have f7 : IntKind.i64.wrap (((16 + m : Nat) : Int) - 7) = ((16 + m - 7 : Nat) : Int) := hj 7 (by decide)
    have hg : ∀ j, j < 16 + m → (wCells (sch s.data.toList m)).getD j [] = [eW ((sch s.data.toList m).getD j 0)] := fun j hj => wCells_getD _ (by rw [sch_len]; exact hj)
    repeat' (first | refine tr_seq ?_ | refine tr_block ?_ | refine tr_skip ?_)
    refine reg (T := tab) tOk hnt rfl (by (dsimp only [AllP]; (repeat' first | exact trivial | assumption | exact Nat.le_of_ble_eq_true rfl | apply And.intro | intro _ | exact rfl))) ?_
    rw [hL]
    repeat' (first | refine tr_seq ?_ | refine tr_block ?_ | refine tr_skip ?_)
    refine regD (T := tab) tOk mixedR hnt rfl (by decide +kernel) ?_ ?_
    · rw [f15, f2, Int.toNat_natCast, Int.toNat_natCast, hg _ (by omega), hg _ (by omega), hL]
      exact ⟨trivial, trivial, ⟨Nat.le_of_ble_eq_true rfl, rfl⟩, ⟨Int.natCast_nonneg _, by omega⟩, rfl, trivial, trivial, ⟨Nat.le_of_ble_eq_true rfl, rfl⟩, ⟨Int.natCast_nonneg _, by omega⟩, rfl, trivial, trivial⟩
    rw [f15, f2, Int.toNat_natCast, Int.toNat_natCast, hg _ (by omega), hg _ (by omega)]
    refine tr_draw (T := tab) tOk hnt mixedR (lexD (T := tab) rfl ?_ (callD rfl rfl rfl rfl rfl rfl rfl rfl (rot_fn ((sch s.data.toList m).getD (16 + m - 15) 0) 7 (by decide)) (lexD (T := tab) rfl ?_ (callD rfl rfl rfl rfl rfl rfl rfl rfl (rot_fn ((sch s.data.toList m).getD (16 + m - 15) 0) 18 (by decide)) (lexD (T := tab) rfl ?_ (callD rfl rfl rfl rfl rfl rfl rfl rfl (rot_fn ((sch s.data.toList m).getD (16 + m - 2) 0) 17 (by decide)) (lexD (T := tab) rfl ?_ (callD rfl rfl rfl rfl rfl rfl rfl rfl (rot_fn ((sch s.data.toList m).getD (16 + m - 2) 0) 19 (by decide)) (lexD (T := tab) rfl ?_ (.nil _)))))))))) (by decide +kernel) ?_
    · dsimp only [AllP]
      rw [f16, f7, Int.toNat_natCast, Int.toNat_natCast, hg _ (by omega), hg _ (by omega), hL]
      exact ⟨trivial, rfl, ⟨Nat.le_of_ble_eq_true rfl, rfl⟩, ⟨Int.natCast_nonneg _, by omega⟩, rfl, trivial, trivial, ⟨Nat.le_of_ble_eq_true rfl, rfl⟩, ⟨Int.natCast_nonneg _, by omega⟩, rfl, trivial, trivial, trivial⟩
    · exact trivial
    · exact ⟨trivial, rfl, rfl, (show (0 : Int) ≤ 3 by decide), trivial, rfl⟩
    · exact trivial
    · refine ⟨trivial, ⟨trivial, roomW _ _ rfl (by rw [sch_len]; omega)⟩, ⟨⟨rfl, trivial⟩, by decide, by decide⟩, ?_⟩
      exact ⟨rfl, rfl, (show (0 : Int) ≤ 10 by decide), trivial, rfl⟩
    rw [f16, f7, Int.toNat_natCast, Int.toNat_natCast, hg _ (by omega), hg _ (by omega)]
    refine ⟨m + 1, by omega, by omega, le_of (ad := []) ⟨⟨rfl, rfl, rfl, rfl⟩, trivial⟩ (memOk_row rfl rfl ?_ trivial)⟩
    rw [sch, ← wCells_app, nextW, sch_len, ]
    refine congrArg (fun z : Int => wCells (sch s.data.toList m) ++ [[E.v (.int .u32 z)]]) ?_
    exact schV _ _ _ _
  have h := of_decide_eq_false h
  have hm : m = 48 := by omega
  subst hm
  refine tr_exit ?_
  repeat' (first | refine tr_seq ?_ | refine reg (T := tab) tOk hnt rfl ?_ ?_ | refine regD (T := tab) tOk mixedR hnt rfl (by decide +kernel) ?_ ?_ | refine tr_cond rfl (fun _ => ?_) (fun _ => ?_) | refine tr_block ?_ | refine tr_skip ?_ | refine tr_ret ?_ | refine tr_exit ?_)
  · (dsimp only [AllP]; (repeat' first | exact trivial | assumption | exact Nat.le_of_ble_eq_true rfl | apply And.intro | intro _ | exact rfl))
  exact ⟨.inr rfl, _, _, rfl, by trivial, rfl⟩
end Go.Proofs.YtjpmghphkkhcjaaDoor
