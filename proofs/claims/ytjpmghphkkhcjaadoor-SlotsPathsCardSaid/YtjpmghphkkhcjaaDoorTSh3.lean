/- SHA-256 as the document has it: a block is taken in. No condition. -/
import Derived.Test.YtjpmghphkkhcjaaDoorTSh2
namespace Go.Proofs.YtjpmghphkkhcjaaDoor
open Go Go.RowKit Go.Proofs.YtjpmghphkkhcjaaDoor.Ab

def chkK (s : ByteArray) : Bool := Nat.beq s.data.toList.length 512 && (List.range 64).all fun i => decide (hexF ((s.data.toList.take (8 * i + 8)).drop (8 * i)) = kW.getD i 0)
theorem hexK_fn (s : ByteArray) (i : Nat) (hs : chkK s = true) (h : i < 64) : FnD Tryd.prog 96 [.v (.string s), .one (.e (eI i))] (dW (kW.getD i 0)) := by
  unfold chkK at hs
  rw [Bool.and_eq_true] at hs
  have h1 : s.size = 512 := Nat.eq_of_beq_eq_true hs.1
  have h2 := of_decide_eq_true (List.all_eq_true.1 hs.2 i (List.mem_range.2 h))
  have := hexWord_fn s i (by omega) (by omega)
  rw [h2] at this
  exact this
def hE (v : H8) : List E := v.l.map eW
def hZ : H8 := ⟨0, 0, 0, 0, 0, 0, 0, 0⟩
def compW (h : H8) (w : List W) : H8 := (roundsW h w 64).add h
/-- a fact that no tactic is to look into -/
structure Hd (p : Prop) : Prop where
  out : p
theorem tr_le {P : Program} {X : Ctx} {c : Code} {s s' : St} {Q : Exit → St → Prop} (h : Le X s s') (k : Tr P X c s' Q) : Tr P X c s Q := fun a w hR => k a w (h a w hR)
theorem chV (e f g : W) : wW (((oW (wW (((oW (e.toNat : Int)) &&& (oW (f.toNat : Int))).toNat : Int))) ||| (oW (wW (((oW (wW (((oW 4294967295) ^^^ (oW (e.toNat : Int))).toNat : Int))) &&& (oW (g.toNat : Int))).toNat : Int)))).toNat : Int) = ((chW e f g).toNat : Int) := by
  unfold wW oW
  rw [w_and, w_not, w_and, w_or, ch_or]
theorem mostV (a b c : W) : wW (((oW (wW (((oW (wW (((oW (a.toNat : Int)) &&& (oW (b.toNat : Int))).toNat : Int))) ||| (oW (wW (((oW (a.toNat : Int)) &&& (oW (c.toNat : Int))).toNat : Int)))).toNat : Int))) ||| (oW (wW (((oW (b.toNat : Int)) &&& (oW (c.toNat : Int))).toNat : Int)))).toNat : Int) = ((majW a b c).toNat : Int) := by
  unfold wW oW
  rw [w_and, w_and, w_or, w_and, w_or, maj_or]
theorem S1V (e : W) : wW (((oW (wW (((oW ((rotr e 6).toNat : Int)) ^^^ (oW ((rotr e 11).toNat : Int))).toNat : Int))) ^^^ (oW ((rotr e 25).toNat : Int))).toNat : Int) = ((Sg1 e).toNat : Int) := by
  unfold wW oW
  rw [w_xor, w_xor]
  rfl
theorem S0V (e : W) : wW (((oW (wW (((oW ((rotr e 2).toNat : Int)) ^^^ (oW ((rotr e 13).toNat : Int))).toNat : Int))) ^^^ (oW ((rotr e 22).toNat : Int))).toNat : Int) = ((Sg0 e).toNat : Int) := by
  unfold wW oW
  rw [w_xor, w_xor]
  rfl
theorem oneV (x e c k w : W) : wW (wW (wW (wW ((x.toNat : Int) + wW (((oW (wW (((oW ((rotr e 6).toNat : Int)) ^^^ (oW ((rotr e 11).toNat : Int))).toNat : Int))) ^^^ (oW ((rotr e 25).toNat : Int))).toNat : Int)) + (c.toNat : Int)) + (k.toNat : Int)) + (w.toNat : Int)) = ((x + Sg1 e + c + k + w).toNat : Int) := by
  rw [S1V]
  unfold wW
  rw [w_add, w_add, w_add, w_add]
theorem twoV (a m : W) : wW (wW (((oW (wW (((oW ((rotr a 2).toNat : Int)) ^^^ (oW ((rotr a 13).toNat : Int))).toNat : Int))) ^^^ (oW ((rotr a 22).toNat : Int))).toNat : Int) + (m.toNat : Int)) = ((Sg0 a + m).toNat : Int) := by
  rw [S0V]
  exact w_add _ _
theorem addV (x y : W) : wW ((x.toNat : Int) + (y.toNat : Int)) = ((y + x).toNat : Int) := by
  rw [BitVec.add_comm]
  exact w_add _ _
theorem eWq {a b : Int} (h : a = b) : E.v (.int .u32 a) = E.v (.int .u32 b) := by rw [h]
set_option maxRecDepth 10000 in
set_option maxHeartbeats 400000 in
theorem block_fn (h : H8) (s : ByteArray) (h64 : 64 ≤ s.size) (hs : s.size ≤ 1000000000) : FnD Tryd.prog 99 [.agg (.es (hE h)), .v (.string s)] (.agg (.es (hE (comp h s.data.toList)))) := by
  refine fn_intro (T := tab) tOk Tryd.func99 rfl (by kernel_rfl) (by simp [Tryd.ntmps99]) ?_
  intro X hX
  have hnt : X.nt = 135 := hX
  clear hX
  repeat' (first | refine tr_seq ?_ | refine reg (T := tab) tOk hnt rfl ?_ ?_ | refine regD (T := tab) tOk mixedR hnt rfl (by decide +kernel) ?_ ?_ | refine tr_block ?_ | refine tr_skip ?_)
  · (dsimp only [AllP]; (repeat' first | exact trivial | assumption | exact Nat.le_of_ble_eq_true rfl | apply And.intro | intro _ | exact rfl))
  refine tr_region (lex (T := tab) tOk hnt rfl ?_ (call rfl rfl rfl rfl rfl rfl rfl hnt (schedule_fn s h64 hs) (lex (T := tab) tOk hnt rfl ?_ (Lex.nil _)))) ?_
  · (dsimp only [AllP]; (repeat' first | exact trivial | assumption | exact Nat.le_of_ble_eq_true rfl | apply And.intro | intro _ | exact rfl))
  · (dsimp only [AllP]; (repeat' first | exact trivial | assumption | exact Nat.le_of_ble_eq_true rfl | apply And.intro | intro _ | exact rfl))
  repeat' (first | refine tr_seq ?_ | refine reg (T := tab) tOk hnt rfl ?_ ?_ | refine regD (T := tab) tOk mixedR hnt rfl (by decide +kernel) ?_ ?_ | refine tr_block ?_ | refine tr_skip ?_)
  · (dsimp only [AllP]; (repeat' first | exact trivial | assumption | exact Nat.le_of_ble_eq_true rfl | apply And.intro | intro _ | exact rfl | decide))
  · (dsimp only [AllP]; (repeat' first | exact trivial | assumption | exact Nat.le_of_ble_eq_true rfl | apply And.intro | intro _ | exact rfl | decide))
  have hwl : (sch s.data.toList 48).length = 64 := sch_len _ _
  rw [show comp h s.data.toList = compW h (sch s.data.toList 48) from rfl]
  generalize sch s.data.toList 48 = w at hwl ⊢
  have hg : ∀ j, j < 64 → (wCells w).getD j [] = [eW (w.getD j 0)] := fun j hj => wCells_getD _ (by omega)
  refine tr_loop (σ := Nat) (fun i => St.of [(2, .one (.ptr 2 0 0)), (4, .one (.ptr 4 0 0)), (5, .one (.e (eWs w))), (6, dW (roundsW h w i).a), (7, dW (roundsW h w i).b), (8, dW (roundsW h w i).c), (9, dW (roundsW h w i).d), (10, dW (roundsW h w i).e), (11, dW (roundsW h w i).f), (12, dW (roundsW h w i).g), (13, dW (roundsW h w i).h), (14, .v (.int .i64 i))] [(2, ⟨0, .box (.es (hE h)), 0⟩), (4, ⟨0, .box (.es (hE hZ)), 0⟩)]) (fun i => i ≤ 64) (fun i => 64 - i) 0 (le_of (ad := []) ⟨⟨rfl, rfl, rfl, rfl, rfl⟩, ⟨rfl, rfl, rfl, rfl, rfl⟩, rfl, rfl, rfl, rfl, rfl, rfl, rfl, rfl, rfl, rfl, trivial⟩ (memOk_box rfl rfl rfl (memOk_box rfl rfl rfl trivial))) (Nat.zero_le _) ?_
  intro i hi
  have hv : ∃ v, roundsW h w i = v ∧ Hd (roundsW h w i = v) := ⟨_, rfl, ⟨rfl⟩⟩
  obtain ⟨v, hv1, hv⟩ := hv
  rw [hv1]
  clear hv1
  repeat' (first | refine tr_seq ?_ | refine reg (T := tab) tOk hnt rfl ?_ ?_ | refine regD (T := tab) tOk mixedR hnt rfl (by decide +kernel) ?_ ?_ | refine tr_block ?_ | refine tr_skip ?_)
  · (dsimp only [AllP]; (repeat' first | exact trivial | assumption | exact Nat.le_of_ble_eq_true rfl | apply And.intro | intro _ | exact rfl))
  refine tr_cond rfl (fun hc => ?_) (fun hc => ?_)
  · have hc := of_decide_eq_true hc
    have hi64 : i < 64 := by omega
    repeat' (first | refine tr_seq ?_ | refine reg (T := tab) tOk hnt rfl ?_ ?_ | refine regD (T := tab) tOk mixedR hnt rfl (by decide +kernel) ?_ ?_ | refine tr_block ?_ | refine tr_skip ?_)
    · (dsimp only [AllP]; (repeat' first | exact trivial | assumption | exact Nat.le_of_ble_eq_true rfl | apply And.intro | intro _ | exact rfl))
    · (dsimp only [AllP]; (repeat' first | exact trivial | assumption | exact Nat.le_of_ble_eq_true rfl | apply And.intro | intro _ | exact rfl))
    refine tr_le (s' := St.of [(2, .one (.ptr 2 0 0)), (4, .one (.ptr 4 0 0)), (5, .one (.e (eWs w))), (6, dW v.a), (7, dW v.b), (8, dW v.c), (9, dW v.d), (10, dW v.e), (11, dW v.f), (12, dW v.g), (13, dW v.h), (14, .v (.int .i64 i)), (15, dW (chW v.e v.f v.g)), (16, dW (majW v.a v.b v.c))] [(2, ⟨0, .box (.es (hE h)), 0⟩), (4, ⟨0, .box (.es (hE hZ)), 0⟩)]) (le_of (ad := []) ⟨⟨rfl, rfl, rfl, rfl, rfl⟩, ⟨rfl, rfl, rfl, rfl, rfl⟩, rfl, rfl, rfl, rfl, rfl, rfl, rfl, rfl, rfl, rfl, eWq (chV v.e v.f v.g), eWq (mostV v.a v.b v.c), trivial⟩ (memOk_box rfl rfl rfl (memOk_box rfl rfl rfl trivial))) ?_
    refine tr_draw (T := tab) tOk hnt mixedR (lexD (T := tab) rfl ?_ (callD rfl rfl rfl rfl rfl rfl rfl rfl (rot_fn v.e 6 (by decide)) (lexD (T := tab) rfl ?_ (callD rfl rfl rfl rfl rfl rfl rfl rfl (rot_fn v.e 11 (by decide)) (lexD (T := tab) rfl ?_ (callD rfl rfl rfl rfl rfl rfl rfl rfl (rot_fn v.e 25 (by decide)) (lexD (T := tab) rfl ?_ (callD rfl rfl rfl rfl rfl rfl rfl rfl (hexK_fn _ i (by decide +kernel) hi64) (lexD (T := tab) rfl ?_ (.nil _)))))))))) (by decide +kernel) ?_
    · (dsimp only [AllP]; (repeat' first | exact trivial | assumption | exact Nat.le_of_ble_eq_true rfl | apply And.intro | intro _ | exact rfl))
    · (dsimp only [AllP]; (repeat' first | exact trivial | assumption | exact Nat.le_of_ble_eq_true rfl | apply And.intro | intro _ | exact rfl))
    · (dsimp only [AllP]; (repeat' first | exact trivial | assumption | exact Nat.le_of_ble_eq_true rfl | apply And.intro | intro _ | exact rfl))
    · (dsimp only [AllP]; (repeat' first | exact trivial | assumption | exact Nat.le_of_ble_eq_true rfl | apply And.intro | intro _ | exact rfl))
    · dsimp only [AllP]
      rw [Int.toNat_natCast, hg i hi64, wCells_length, hwl]
      exact ⟨trivial, rfl, ⟨Nat.le_of_ble_eq_true rfl, rfl⟩, ⟨Int.natCast_nonneg _, by omega, rfl⟩, trivial, trivial, rfl⟩
    rw [Int.toNat_natCast, hg i hi64]
    refine tr_le (s' := St.of [(2, .one (.ptr 2 0 0)), (4, .one (.ptr 4 0 0)), (5, .one (.e (eWs w))), (6, dW v.a), (7, dW v.b), (8, dW v.c), (9, dW v.d), (10, dW v.e), (11, dW v.f), (12, dW v.g), (13, dW v.h), (14, .v (.int .i64 i)), (16, dW (majW v.a v.b v.c)), (17, dW (v.h + Sg1 v.e + chW v.e v.f v.g + kW.getD i 0 + w.getD i 0))] [(2, ⟨0, .box (.es (hE h)), 0⟩), (4, ⟨0, .box (.es (hE hZ)), 0⟩)]) (le_of (ad := []) ⟨⟨rfl, rfl, rfl, rfl, rfl⟩, ⟨rfl, rfl, rfl, rfl, rfl⟩, rfl, rfl, rfl, rfl, rfl, rfl, rfl, rfl, rfl, rfl, rfl, eWq (oneV v.h v.e (chW v.e v.f v.g) (kW.getD i 0) (w.getD i 0)), trivial⟩ (memOk_box rfl rfl rfl (memOk_box rfl rfl rfl trivial))) ?_
    repeat' (first | refine tr_seq ?_ | refine tr_block ?_ | refine tr_skip ?_)
    refine tr_region (lex (T := tab) tOk hnt rfl ?_ (call rfl rfl rfl rfl rfl rfl rfl hnt (rot_fn v.a 2 (by decide)) (lex (T := tab) tOk hnt rfl ?_ (call rfl rfl rfl rfl rfl rfl rfl hnt (rot_fn v.a 13 (by decide)) (lex (T := tab) tOk hnt rfl ?_ (call rfl rfl rfl rfl rfl rfl rfl hnt (rot_fn v.a 22 (by decide)) (lex (T := tab) tOk hnt rfl ?_ (Lex.nil _)))))))) ?_
    · (dsimp only [AllP]; (repeat' first | exact trivial | assumption | exact Nat.le_of_ble_eq_true rfl | apply And.intro | intro _ | exact rfl))
    · (dsimp only [AllP]; (repeat' first | exact trivial | assumption | exact Nat.le_of_ble_eq_true rfl | apply And.intro | intro _ | exact rfl))
    · (dsimp only [AllP]; (repeat' first | exact trivial | assumption | exact Nat.le_of_ble_eq_true rfl | apply And.intro | intro _ | exact rfl))
    · (dsimp only [AllP]; (repeat' first | exact trivial | assumption | exact Nat.le_of_ble_eq_true rfl | apply And.intro | intro _ | exact rfl))
    refine tr_le (s' := St.of [(2, .one (.ptr 2 0 0)), (4, .one (.ptr 4 0 0)), (5, .one (.e (eWs w))), (6, dW v.a), (7, dW v.b), (8, dW v.c), (9, dW v.d), (10, dW v.e), (11, dW v.f), (12, dW v.g), (13, dW v.h), (14, .v (.int .i64 i)), (17, dW (v.h + Sg1 v.e + chW v.e v.f v.g + kW.getD i 0 + w.getD i 0)), (18, dW (Sg0 v.a + majW v.a v.b v.c))] [(2, ⟨0, .box (.es (hE h)), 0⟩), (4, ⟨0, .box (.es (hE hZ)), 0⟩)]) (le_of (ad := []) ⟨⟨rfl, rfl, rfl, rfl, rfl⟩, ⟨rfl, rfl, rfl, rfl, rfl⟩, rfl, rfl, rfl, rfl, rfl, rfl, rfl, rfl, rfl, rfl, rfl, eWq (twoV v.a (majW v.a v.b v.c)), trivial⟩ (memOk_box rfl rfl rfl (memOk_box rfl rfl rfl trivial))) ?_
    repeat' (first | refine tr_seq ?_ | refine reg (T := tab) tOk hnt rfl ?_ ?_ | refine regD (T := tab) tOk mixedR hnt rfl (by decide +kernel) ?_ ?_ | refine tr_block ?_ | refine tr_skip ?_)
    · (dsimp only [AllP]; (repeat' first | exact trivial | assumption | exact Nat.le_of_ble_eq_true rfl | apply And.intro | intro _ | exact rfl | decide))
    · (dsimp only [AllP]; (repeat' first | exact trivial | assumption | exact Nat.le_of_ble_eq_true rfl | apply And.intro | intro _ | exact rfl))
    have hv2 : roundsW h w (i + 1) = roundW v (kW.getD i 0) (w.getD i 0) := by rw [roundsW, hv.out]
    refine ⟨i + 1, hi64, by omega, ?_⟩
    rw [hv2]
    exact le_of (ad := []) ⟨⟨rfl, rfl, rfl, rfl, rfl⟩, ⟨rfl, rfl, rfl, rfl, rfl⟩, rfl, eWq (w_add _ _), rfl, rfl, rfl, eWq (w_add _ _), rfl, rfl, rfl, congrArg (fun z : Int => E.v (.int .i64 z)) (wrap64_id (by omega) (by omega)), trivial⟩ (memOk_box rfl rfl rfl (memOk_box rfl rfl rfl trivial))
  · have hc := of_decide_eq_false hc
    have hi : i = 64 := by omega
    subst hi
    refine tr_exit ?_
    repeat' (first | refine tr_seq ?_ | refine tr_block ?_ | refine tr_skip ?_)
    refine reg (T := tab) tOk hnt rfl ?_ ?_
    · (dsimp only [AllP]; (repeat' first | exact trivial | apply And.intro | exact Nat.le_of_ble_eq_true (by kernel_rfl) | decide | kernel_rfl | exact rfl))
    refine tr_ret ?_
    refine ⟨.inr rfl, _, _, rfl, ⟨Nat.le_of_ble_eq_true (by kernel_rfl), trivial⟩, ?_⟩
    have e : compW h w = v.add h := by rw [compW, hv.out]
    rw [e]
    refine Eq.trans (b := D.agg (.es [E.v (.int .u32 (wW ((h.a.toNat : Int) + (v.a.toNat : Int)))), E.v (.int .u32 (wW ((h.b.toNat : Int) + (v.b.toNat : Int)))), E.v (.int .u32 (wW ((h.c.toNat : Int) + (v.c.toNat : Int)))), E.v (.int .u32 (wW ((h.d.toNat : Int) + (v.d.toNat : Int)))), E.v (.int .u32 (wW ((h.e.toNat : Int) + (v.e.toNat : Int)))), E.v (.int .u32 (wW ((h.f.toNat : Int) + (v.f.toNat : Int)))), E.v (.int .u32 (wW ((h.g.toNat : Int) + (v.g.toNat : Int)))), E.v (.int .u32 (wW ((h.h.toNat : Int) + (v.h.toNat : Int))))])) (by kernel_rfl) ?_
    rw [addV, addV, addV, addV, addV, addV, addV, addV]
    rfl
end Go.Proofs.YtjpmghphkkhcjaaDoor
