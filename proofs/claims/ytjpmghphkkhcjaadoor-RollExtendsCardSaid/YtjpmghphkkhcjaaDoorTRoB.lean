/- Rolls: one entry's proof, from the bottom up. No condition. -/
import Derived.Test.YtjpmghphkkhcjaaDoorTRoA
namespace Go.Proofs.YtjpmghphkkhcjaaDoor
open Go Go.RowKit Go.Proofs.YtjpmghphkkhcjaaDoor.Ab

theorem oddN (at' : Nat) : decide ((at' : Int).tmod 2 = 1) = decide (at' % 2 = 1) := by
  rw [Int.tmod_eq_emod_of_nonneg (by omega)]
  congr 1
  exact propext ⟨fun h => by omega, fun h => by omega⟩
theorem evenN (at' : Nat) : decide ((at' : Int).tmod 2 = 0) = decide (at' % 2 = 0) := by
  rw [Int.tmod_eq_emod_of_nonneg (by omega)]
  congr 1
  exact propext ⟨fun h => by omega, fun h => by omega⟩
theorem turnB (a l : Nat) : (bif decide ((a : Int).tmod 2 = 1) then true else decide ((a : Int) = (l : Int))) = decide (a % 2 = 1 ∨ a = l) := by
  rw [oddN, orB]
  congr 1
  exact propext (or_congr Iff.rfl ⟨fun h => by omega, fun h => by omega⟩)
theorem goB (a : Nat) : (bif decide ((a : Int).tmod 2 = 0) then decide (0 < (a : Int)) else false) = decide (a % 2 = 0 ∧ 0 < a) := by
  rw [evenN, andB]
  congr 1
  exact propext (and_congr Iff.rfl ⟨fun h => by omega, fun h => by omega⟩)
/-- a digest as it is handed on: none if it failed -/
def okD (r : Byt × Int) : Option Byt := if r.2 = 0 then some r.1 else none
set_option maxRecDepth 10000 in
theorem IncludeFault_fn (mode : Int) (top : Byt) (n i : Int) (entry : Byt) (path : List Byt) : FnD Tryd.prog 18 [.one (.e (eI mode)), .one (.e (eBytes top)), .one (.e (eI n)), .one (.e (eI i)), .one (.e (eBytes entry)), .one (.e (eLists path))] (.one (.e (eI (icF mode top n i entry path)))) := by
  refine FnD.len ⟨_, _, Tryd.func18, rfl, by kernel_rfl⟩ 5 rfl fun hl5 => ?_
  refine fn_intro (T := tab) tOk Tryd.func18 rfl (by kernel_rfl) (by simp [Tryd.ntmps18]) ?_
  intro X hX
  have hnt : X.nt = 112 := hX
  clear hX
  unfold icF
  repeat' (first | refine tr_seq ?_ | refine reg (T := tab) tOk hnt rfl ?_ ?_ | refine regD (T := tab) tOk mixedR hnt rfl (by decide +kernel) ?_ ?_ | refine tr_block ?_ | refine tr_skip ?_)
  · (dsimp only [AllP]; (repeat' first | exact trivial | assumption | exact Nat.le_of_ble_eq_true rfl | apply And.intro | decide | intro _ | exact rfl))
  repeat' (first | refine tr_seq ?_ | refine tr_block ?_ | refine tr_skip ?_)
  refine tr_region (lex (T := tab) tOk hnt rfl ?_ (call rfl rfl rfl rfl rfl rfl rfl hnt (badMode_fn mode) (lex (T := tab) tOk hnt rfl ?_ (Lex.nil _)))) ?_
  · (dsimp only [AllP]; (repeat' first | exact trivial | assumption | exact Nat.le_of_ble_eq_true rfl | apply And.intro | decide | intro _ | exact rfl))
  · (dsimp only [AllP]; (repeat' first | exact trivial | assumption | exact Nat.le_of_ble_eq_true rfl | apply And.intro | decide | intro _ | exact rfl))
  repeat' (first | refine tr_seq ?_ | refine tr_block ?_ | refine tr_skip ?_)
  refine tr_cond rfl (fun hc => ?_) (fun hc => ?_)
  · have hc := of_decide_eq_true hc
    rw [if_pos hc]
    repeat' (first | refine tr_seq ?_ | refine reg (T := tab) tOk hnt rfl ?_ ?_ | refine regD (T := tab) tOk mixedR hnt rfl (by decide +kernel) ?_ ?_ | refine tr_block ?_ | refine tr_skip ?_)
    · (dsimp only [AllP]; (repeat' first | exact trivial | assumption | exact Nat.le_of_ble_eq_true rfl | apply And.intro | decide | intro _ | exact rfl))
    exact tr_ret ⟨.inr rfl, _, _, rfl, trivial, rfl⟩
  have hc := of_decide_eq_false hc
  rw [if_neg hc]
  repeat' (first | refine tr_seq ?_ | refine reg (T := tab) tOk hnt rfl ?_ ?_ | refine regD (T := tab) tOk mixedR hnt rfl (by decide +kernel) ?_ ?_ | refine tr_block ?_ | refine tr_skip ?_)
  · (dsimp only [AllP]; (repeat' first | exact trivial | assumption | exact Nat.le_of_ble_eq_true rfl | apply And.intro | decide | intro _ | exact rfl))
  repeat' (first | refine tr_seq ?_ | refine tr_block ?_ | refine tr_skip ?_)
  refine tr_cond rfl (fun hc => ?_) (fun hc => ?_)
  · have hc := of_decide_eq_true ((orB _ _).symm.trans hc)
    rw [if_pos hc]
    repeat' (first | refine tr_seq ?_ | refine reg (T := tab) tOk hnt rfl ?_ ?_ | refine regD (T := tab) tOk mixedR hnt rfl (by decide +kernel) ?_ ?_ | refine tr_block ?_ | refine tr_skip ?_)
    · (dsimp only [AllP]; (repeat' first | exact trivial | assumption | exact Nat.le_of_ble_eq_true rfl | apply And.intro | decide | intro _ | exact rfl))
    exact tr_ret ⟨.inr rfl, _, _, rfl, trivial, rfl⟩
  have hc := of_decide_eq_false ((orB _ _).symm.trans hc)
  rw [if_neg hc]
  repeat' (first | refine tr_seq ?_ | refine reg (T := tab) tOk hnt rfl ?_ ?_ | refine regD (T := tab) tOk mixedR hnt rfl (by decide +kernel) ?_ ?_ | refine tr_block ?_ | refine tr_skip ?_)
  · (dsimp only [AllP]; (repeat' first | exact trivial | assumption | exact Nat.le_of_ble_eq_true rfl | apply And.intro | decide | intro _ | exact rfl))
  repeat' (first | refine tr_seq ?_ | refine tr_block ?_ | refine tr_skip ?_)
  refine tr_cond rfl (fun hc => ?_) (fun hc => ?_)
  · have hc := of_decide_eq_true ((orB _ _).symm.trans hc)
    rw [if_pos hc]
    repeat' (first | refine tr_seq ?_ | refine reg (T := tab) tOk hnt rfl ?_ ?_ | refine regD (T := tab) tOk mixedR hnt rfl (by decide +kernel) ?_ ?_ | refine tr_block ?_ | refine tr_skip ?_)
    · (dsimp only [AllP]; (repeat' first | exact trivial | assumption | exact Nat.le_of_ble_eq_true rfl | apply And.intro | decide | intro _ | exact rfl))
    exact tr_ret ⟨.inr rfl, _, _, rfl, trivial, rfl⟩
  have hc2 := of_decide_eq_false ((orB _ _).symm.trans hc)
  rw [if_neg hc2]
  obtain ⟨i, rfl⟩ : ∃ m : Nat, i = (m : Int) := ⟨i.toNat, by omega⟩
  obtain ⟨n, rfl⟩ : ∃ m : Nat, n = (m : Int) := ⟨n.toNat, by omega⟩
  rw [Int.toNat_natCast, Int.toNat_natCast]
  rw [show (eO mode entry).bind (upS (pO mode) (shB 7 i (n - 1)) path) = (okD (dgF mode 5 [entry])).bind (upS (pO mode) (shB 7 i (n - 1)) path) from rfl]
  repeat' (first | refine tr_seq ?_ | refine tr_block ?_ | refine tr_skip ?_)
  refine tr_region (lex (T := tab) tOk hnt rfl ?_ (callU rfl rfl rfl rfl rfl rfl rfl hnt (DigestOf_fn mode 5 [entry]) (lex (T := tab) tOk hnt rfl ?_ (Lex.nil _)))) ?_
  · (dsimp only [AllP]; (repeat' first | exact trivial | assumption | exact Nat.le_of_ble_eq_true rfl | apply And.intro | decide | intro _ | exact rfl))
  · (dsimp only [AllP]; (repeat' first | exact trivial | assumption | exact Nat.le_of_ble_eq_true rfl | apply And.intro | decide | intro _ | exact rfl))
  generalize dgF mode 5 [entry] = r at *
  obtain ⟨d, e⟩ := r
  generalize hR : endC ((okD (d, e)).bind (upS (pO mode) (shB 7 i (n - 1)) path)) top = R
  have hpl := lsLen path
  rw [hpl] at hl5
  have hml : path.length ≤ 9223372036854775807 := hl5
  have w1 : IntKind.i64.wrap ((n : Int) - 1) = ((n - 1 : Nat) : Int) := by
    rw [wrap64_id (by omega) (by omega)]
    omega
  repeat' (first | refine tr_seq ?_ | refine reg (T := tab) tOk hnt rfl ?_ ?_ | refine regD (T := tab) tOk mixedR hnt rfl (by decide +kernel) ?_ ?_ | refine tr_block ?_ | refine tr_skip ?_)
  · (dsimp only [AllP]; (repeat' first | exact trivial | assumption | exact Nat.le_of_ble_eq_true rfl | apply And.intro | decide | intro _ | exact rfl))
  · (dsimp only [AllP]; (repeat' first | exact trivial | assumption | exact Nat.le_of_ble_eq_true rfl | apply And.intro | decide | intro _ | exact rfl))
  rw [w1]
  repeat' (first | refine tr_seq ?_ | refine tr_block ?_ | refine tr_skip ?_)
  refine tr_loop (σ := Nat × Nat × Nat × Nat × Byt × Int) (fun x => St.of [(0, .one (.e (eI mode))), (1, .one (.e (eBytes top))), (13, .one (.e (eBytes x.2.2.2.2.1))), (14, .one (.e (eI x.2.2.2.2.2))), (15, .one (.e (eI (x.2.2.1 : Int)))), (16, .one (.e (eI (x.2.2.2.1 : Int)))), (47, .one (.e (eLists path))), (48, .v (.int .i64 ((path.map fun p => [eBytes p]).length : Nat))), (49, .v (.int .i64 (x.1 : Int)))] []) (fun x => endC ((okD (x.2.2.2.2.1, x.2.2.2.2.2)).bind (upS (pO mode) (shB x.2.1 x.2.2.1 x.2.2.2.1) (path.drop x.1))) top = R ∧ x.1 ≤ path.length ∧ x.2.2.1 ≤ 63 ∧ x.2.2.2.1 < 2 ^ x.2.1 ∧ x.2.1 ≤ 7 ∧ x.2.2.2.1 ≤ 63) (fun x => path.length - x.1) ((0, 7, i, n - 1, d, e)) (le_of (ad := []) (by refine ⟨?_, ?_, ?_, ?_, ?_, ?_, ?_, ?_, ?_, trivial⟩ <;> first | exact trivial | rfl | exact ⟨rfl, rfl⟩ | exact ⟨rfl, rfl, rfl⟩ | exact ⟨rfl, rfl, rfl, rfl⟩ | exact ⟨rfl, rfl, rfl, rfl, rfl⟩ | exact congrArg (fun z : Int => E.v (.int .i64 z)) (wrap64_id (by omega) (by omega))) trivial) ⟨hR, Nat.zero_le _, by dsimp only; omega, by dsimp only; omega, by dsimp only; omega, by dsimp only; omega⟩ ?_
  rintro ⟨j, f, a0, l0, d, e⟩ ⟨h1, h2, h3, h4, h5, h6⟩
  dsimp only at h1 h2 h3 h4 h5 h6 ⊢
  repeat' (first | refine tr_seq ?_ | refine reg (T := tab) tOk hnt rfl ?_ ?_ | refine regD (T := tab) tOk mixedR hnt rfl (by decide +kernel) ?_ ?_ | refine tr_block ?_ | refine tr_skip ?_)
  · (dsimp only [AllP]; (repeat' first | exact trivial | assumption | exact Nat.le_of_ble_eq_true rfl | apply And.intro | decide | intro _ | exact rfl))
  repeat' (first | refine tr_seq ?_ | refine tr_block ?_ | refine tr_skip ?_)
  refine tr_cond rfl (fun hc => ?_) (fun hc => ?_)
  · have hc : (j : Int) < ((path.map fun p => [eBytes p]).length : Int) := of_decide_eq_true hc
    have hjl : j < path.length := by omega
    rw [List.drop_eq_getElem_cons hjl] at h1
    repeat' (first | refine tr_seq ?_ | refine reg (T := tab) tOk hnt rfl ?_ ?_ | refine regD (T := tab) tOk mixedR hnt rfl (by decide +kernel) ?_ ?_ | refine tr_block ?_ | refine tr_skip ?_)
    · rw [Int.toNat_natCast, lsGet path hjl]
      (dsimp only [AllP]; (repeat' first | exact trivial | assumption | exact Nat.le_of_ble_eq_true rfl | apply And.intro | exact eCells_len1 _ _ ‹_› | exact eCells_isByte _ _ ‹_› | intro _ | exact rfl | omega))
    · (dsimp only [AllP]; (repeat' first | exact trivial | assumption | exact Nat.le_of_ble_eq_true rfl | apply And.intro | decide | intro _ | exact rfl))
    rw [Int.toNat_natCast, lsGet path hjl, show path.getD j [] = path[j] by simp [List.getD, hjl]]
    generalize path[j] = p at *
    repeat' (first | refine tr_seq ?_ | refine tr_block ?_ | refine tr_skip ?_)
    refine tr_cond rfl (fun hc => ?_) (fun hc => ?_)
    · have hc : e ≠ 0 ∨ l0 = 0 := by
        by_cases he : e = 0
        · right
          rw [he] at hc
          have hc : decide ((l0 : Int) = 0) = true := hc
          have := of_decide_eq_true hc
          omega
        · exact .inl he
      have hR0 : R = 10 := by
        rw [← h1]
        rcases hc with hc | hc
        · rw [okD, if_neg hc]
          rfl
        · rw [hc, shB_zero]
          cases okD (d, e) <;> rfl
      rw [hR0]
      repeat' (first | refine tr_seq ?_ | refine reg (T := tab) tOk hnt rfl ?_ ?_ | refine regD (T := tab) tOk mixedR hnt rfl (by decide +kernel) ?_ ?_ | refine tr_block ?_ | refine tr_skip ?_)
      · (dsimp only [AllP]; (repeat' first | exact trivial | assumption | exact Nat.le_of_ble_eq_true rfl | apply And.intro | decide | intro _ | exact rfl))
      exact tr_ret ⟨.inr rfl, _, _, rfl, trivial, rfl⟩
    have hc : e = 0 ∧ ¬ l0 = 0 := by
      by_cases he : e = 0
      · rw [he] at hc
        have hc : decide ((l0 : Int) = 0) = false := hc
        have := of_decide_eq_false hc
        exact ⟨he, by omega⟩
      · rw [decide_eq_false he] at hc
        exact nomatch hc
    obtain ⟨rfl, hl0⟩ := hc
    obtain ⟨f, rfl⟩ : ∃ g, f = g + 1 := by
      cases f with
      | zero => exact absurd h4 (by rw [Nat.pow_zero]; omega)
      | succ g => exact ⟨g, rfl⟩
    rw [okD, if_pos rfl] at h1
    have h1 : endC (upS (pO mode) (shB (f + 1) a0 l0) (p :: path.drop (j + 1)) d) top = R := h1
    rw [shB, if_neg hl0] at h1
    repeat' (first | refine tr_seq ?_ | refine reg (T := tab) tOk hnt rfl ?_ ?_ | refine regD (T := tab) tOk mixedR hnt rfl (by decide +kernel) ?_ ?_ | refine tr_block ?_ | refine tr_skip ?_)
    · (dsimp only [AllP]; (repeat' first | exact trivial | assumption | exact Nat.le_of_ble_eq_true rfl | apply And.intro | decide | intro _ | exact rfl))
    repeat' (first | refine tr_seq ?_ | refine tr_block ?_ | refine tr_skip ?_)
    refine tr_cond rfl (fun hc => ?_) (fun hc => ?_)
    · have hc := of_decide_eq_true ((turnB a0 l0).symm.trans hc)
      rw [if_pos hc] at h1
      have h1 : endC ((okD (dgF mode 6 [p, d])).bind (upS (pO mode) (shB f ((strip 6 a0 l0).1 / 2) ((strip 6 a0 l0).2 / 2)) (path.drop (j + 1)))) top = R := h1
      repeat' (first | refine tr_seq ?_ | refine tr_block ?_ | refine tr_skip ?_)
      refine tr_region (lex (T := tab) tOk hnt rfl ?_ (callU rfl rfl rfl rfl rfl rfl rfl hnt (DigestOf_fn mode 6 [p, d]) (lex (T := tab) tOk hnt rfl ?_ (Lex.nil _)))) ?_
      · (dsimp only [AllP]; (repeat' first | exact trivial | assumption | exact Nat.le_of_ble_eq_true rfl | apply And.intro | decide | intro _ | exact rfl))
      · (dsimp only [AllP]; (repeat' first | exact trivial | assumption | exact Nat.le_of_ble_eq_true rfl | apply And.intro | decide | intro _ | exact rfl))
      generalize dgF mode 6 [p, d] = r at *
      repeat' (first | refine tr_seq ?_ | refine tr_block ?_ | refine tr_skip ?_)
      refine tr_loop (σ := Nat × Nat × Nat) (fun x => St.of [(0, .one (.e (eI mode))), (1, .one (.e (eBytes top))), (13, .one (.e (eBytes r.1))), (14, .one (.e (eI r.2))), (15, .one (.e (eI (x.1 : Int)))), (16, .one (.e (eI (x.2.1 : Int)))), (47, .one (.e (eLists path))), (48, .v (.int .i64 ((path.map fun p => [eBytes p]).length : Nat))), (49, .v (.int .i64 (j : Int)))] []) (fun x => strip x.2.2 x.1 x.2.1 = strip 6 a0 l0 ∧ x.1 < 2 ^ x.2.2 ∧ x.1 ≤ 63 ∧ x.2.1 ≤ l0) (fun x => x.1) ((a0, l0, 6)) (le_of (ad := []) (by refine ⟨?_, ?_, ?_, ?_, ?_, ?_, ?_, ?_, ?_, trivial⟩ <;> first | exact trivial | rfl | exact ⟨rfl, rfl⟩ | exact ⟨rfl, rfl, rfl⟩ | exact ⟨rfl, rfl, rfl, rfl⟩ | exact ⟨rfl, rfl, rfl, rfl, rfl⟩ | exact congrArg (fun z : Int => E.v (.int .i64 z)) (wrap64_id (by omega) (by omega))) trivial) ⟨rfl, by dsimp only; omega, h3, Nat.le_refl _⟩ ?_
      rintro ⟨a1, l1, g⟩ ⟨g1, g2, g3, g4⟩
      dsimp only at g1 g2 g3 g4 ⊢
      repeat' (first | refine tr_seq ?_ | refine reg (T := tab) tOk hnt rfl ?_ ?_ | refine regD (T := tab) tOk mixedR hnt rfl (by decide +kernel) ?_ ?_ | refine tr_block ?_ | refine tr_skip ?_)
      · (dsimp only [AllP]; (repeat' first | exact trivial | assumption | exact Nat.le_of_ble_eq_true rfl | apply And.intro | decide | intro _ | exact rfl))
      repeat' (first | refine tr_seq ?_ | refine tr_block ?_ | refine tr_skip ?_)
      refine tr_cond rfl (fun hc => ?_) (fun hc => ?_)
      · have hc := of_decide_eq_true ((goB a1).symm.trans hc)
        obtain ⟨g, rfl⟩ : ∃ q, g = q + 1 := by
          cases g with
          | zero => exact absurd g2 (by rw [Nat.pow_zero]; omega)
          | succ q => exact ⟨q, rfl⟩
        rw [strip, if_pos hc] at g1
        rw [Nat.pow_succ] at g2
        repeat' (first | refine tr_seq ?_ | refine reg (T := tab) tOk hnt rfl ?_ ?_ | refine regD (T := tab) tOk mixedR hnt rfl (by decide +kernel) ?_ ?_ | refine tr_block ?_ | refine tr_skip ?_)
        · (dsimp only [AllP]; (repeat' first | exact trivial | assumption | exact Nat.le_of_ble_eq_true rfl | apply And.intro | decide | intro _ | exact rfl))
        have hw1 := half_tdiv a1 (by omega)
        have hw2 := half_tdiv l1 (by omega)
        exact ⟨(a1 / 2, l1 / 2, g), ⟨g1, by dsimp only; omega, by dsimp only; omega, by dsimp only; omega⟩, by dsimp only; omega, le_of (ad := []) ⟨rfl, rfl, rfl, rfl, congrArg (fun z : Int => E.v (.int .i64 z)) hw1, congrArg (fun z : Int => E.v (.int .i64 z)) hw2, rfl, rfl, rfl, trivial⟩ trivial⟩
      have hc := of_decide_eq_false ((goB a1).symm.trans hc)
      rw [strip_end g a1 l1 hc] at g1
      rw [← g1] at h1
      refine tr_exit ?_
      repeat' (first | refine tr_seq ?_ | refine reg (T := tab) tOk hnt rfl ?_ ?_ | refine regD (T := tab) tOk mixedR hnt rfl (by decide +kernel) ?_ ?_ | refine tr_block ?_ | refine tr_skip ?_)
      · (dsimp only [AllP]; (repeat' first | exact trivial | assumption | exact Nat.le_of_ble_eq_true rfl | apply And.intro | decide | intro _ | exact rfl))
      · (dsimp only [AllP]; (repeat' first | exact trivial | assumption | exact Nat.le_of_ble_eq_true rfl | apply And.intro | decide | intro _ | exact rfl))
      have hw1 := half_tdiv a1 (by omega)
      have hw2 := half_tdiv l1 (by omega)
      refine ⟨(j + 1, f, a1 / 2, l1 / 2, r.1, r.2), ⟨?_, by dsimp only; omega, by dsimp only; omega, by dsimp only; rw [Nat.pow_succ] at h4; omega, by dsimp only; omega, by dsimp only; omega⟩, by dsimp only; omega, le_of (ad := []) ⟨rfl, rfl, rfl, rfl, congrArg (fun z : Int => E.v (.int .i64 z)) hw1, congrArg (fun z : Int => E.v (.int .i64 z)) hw2, rfl, rfl, congrArg (fun z : Int => E.v (.int .i64 z)) (wrap64_id (by omega) (by omega)), trivial⟩ trivial⟩
      exact h1
    have hc := of_decide_eq_false ((turnB a0 l0).symm.trans hc)
    rw [if_neg hc] at h1
    have h1 : endC ((okD (dgF mode 6 [d, p])).bind (upS (pO mode) (shB f (a0 / 2) (l0 / 2)) (path.drop (j + 1)))) top = R := h1
    repeat' (first | refine tr_seq ?_ | refine tr_block ?_ | refine tr_skip ?_)
    refine tr_region (lex (T := tab) tOk hnt rfl ?_ (callU rfl rfl rfl rfl rfl rfl rfl hnt (DigestOf_fn mode 6 [d, p]) (lex (T := tab) tOk hnt rfl ?_ (Lex.nil _)))) ?_
    · (dsimp only [AllP]; (repeat' first | exact trivial | assumption | exact Nat.le_of_ble_eq_true rfl | apply And.intro | decide | intro _ | exact rfl))
    · (dsimp only [AllP]; (repeat' first | exact trivial | assumption | exact Nat.le_of_ble_eq_true rfl | apply And.intro | decide | intro _ | exact rfl))
    generalize dgF mode 6 [d, p] = r at *
    obtain ⟨a1, ha1⟩ : ∃ a1, a1 = a0 := ⟨a0, rfl⟩
    obtain ⟨l1, hl1⟩ : ∃ l1, l1 = l0 := ⟨l0, rfl⟩
    subst ha1
    subst hl1
    repeat' (first | refine tr_seq ?_ | refine reg (T := tab) tOk hnt rfl ?_ ?_ | refine regD (T := tab) tOk mixedR hnt rfl (by decide +kernel) ?_ ?_ | refine tr_block ?_ | refine tr_skip ?_)
    · (dsimp only [AllP]; (repeat' first | exact trivial | assumption | exact Nat.le_of_ble_eq_true rfl | apply And.intro | decide | intro _ | exact rfl))
    · (dsimp only [AllP]; (repeat' first | exact trivial | assumption | exact Nat.le_of_ble_eq_true rfl | apply And.intro | decide | intro _ | exact rfl))
    have hw1 := half_tdiv a1 (by omega)
    have hw2 := half_tdiv l1 (by omega)
    refine ⟨(j + 1, f, a1 / 2, l1 / 2, r.1, r.2), ⟨?_, by dsimp only; omega, by dsimp only; omega, by dsimp only; rw [Nat.pow_succ] at h4; omega, by dsimp only; omega, by dsimp only; omega⟩, by dsimp only; omega, le_of (ad := []) ⟨rfl, rfl, rfl, rfl, congrArg (fun z : Int => E.v (.int .i64 z)) hw1, congrArg (fun z : Int => E.v (.int .i64 z)) hw2, rfl, rfl, congrArg (fun z : Int => E.v (.int .i64 z)) (wrap64_id (by omega) (by omega)), trivial⟩ trivial⟩
    exact h1
  have hc : ¬ (j : Int) < ((path.map fun p => [eBytes p]).length : Int) := of_decide_eq_false hc
  have hjl : j = path.length := by omega
  subst hjl
  rw [List.drop_length] at h1
  refine tr_exit ?_
  have hb : ∀ cs ∈ eCells d, isByte cs := eCells_isByte _
  have hb2 : ∀ cs ∈ eCells top, isByte cs := eCells_isByte _
  repeat' (first | refine tr_seq ?_ | refine reg (T := tab) tOk hnt rfl ?_ ?_ | refine regD (T := tab) tOk mixedR hnt rfl (by decide +kernel) ?_ ?_ | refine tr_block ?_ | refine tr_skip ?_)
  · (dsimp only [AllP]; (repeat' first | exact trivial | assumption | exact Nat.le_of_ble_eq_true rfl | apply And.intro | exact eCells_len1 _ _ ‹_› | exact eCells_isByte _ _ ‹_› | intro _ | exact rfl | omega))
  have hRR : R = if e = 0 ∧ l0 = 0 ∧ d = top then 0 else 10 := by
    rw [← h1]
    by_cases he : e = 0
    · subst he
      rw [okD, if_pos rfl]
      by_cases hl : l0 = 0
      · subst hl
        rw [shB_zero]
        show (if d = top then (0 : Int) else 10) = _
        simp
      · rw [if_neg (by simp [hl])]
        cases f with
        | zero => exact absurd h4 (by rw [Nat.pow_zero]; omega)
        | succ f =>
          rw [shB, if_neg hl]
          by_cases ht : a0 % 2 = 1 ∨ a0 = l0
          · rw [if_pos ht]; rfl
          · rw [if_neg ht]; rfl
    · rw [okD, if_neg he, if_neg (by simp [he])]
      rfl
  have hcc : (bif (bif !decide (e = 0) then true else !decide ((l0 : Int) = 0)) then true else !strEq (bytesOf (eCells d)) (bytesOf (eCells top))) = !decide (e = 0 ∧ l0 = 0 ∧ d = top) := by
    rw [strNe_B]
    by_cases he : e = 0 <;> by_cases hl : l0 = 0 <;> simp [he, hl]
  repeat' (first | refine tr_seq ?_ | refine tr_block ?_ | refine tr_skip ?_)
  refine tr_cond rfl (fun hc => ?_) (fun hc => ?_)
  · have hc := hcc.symm.trans hc
    rw [if_neg (of_decide_eq_false ((Bool.not_eq_true' _).mp hc))] at hRR
    subst hRR
    repeat' (first | refine tr_seq ?_ | refine reg (T := tab) tOk hnt rfl ?_ ?_ | refine regD (T := tab) tOk mixedR hnt rfl (by decide +kernel) ?_ ?_ | refine tr_block ?_ | refine tr_skip ?_)
    · (dsimp only [AllP]; (repeat' first | exact trivial | assumption | exact Nat.le_of_ble_eq_true rfl | apply And.intro | decide | intro _ | exact rfl))
    exact tr_ret ⟨.inr rfl, _, _, rfl, trivial, rfl⟩
  have hc := hcc.symm.trans hc
  rw [if_pos (by simpa using hc)] at hRR
  subst hRR
  repeat' (first | refine tr_seq ?_ | refine reg (T := tab) tOk hnt rfl ?_ ?_ | refine regD (T := tab) tOk mixedR hnt rfl (by decide +kernel) ?_ ?_ | refine tr_block ?_ | refine tr_skip ?_)
  · (dsimp only [AllP]; (repeat' first | exact trivial | assumption | exact Nat.le_of_ble_eq_true rfl | apply And.intro | decide | intro _ | exact rfl))
  exact tr_ret ⟨.inr rfl, _, _, rfl, trivial, rfl⟩
set_option maxRecDepth 10000 in
theorem includeChecks_fn (mode : Int) (top : Byt) (n i : Int) (entry : Byt) (path : List Byt) : FnG Tryd.prog 4 gK [.one (.e (eI mode)), .one (.e (eBytes top)), .one (.e (eI n)), .one (.e (eI i)), .one (.e (eBytes entry)), .one (.e (eLists path))] (.v (.bool true)) := by
  refine fn_introG (T := tab) tOk Tryd.func4 rfl (by kernel_rfl) (by simp [Tryd.ntmps4]) ?_
  intro X hX
  have hnt : X.nt = 32 := hX
  clear hX
  have h1 := CheckInclude_fn mode top n i entry path
  have h2 := IncludeFault_fn mode top n i entry path
  generalize icF mode top n i entry path = r at *
  repeat' (first | refine tr_seq ?_ | refine reg (T := tab) tOk hnt rfl ?_ ?_ | refine regD (T := tab) tOk mixedR hnt rfl (by decide +kernel) ?_ ?_ | refine tr_block ?_ | refine tr_skip ?_)
  · (dsimp only [AllP]; (repeat' first | exact trivial | assumption | exact Nat.le_of_ble_eq_true rfl | apply And.intro | decide | intro _ | exact rfl))
  repeat' (first | refine tr_seq ?_ | refine tr_block ?_ | refine tr_skip ?_)
  refine tr_region (lex (T := tab) tOk hnt rfl ?_ (callV rfl rfl rfl rfl rfl rfl rfl hnt rfl (h1) (lex (T := tab) tOk hnt rfl ?_ (Lex.nil _)))) ?_
  · (dsimp only [AllP]; (repeat' first | exact trivial | assumption | exact Nat.le_of_ble_eq_true rfl | apply And.intro | decide | intro _ | exact rfl))
  · (dsimp only [AllP]; (repeat' first | exact trivial | assumption | exact Nat.le_of_ble_eq_true rfl | apply And.intro | decide | intro _ | exact rfl))
  repeat' (first | refine tr_seq ?_ | refine tr_block ?_ | refine tr_skip ?_)
  refine tr_region (lex (T := tab) tOk hnt rfl ?_ (call rfl rfl rfl rfl rfl rfl rfl hnt (h2) (lex (T := tab) tOk hnt rfl ?_ (Lex.nil _)))) ?_
  · (dsimp only [AllP]; (repeat' first | exact trivial | assumption | exact Nat.le_of_ble_eq_true rfl | apply And.intro | decide | intro _ | exact rfl))
  · (dsimp only [AllP]; (repeat' first | exact trivial | assumption | exact Nat.le_of_ble_eq_true rfl | apply And.intro | decide | intro _ | exact rfl))
  repeat' (first | refine tr_seq ?_ | refine reg (T := tab) tOk hnt rfl ?_ ?_ | refine regD (T := tab) tOk mixedR hnt rfl (by decide +kernel) ?_ ?_ | refine tr_block ?_ | refine tr_skip ?_)
  · (dsimp only [AllP]; (repeat' first | exact trivial | assumption | exact Nat.le_of_ble_eq_true rfl | apply And.intro | decide | intro _ | exact rfl))
  refine tr_ret ⟨.inr rfl, _, _, rfl, by trivial, ?_⟩
  simp
  rfl
end Go.Proofs.YtjpmghphkkhcjaaDoor
