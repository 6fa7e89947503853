/- Rolls: two heads and their proof, from the bottom up. No condition. -/
import Derived.Test.YtjpmghphkkhcjaaDoorTRoC
namespace Go.Proofs.YtjpmghphkkhcjaaDoor
open Go Go.RowKit Go.Proofs.YtjpmghphkkhcjaaDoor.Ab

def okE (w : Byt) (e : Int) (b : Byt) (e' : Int) : Option (Byt × Byt) := if e = 0 ∧ e' = 0 then some (w, b) else none
theorem endE_two (o : Option (Byt × Byt)) (old top : Byt) : endE o old top = 0 ∨ endE o old top = 10 := by
  cases o with
  | none => exact .inr rfl
  | some x =>
    show (if x.1 = old ∧ x.2 = top then (0 : Int) else 10) = 0 ∨ (if x.1 = old ∧ x.2 = top then (0 : Int) else 10) = 10
    by_cases h : x.1 = old ∧ x.2 = top <;> simp [h]
theorem stX_t (mode : Int) (p w b : Byt) : stX (pO mode) true p (w, b) = okE (dgF mode 6 [p, w]).1 (dgF mode 6 [p, w]).2 (dgF mode 6 [p, b]).1 (dgF mode 6 [p, b]).2 := by
  show (dO mode 6 [p, w]).bind (fun a => (dO mode 6 [p, b]).map fun c => (a, c)) = _
  unfold dO okE
  generalize dgF mode 6 [p, w] = q
  generalize dgF mode 6 [p, b] = q'
  by_cases h : q.2 = 0 <;> by_cases h' : q'.2 = 0 <;> simp [h, h']
theorem stX_f (mode : Int) (p w b : Byt) : stX (pO mode) false p (w, b) = okE w 0 (dgF mode 6 [b, p]).1 (dgF mode 6 [b, p]).2 := by
  show ((dO mode 6 [b, p]).map fun c => (w, c)) = _
  unfold dO okE
  generalize dgF mode 6 [b, p] = q'
  by_cases h' : q'.2 = 0 <;> simp [h']
set_option maxRecDepth 10000 in
theorem extended_fn (mode : Int) (old : Byt) (m : Nat) (top : Byt) (n : Nat) (path : List Byt) (hm1 : 1 ≤ m) (hmn : m < n) (hn : n ≤ 64) (hpl : path.length ≤ 2000000) : FnD Tryd.prog 61 [.one (.e (eI mode)), .one (.e (eBytes old)), .one (.e (eI (m : Int))), .one (.e (eBytes top)), .one (.e (eI (n : Int))), .one (.e (eLists path))] (.v (.bool (decide (endE (exO (pO mode) old (shE 64 m n true).1 (shE 64 m n true).2 path) old top = 0)))) := by
  refine fn_intro (T := tab) tOk Tryd.func61 rfl (by kernel_rfl) (by simp [Tryd.ntmps61]) ?_
  intro X hX
  have hnt : X.nt = 136 := hX
  clear hX
  have hll := lsLen path
  rw [(shE_shB hn hm1 hmn).1, (shE_shB hn hm1 hmn).2]
  have w1 : IntKind.i64.wrap ((n : Int) - 1) = ((n - 1 : Nat) : Int) := by
    rw [wrap64_id (by omega) (by omega)]
    omega
  have w2 : IntKind.i64.wrap ((m : Int) - 1) = ((m - 1 : Nat) : Int) := by
    rw [wrap64_id (by omega) (by omega)]
    omega
  repeat' (first | refine tr_seq ?_ | refine reg (T := tab) tOk hnt rfl ?_ ?_ | refine regD (T := tab) tOk mixedR hnt rfl (by decide +kernel) ?_ ?_ | refine tr_block ?_ | refine tr_skip ?_)
  · (dsimp only [AllP]; (repeat' first | exact trivial | assumption | exact Nat.le_of_ble_eq_true rfl | apply And.intro | decide | intro _ | exact rfl))
  · (dsimp only [AllP]; (repeat' first | exact trivial | assumption | exact Nat.le_of_ble_eq_true rfl | apply And.intro | decide | intro _ | exact rfl))
  rw [w1, w2]
  repeat' (first | refine tr_seq ?_ | refine tr_block ?_ | refine tr_skip ?_)
  refine tr_loop (σ := Nat × Nat × Nat) (fun x => St.of [(0, .one (.e (eI mode))), (1, .one (.e (eBytes old))), (3, .one (.e (eBytes top))), (5, .one (.e (eLists path))), (13, .one (.e (eI (x.1 : Int)))), (14, .one (.e (eI (x.2.1 : Int))))] []) (fun x => ostr x.2.2 x.1 x.2.1 = ostr 7 (m - 1) (n - 1) ∧ x.1 < 2 ^ x.2.2 ∧ x.1 ≤ 63 ∧ x.2.1 ≤ 63) (fun x => x.1) ((m - 1, n - 1, 7)) (le_of (ad := []) (by refine ⟨?_, ?_, ?_, ?_, ?_, ?_, trivial⟩ <;> first | exact trivial | rfl | exact ⟨rfl, rfl⟩ | exact ⟨rfl, rfl, rfl⟩ | exact ⟨rfl, rfl, rfl, rfl⟩ | exact ⟨rfl, rfl, rfl, rfl, rfl⟩ | exact congrArg (fun z : Int => E.v (.int .i64 z)) (wrap64_id (by omega) (by omega))) trivial) ⟨rfl, by dsimp only; omega, by dsimp only; omega, by dsimp only; omega⟩ ?_
  rintro ⟨a, l, g⟩ ⟨g1, g2, g3, g4⟩
  dsimp only at g1 g2 g3 g4 ⊢
  repeat' (first | refine tr_seq ?_ | refine reg (T := tab) tOk hnt rfl ?_ ?_ | refine regD (T := tab) tOk mixedR hnt rfl (by decide +kernel) ?_ ?_ | refine tr_block ?_ | refine tr_skip ?_)
  · (dsimp only [AllP]; (repeat' first | exact trivial | assumption | exact Nat.le_of_ble_eq_true rfl | apply And.intro | decide | intro _ | exact rfl))
  repeat' (first | refine tr_seq ?_ | refine tr_block ?_ | refine tr_skip ?_)
  refine tr_cond rfl (fun hc => ?_) (fun hc => ?_)
  · have hc := of_decide_eq_true ((oddN a).symm.trans hc)
    obtain ⟨g, rfl⟩ : ∃ q, g = q + 1 := by
      cases g with
      | zero => exact absurd g2 (by rw [Nat.pow_zero]; omega)
      | succ q => exact ⟨q, rfl⟩
    rw [ostr, if_pos hc] at g1
    rw [Nat.pow_succ] at g2
    repeat' (first | refine tr_seq ?_ | refine reg (T := tab) tOk hnt rfl ?_ ?_ | refine regD (T := tab) tOk mixedR hnt rfl (by decide +kernel) ?_ ?_ | refine tr_block ?_ | refine tr_skip ?_)
    · (dsimp only [AllP]; (repeat' first | exact trivial | assumption | exact Nat.le_of_ble_eq_true rfl | apply And.intro | decide | intro _ | exact rfl))
    have hw1 := half_tdiv a (by omega)
    have hw2 := half_tdiv l (by omega)
    exact ⟨(a / 2, l / 2, g), ⟨g1, by dsimp only; omega, by dsimp only; omega, by dsimp only; omega⟩, by dsimp only; omega, le_of (ad := []) ⟨rfl, rfl, rfl, rfl, congrArg (fun z : Int => E.v (.int .i64 z)) hw1, congrArg (fun z : Int => E.v (.int .i64 z)) hw2, trivial⟩ trivial⟩
  have hc := of_decide_eq_false ((oddN a).symm.trans hc)
  rw [ostr_end g a l hc] at g1
  rw [← g1]
  refine tr_exit ?_
  repeat' (first | refine tr_seq ?_ | refine reg (T := tab) tOk hnt rfl ?_ ?_ | refine regD (T := tab) tOk mixedR hnt rfl (by decide +kernel) ?_ ?_ | refine tr_block ?_ | refine tr_skip ?_)
  · (dsimp only [AllP]; (repeat' first | exact trivial | assumption | exact Nat.le_of_ble_eq_true rfl | apply And.intro | decide | intro _ | exact rfl))
  repeat' (first | refine tr_seq ?_ | refine tr_block ?_ | refine tr_skip ?_)
  refine tr_cond rfl (fun hc => ?_) (fun hc => ?_)
  · have hc : (a : Int) = 0 := of_decide_eq_true hc
    have ha : a = 0 := by omega
    rw [show exO (pO mode) old (decide ((a, l).1 = 0)) (shB 7 (a, l).1 (a, l).2) path = exS (pO mode) (shB 7 a l) path (old, old) by rw [show decide ((a, l).1 = 0) = true from decide_eq_true ha]; rfl]
    have q1 := lsOne path
    have q2 : [[E.sl (eCells old)]].length + (List.map (fun p => [eBytes p]) path).length ≤ 2000001 := by
      rw [hll, List.length_singleton]
      omega
    have q3 : (([[E.sl (eCells old)]] ++ List.map (fun p => [eBytes p]) path).length : Int) = (path.length : Int) + 1 := by
      simp
    have q4 : [[E.sl (eCells old)]].length + (List.map (fun p => [eBytes p]) path).length ≤ maxLen := Nat.le_trans q2 (by decide)
    have q5 : ([[E.sl (eCells old)]].length + (List.map (fun p => [eBytes p]) path).length) * 24 ≤ 140737488355328 := Nat.le_trans (Nat.mul_le_mul_right 24 q2) (by decide)
    have q6 : ∀ cs ∈ [[E.sl (eCells old)]] ++ List.map (fun p => [eBytes p]) path, cs.length = 1 := fun cs h => by
      rcases List.mem_append.1 h with h | h
      · rw [List.mem_singleton.1 h]
        rfl
      · exact q1 cs h
    repeat' (first | refine tr_seq ?_ | refine reg (T := tab) tOk hnt rfl ?_ ?_ | refine regD (T := tab) tOk mixedR hnt rfl (by decide +kernel) ?_ ?_ | refine tr_block ?_ | refine tr_skip ?_)
    · (dsimp only [AllP]; (repeat' first | exact trivial | assumption | exact Nat.le_of_ble_eq_true rfl | apply And.intro | exact eCells_len1 _ _ ‹_› | exact eCells_isByte _ _ ‹_› | intro _ | exact rfl | omega | exact Nat.le_trans (Nat.add_le_add_right q2 1) (by decide) | exact Nat.le_trans (Nat.mul_le_mul_right _ (Nat.add_le_add_right q2 1)) (by decide) | exact Nat.le_trans (Nat.add_le_add_left q2 0) (by decide) | exact Nat.le_trans (Nat.mul_le_mul_right _ (Nat.add_le_add_left q2 0)) (by decide)))
    · (dsimp only [AllP]; (repeat' first | exact trivial | assumption | exact Nat.le_of_ble_eq_true rfl | apply And.intro | decide | intro _ | exact rfl))
    refine tr_cond rfl (fun h => absurd (of_decide_eq_true h) (by omega)) (fun _ => ?_)
    repeat' (first | refine tr_seq ?_ | refine reg (T := tab) tOk hnt rfl ?_ ?_ | refine regD (T := tab) tOk mixedR hnt rfl (by decide +kernel) ?_ ?_ | refine tr_block ?_ | refine tr_skip ?_)
    · (dsimp only [AllP]; (repeat' first | exact trivial | assumption | exact Nat.le_of_ble_eq_true rfl | apply And.intro | exact eCells_len1 _ _ ‹_› | exact eCells_isByte _ _ ‹_› | intro _ | exact rfl | omega))
    · (dsimp only [AllP]; (repeat' first | exact trivial | assumption | exact Nat.le_of_ble_eq_true rfl | apply And.intro | exact eCells_len1 _ _ ‹_› | exact eCells_isByte _ _ ‹_› | intro _ | exact rfl | omega))
    · (dsimp only [AllP]; (repeat' first | exact trivial | assumption | exact Nat.le_of_ble_eq_true rfl | apply And.intro | exact eCells_len1 _ _ ‹_› | exact eCells_isByte _ _ ‹_› | intro _ | exact rfl | omega))
    have q7 : List.take ((([[E.sl (eCells old)]] ++ List.map (fun p => [eBytes p]) path).length : Int).toNat - Int.toNat 1) (List.drop (Int.toNat 1) ([[E.sl (eCells old)]] ++ List.map (fun p => [eBytes p]) path)) = List.map (fun p => [eBytes p]) path := by
      rw [q3]
      have : ((path.length : Int) + 1).toNat - Int.toNat 1 = path.length := by omega
      rw [this, ← hll]
      exact List.take_length
    rw [q7]
    clear q1 q2 q3 q4 q5 q6 q7
    have hrl := lsLen path
    generalize hR : endE (exS (pO mode) (shB 7 a l) path (old, old)) old top = R
    repeat' (first | refine tr_seq ?_ | refine tr_block ?_ | refine tr_skip ?_)
    refine tr_loop (σ := Nat × Nat × Nat × Nat × Byt × Byt × Int × Int) (fun x => St.of [(0, .one (.e (eI mode))), (1, .one (.e (eBytes old))), (3, .one (.e (eBytes top))), (13, .one (.e (eI (x.2.2.1 : Int)))), (14, .one (.e (eI (x.2.2.2.1 : Int)))), (15, .one (.e (eBytes x.2.2.2.2.1))), (16, .one (.e (eBytes x.2.2.2.2.2.1))), (17, .one (.e (eI x.2.2.2.2.2.2.1))), (18, .one (.e (eI x.2.2.2.2.2.2.2))), (48, .one (.e (eLists path))), (49, .v (.int .i64 ((path.map fun p => [eBytes p]).length : Nat))), (50, .v (.int .i64 (x.1 : Int)))] []) (fun x => endE ((okE x.2.2.2.2.1 x.2.2.2.2.2.2.1 x.2.2.2.2.2.1 x.2.2.2.2.2.2.2).bind (exS (pO mode) (shB x.2.1 x.2.2.1 x.2.2.2.1) (path.drop x.1))) old top = R ∧ x.1 ≤ path.length ∧ x.2.2.1 ≤ 63 ∧ x.2.2.2.1 < 2 ^ x.2.1 ∧ x.2.1 ≤ 7 ∧ x.2.2.2.1 ≤ 63) (fun x => path.length - x.1) ((0, 7, a, l, old, old, 0, 0)) (le_of (ad := []) (by refine ⟨?_, ?_, ?_, ?_, ?_, ?_, ?_, ?_, ?_, ?_, ?_, ?_, trivial⟩ <;> first | exact trivial | rfl | exact ⟨rfl, rfl⟩ | exact ⟨rfl, rfl, rfl⟩ | exact ⟨rfl, rfl, rfl, rfl⟩ | exact ⟨rfl, rfl, rfl, rfl, rfl⟩ | exact congrArg (fun z : Int => E.v (.int .i64 z)) (wrap64_id (by omega) (by omega))) trivial) ⟨hR, Nat.zero_le _, by dsimp only; omega, by dsimp only; omega, by dsimp only; omega, by dsimp only; omega⟩ ?_
    rintro ⟨j, f, a0, l0, w, b, e, e'⟩ ⟨h1, h2, h3, h4, h5, h6⟩
    dsimp only at h1 h2 h3 h4 h5 h6 ⊢
    repeat' (first | refine tr_seq ?_ | refine reg (T := tab) tOk hnt rfl ?_ ?_ | refine regD (T := tab) tOk mixedR hnt rfl (by decide +kernel) ?_ ?_ | refine tr_block ?_ | refine tr_skip ?_)
    · (dsimp only [AllP]; (repeat' first | exact trivial | assumption | exact Nat.le_of_ble_eq_true rfl | apply And.intro | decide | intro _ | exact rfl))
    repeat' (first | refine tr_seq ?_ | refine tr_block ?_ | refine tr_skip ?_)
    refine tr_cond rfl (fun hc => ?_) (fun hc => ?_)
    · have hc : (j : Int) < ((path.map fun p => [eBytes p]).length : Int) := of_decide_eq_true hc
      have hjl : j < path.length := by omega
      rw [List.drop_eq_getElem_cons hjl] at h1
      repeat' (first | refine tr_seq ?_ | refine reg (T := tab) tOk hnt rfl ?_ ?_ | refine regD (T := tab) tOk mixedR hnt rfl (by decide +kernel) ?_ ?_ | refine tr_block ?_ | refine tr_skip ?_)
      · rw [Int.toNat_natCast, lsGet path hjl]
        (dsimp only [AllP]; (repeat' first | exact trivial | assumption | exact Nat.le_of_ble_eq_true rfl | apply And.intro | exact eCells_len1 _ _ ‹_› | exact eCells_isByte _ _ ‹_› | intro _ | exact rfl | omega))
      · (dsimp only [AllP]; (repeat' first | exact trivial | assumption | exact Nat.le_of_ble_eq_true rfl | apply And.intro | decide | intro _ | exact rfl))
      rw [Int.toNat_natCast, lsGet path hjl, show path.getD j [] = path[j] by simp [List.getD, hjl]]
      generalize path[j] = p at *
      have hcc : (bif (bif decide ((l0 : Int) = 0) then true else !decide (e = 0)) then true else !decide (e' = 0)) = decide (l0 = 0 ∨ ¬ (e = 0 ∧ e' = 0)) := by
        by_cases q1 : l0 = 0 <;> by_cases q2 : e = 0 <;> by_cases q3 : e' = 0 <;> simp [q1, q2, q3]
      repeat' (first | refine tr_seq ?_ | refine tr_block ?_ | refine tr_skip ?_)
      refine tr_cond rfl (fun hc => ?_) (fun hc => ?_)
      · have hc := of_decide_eq_true (hcc.symm.trans hc)
        have hR0 : R = 10 := by
          rw [← h1]
          rcases hc with hc | hc
          · rw [hc, shB_zero]
            cases okE w e b e' <;> rfl
          · rw [okE, if_neg hc]
            rfl
        repeat' (first | refine tr_seq ?_ | refine reg (T := tab) tOk hnt rfl ?_ ?_ | refine regD (T := tab) tOk mixedR hnt rfl (by decide +kernel) ?_ ?_ | refine tr_block ?_ | refine tr_skip ?_)
        · (dsimp only [AllP]; (repeat' first | exact trivial | assumption | exact Nat.le_of_ble_eq_true rfl | apply And.intro | decide | intro _ | exact rfl))
        exact tr_ret ⟨.inr rfl, _, _, rfl, trivial, by rw [hR0]; rfl⟩
      have hc := of_decide_eq_false (hcc.symm.trans hc)
      obtain ⟨hl0, rfl, rfl⟩ : ¬ l0 = 0 ∧ e = 0 ∧ e' = 0 := ⟨fun h => hc (.inl h), Decidable.not_not.1 fun h => hc (.inr fun q => h q.1), Decidable.not_not.1 fun h => hc (.inr fun q => h q.2)⟩
      obtain ⟨f, rfl⟩ : ∃ g, f = g + 1 := by
        cases f with
        | zero => exact absurd h4 (by rw [Nat.pow_zero]; omega)
        | succ g => exact ⟨g, rfl⟩
      rw [okE, if_pos ⟨rfl, rfl⟩] at h1
      have h1 : endE (exS (pO mode) (shB (f + 1) a0 l0) (p :: path.drop (j + 1)) (w, b)) old top = R := h1
      rw [shB, if_neg hl0] at h1
      repeat' (first | refine tr_seq ?_ | refine reg (T := tab) tOk hnt rfl ?_ ?_ | refine regD (T := tab) tOk mixedR hnt rfl (by decide +kernel) ?_ ?_ | refine tr_block ?_ | refine tr_skip ?_)
      · (dsimp only [AllP]; (repeat' first | exact trivial | assumption | exact Nat.le_of_ble_eq_true rfl | apply And.intro | decide | intro _ | exact rfl))
      repeat' (first | refine tr_seq ?_ | refine tr_block ?_ | refine tr_skip ?_)
      refine tr_cond rfl (fun hc => ?_) (fun hc => ?_)
      · have hc := of_decide_eq_true ((turnB a0 l0).symm.trans hc)
        rw [if_pos hc] at h1
        have h1 : endE ((stX (pO mode) true p (w, b)).bind (exS (pO mode) (shB f ((strip 6 a0 l0).1 / 2) ((strip 6 a0 l0).2 / 2)) (path.drop (j + 1)))) old top = R := h1
        rw [stX_t] at h1
        repeat' (first | refine tr_seq ?_ | refine tr_block ?_ | refine tr_skip ?_)
        refine tr_region (lex (T := tab) tOk hnt rfl ?_ (callU rfl rfl rfl rfl rfl rfl rfl hnt (DigestOf_fn mode 6 [p, w]) (lex (T := tab) tOk hnt rfl ?_ (Lex.nil _)))) ?_
        · (dsimp only [AllP]; (repeat' first | exact trivial | assumption | exact Nat.le_of_ble_eq_true rfl | apply And.intro | decide | intro _ | exact rfl))
        · (dsimp only [AllP]; (repeat' first | exact trivial | assumption | exact Nat.le_of_ble_eq_true rfl | apply And.intro | decide | intro _ | exact rfl))
        generalize dgF mode 6 [p, w] = r at *
        repeat' (first | refine tr_seq ?_ | refine tr_block ?_ | refine tr_skip ?_)
        refine tr_region (lex (T := tab) tOk hnt rfl ?_ (callU rfl rfl rfl rfl rfl rfl rfl hnt (DigestOf_fn mode 6 [p, b]) (lex (T := tab) tOk hnt rfl ?_ (Lex.nil _)))) ?_
        · (dsimp only [AllP]; (repeat' first | exact trivial | assumption | exact Nat.le_of_ble_eq_true rfl | apply And.intro | decide | intro _ | exact rfl))
        · (dsimp only [AllP]; (repeat' first | exact trivial | assumption | exact Nat.le_of_ble_eq_true rfl | apply And.intro | decide | intro _ | exact rfl))
        generalize dgF mode 6 [p, b] = r' at *
        repeat' (first | refine tr_seq ?_ | refine tr_block ?_ | refine tr_skip ?_)
        refine tr_loop (σ := Nat × Nat × Nat) (fun x => St.of [(0, .one (.e (eI mode))), (1, .one (.e (eBytes old))), (3, .one (.e (eBytes top))), (13, .one (.e (eI (x.1 : Int)))), (14, .one (.e (eI (x.2.1 : Int)))), (15, .one (.e (eBytes r.1))), (16, .one (.e (eBytes r'.1))), (17, .one (.e (eI r.2))), (18, .one (.e (eI r'.2))), (48, .one (.e (eLists path))), (49, .v (.int .i64 ((path.map fun p => [eBytes p]).length : Nat))), (50, .v (.int .i64 (j : Int)))] []) (fun x => strip x.2.2 x.1 x.2.1 = strip 6 a0 l0 ∧ x.1 < 2 ^ x.2.2 ∧ x.1 ≤ 63 ∧ x.2.1 ≤ l0) (fun x => x.1) ((a0, l0, 6)) (le_of (ad := []) (by refine ⟨?_, ?_, ?_, ?_, ?_, ?_, ?_, ?_, ?_, ?_, ?_, ?_, trivial⟩ <;> first | exact trivial | rfl | exact ⟨rfl, rfl⟩ | exact ⟨rfl, rfl, rfl⟩ | exact ⟨rfl, rfl, rfl, rfl⟩ | exact ⟨rfl, rfl, rfl, rfl, rfl⟩ | exact congrArg (fun z : Int => E.v (.int .i64 z)) (wrap64_id (by omega) (by omega))) trivial) ⟨rfl, by dsimp only; omega, h3, Nat.le_refl _⟩ ?_
        rintro ⟨a1, l1, g⟩ ⟨g1, g2, g3, g4⟩
        dsimp only at g1 g2 g3 g4 ⊢
        repeat' (first | refine tr_seq ?_ | refine reg (T := tab) tOk hnt rfl ?_ ?_ | refine regD (T := tab) tOk mixedR hnt rfl (by decide +kernel) ?_ ?_ | refine tr_block ?_ | refine tr_skip ?_)
        · (dsimp only [AllP]; (repeat' first | exact trivial | assumption | exact Nat.le_of_ble_eq_true rfl | apply And.intro | decide | intro _ | exact rfl))
        repeat' (first | refine tr_seq ?_ | refine tr_block ?_ | refine tr_skip ?_)
        refine tr_cond rfl (fun hc => ?_) (fun hc => ?_)
        · have hc := of_decide_eq_true ((goB a1).symm.trans hc)
          obtain ⟨g, rfl⟩ : ∃ q, g = q + 1 := by
            cases g with
            | zero => exact absurd g2 (by rw [Nat.pow_zero]; omega)
            | succ q => exact ⟨q, rfl⟩
          rw [strip, if_pos hc] at g1
          rw [Nat.pow_succ] at g2
          repeat' (first | refine tr_seq ?_ | refine reg (T := tab) tOk hnt rfl ?_ ?_ | refine regD (T := tab) tOk mixedR hnt rfl (by decide +kernel) ?_ ?_ | refine tr_block ?_ | refine tr_skip ?_)
          · (dsimp only [AllP]; (repeat' first | exact trivial | assumption | exact Nat.le_of_ble_eq_true rfl | apply And.intro | decide | intro _ | exact rfl))
          have hw1 := half_tdiv a1 (by omega)
          have hw2 := half_tdiv l1 (by omega)
          exact ⟨(a1 / 2, l1 / 2, g), ⟨g1, by dsimp only; omega, by dsimp only; omega, by dsimp only; omega⟩, by dsimp only; omega, le_of (ad := []) ⟨rfl, rfl, rfl, congrArg (fun z : Int => E.v (.int .i64 z)) hw1, congrArg (fun z : Int => E.v (.int .i64 z)) hw2, rfl, rfl, rfl, rfl, rfl, rfl, rfl, trivial⟩ trivial⟩
        have hc := of_decide_eq_false ((goB a1).symm.trans hc)
        rw [strip_end g a1 l1 hc] at g1
        rw [← g1] at h1
        refine tr_exit ?_
        repeat' (first | refine tr_seq ?_ | refine reg (T := tab) tOk hnt rfl ?_ ?_ | refine regD (T := tab) tOk mixedR hnt rfl (by decide +kernel) ?_ ?_ | refine tr_block ?_ | refine tr_skip ?_)
        · (dsimp only [AllP]; (repeat' first | exact trivial | assumption | exact Nat.le_of_ble_eq_true rfl | apply And.intro | decide | intro _ | exact rfl))
        · (dsimp only [AllP]; (repeat' first | exact trivial | assumption | exact Nat.le_of_ble_eq_true rfl | apply And.intro | decide | intro _ | exact rfl))
        have hw1 := half_tdiv a1 (by omega)
        have hw2 := half_tdiv l1 (by omega)
        exact ⟨(j + 1, f, a1 / 2, l1 / 2, r.1, r'.1, r.2, r'.2), ⟨h1, by dsimp only; omega, by dsimp only; omega, by dsimp only; rw [Nat.pow_succ] at h4; omega, by dsimp only; omega, by dsimp only; omega⟩, by dsimp only; omega, le_of (ad := []) ⟨rfl, rfl, rfl, congrArg (fun z : Int => E.v (.int .i64 z)) hw1, congrArg (fun z : Int => E.v (.int .i64 z)) hw2, rfl, rfl, rfl, rfl, rfl, rfl, congrArg (fun z : Int => E.v (.int .i64 z)) (wrap64_id (by omega) (by omega)), trivial⟩ trivial⟩
      have hc := of_decide_eq_false ((turnB a0 l0).symm.trans hc)
      rw [if_neg hc] at h1
      have h1 : endE ((stX (pO mode) false p (w, b)).bind (exS (pO mode) (shB f (a0 / 2) (l0 / 2)) (path.drop (j + 1)))) old top = R := h1
      rw [stX_f] at h1
      repeat' (first | refine tr_seq ?_ | refine tr_block ?_ | refine tr_skip ?_)
      refine tr_region (lex (T := tab) tOk hnt rfl ?_ (callU rfl rfl rfl rfl rfl rfl rfl hnt (DigestOf_fn mode 6 [b, p]) (lex (T := tab) tOk hnt rfl ?_ (Lex.nil _)))) ?_
      · (dsimp only [AllP]; (repeat' first | exact trivial | assumption | exact Nat.le_of_ble_eq_true rfl | apply And.intro | decide | intro _ | exact rfl))
      · (dsimp only [AllP]; (repeat' first | exact trivial | assumption | exact Nat.le_of_ble_eq_true rfl | apply And.intro | decide | intro _ | exact rfl))
      generalize dgF mode 6 [b, p] = r at *
      obtain ⟨a1, ha1⟩ : ∃ a1, a1 = a0 := ⟨a0, rfl⟩
      obtain ⟨l1, hl1⟩ : ∃ l1, l1 = l0 := ⟨l0, rfl⟩
      subst ha1
      subst hl1
      repeat' (first | refine tr_seq ?_ | refine reg (T := tab) tOk hnt rfl ?_ ?_ | refine regD (T := tab) tOk mixedR hnt rfl (by decide +kernel) ?_ ?_ | refine tr_block ?_ | refine tr_skip ?_)
      · (dsimp only [AllP]; (repeat' first | exact trivial | assumption | exact Nat.le_of_ble_eq_true rfl | apply And.intro | decide | intro _ | exact rfl))
      · (dsimp only [AllP]; (repeat' first | exact trivial | assumption | exact Nat.le_of_ble_eq_true rfl | apply And.intro | decide | intro _ | exact rfl))
      have hw1 := half_tdiv a1 (by omega)
      have hw2 := half_tdiv l1 (by omega)
      exact ⟨(j + 1, f, a1 / 2, l1 / 2, w, r.1, 0, r.2), ⟨h1, by dsimp only; omega, by dsimp only; omega, by dsimp only; rw [Nat.pow_succ] at h4; omega, by dsimp only; omega, by dsimp only; omega⟩, by dsimp only; omega, le_of (ad := []) ⟨rfl, rfl, rfl, congrArg (fun z : Int => E.v (.int .i64 z)) hw1, congrArg (fun z : Int => E.v (.int .i64 z)) hw2, rfl, rfl, rfl, rfl, rfl, rfl, congrArg (fun z : Int => E.v (.int .i64 z)) (wrap64_id (by omega) (by omega)), trivial⟩ trivial⟩
    have hc : ¬ (j : Int) < ((path.map fun p => [eBytes p]).length : Int) := of_decide_eq_false hc
    have hjl : j = path.length := by omega
    subst hjl
    rw [List.drop_length] at h1
    refine tr_exit ?_
    have hb : ∀ cs ∈ eCells w, isByte cs := eCells_isByte _
    have hb2 : ∀ cs ∈ eCells b, isByte cs := eCells_isByte _
    have hb3 : ∀ cs ∈ eCells old, isByte cs := eCells_isByte _
    have hb4 : ∀ cs ∈ eCells top, isByte cs := eCells_isByte _
    repeat' (first | refine tr_seq ?_ | refine reg (T := tab) tOk hnt rfl ?_ ?_ | refine regD (T := tab) tOk mixedR hnt rfl (by decide +kernel) ?_ ?_ | refine tr_block ?_ | refine tr_skip ?_)
    · (dsimp only [AllP]; (repeat' first | exact trivial | assumption | exact Nat.le_of_ble_eq_true rfl | apply And.intro | exact eCells_len1 _ _ ‹_› | exact eCells_isByte _ _ ‹_› | intro _ | exact rfl | omega))
    have hRR : R = if (e = 0 ∧ e' = 0) ∧ l0 = 0 ∧ w = old ∧ b = top then 0 else 10 := by
      rw [← h1]
      by_cases he : e = 0 ∧ e' = 0
      · rw [okE, if_pos he]
        by_cases hl : l0 = 0
        · subst hl
          rw [shB_zero]
          show (if w = old ∧ b = top then (0 : Int) else 10) = _
          simp [he]
        · rw [if_neg (fun q => hl q.2.1)]
          cases f with
          | zero => exact absurd h4 (by rw [Nat.pow_zero]; omega)
          | succ f =>
            rw [shB, if_neg hl]
            by_cases ht : a0 % 2 = 1 ∨ a0 = l0
            · rw [if_pos ht]; rfl
            · rw [if_neg ht]; rfl
      · rw [okE, if_neg he, if_neg (fun q => he q.1)]
        rfl
    refine tr_ret ⟨.inr rfl, _, _, rfl, trivial, congrArg (fun z : Bool => D.v (.bool z)) ?_⟩
    rw [hRR, strEq_B, strEq_B]
    by_cases q1 : e = 0 <;> by_cases q2 : e' = 0 <;> by_cases q3 : l0 = 0 <;> by_cases q4 : w = old <;> by_cases q5 : b = top <;> simp [q1, q2, q3, q4, q5]
  have hc : ¬ (a : Int) = 0 := of_decide_eq_false hc
  have ha : ¬ a = 0 := by omega
  rw [show decide ((a, l).1 = 0) = false from decide_eq_false ha]
  repeat' (first | refine tr_seq ?_ | refine reg (T := tab) tOk hnt rfl ?_ ?_ | refine regD (T := tab) tOk mixedR hnt rfl (by decide +kernel) ?_ ?_ | refine tr_block ?_ | refine tr_skip ?_)
  · (dsimp only [AllP]; (repeat' first | exact trivial | assumption | exact Nat.le_of_ble_eq_true rfl | apply And.intro | decide | intro _ | exact rfl))
  cases path with
  | nil =>
    repeat' (first | refine tr_seq ?_ | refine tr_block ?_ | refine tr_skip ?_)
    refine tr_cond rfl (fun _ => ?_) (fun h => absurd (of_decide_eq_false h) (by simp))
    repeat' (first | refine tr_seq ?_ | refine reg (T := tab) tOk hnt rfl ?_ ?_ | refine regD (T := tab) tOk mixedR hnt rfl (by decide +kernel) ?_ ?_ | refine tr_block ?_ | refine tr_skip ?_)
    · (dsimp only [AllP]; (repeat' first | exact trivial | assumption | exact Nat.le_of_ble_eq_true rfl | apply And.intro | decide | intro _ | exact rfl))
    exact tr_ret ⟨.inr rfl, _, _, rfl, trivial, rfl⟩
  | cons p0 rest =>
  rw [show exO (pO mode) old false (shB 7 (a, l).1 (a, l).2) (p0 :: rest) = exS (pO mode) (shB 7 a l) rest (p0, p0) from rfl]
  have q3 : ((List.map (fun p => [eBytes p]) (p0 :: rest)).length : Int) = (rest.length : Int) + 1 := by
    simp
  refine tr_cond rfl (fun h => absurd (of_decide_eq_true h) (by omega)) (fun _ => ?_)
  have q6 := lsOne (p0 :: rest)
  repeat' (first | refine tr_seq ?_ | refine reg (T := tab) tOk hnt rfl ?_ ?_ | refine regD (T := tab) tOk mixedR hnt rfl (by decide +kernel) ?_ ?_ | refine tr_block ?_ | refine tr_skip ?_)
  · (dsimp only [AllP]; (repeat' first | exact trivial | assumption | exact Nat.le_of_ble_eq_true rfl | apply And.intro | exact eCells_len1 _ _ ‹_› | exact eCells_isByte _ _ ‹_› | intro _ | exact rfl | omega))
  · (dsimp only [AllP]; (repeat' first | exact trivial | assumption | exact Nat.le_of_ble_eq_true rfl | apply And.intro | exact eCells_len1 _ _ ‹_› | exact eCells_isByte _ _ ‹_› | intro _ | exact rfl | omega))
  · (dsimp only [AllP]; (repeat' first | exact trivial | assumption | exact Nat.le_of_ble_eq_true rfl | apply And.intro | exact eCells_len1 _ _ ‹_› | exact eCells_isByte _ _ ‹_› | intro _ | exact rfl | omega))
  have q7 : List.take (((List.map (fun p => [eBytes p]) (p0 :: rest)).length : Int).toNat - Int.toNat 1) (List.drop (Int.toNat 1) (List.map (fun p => [eBytes p]) (p0 :: rest))) = List.map (fun p => [eBytes p]) rest := by
    rw [q3]
    have : ((rest.length : Int) + 1).toNat - Int.toNat 1 = rest.length := by omega
    rw [this, ← lsLen rest]
    exact List.take_length
  rw [q7]
  have hpl : rest.length ≤ 2000000 := Nat.le_trans (Nat.le_succ _) hpl
  clear q3 q6 q7 hll
  have hrl := lsLen rest
  generalize hR : endE (exS (pO mode) (shB 7 a l) rest (p0, p0)) old top = R
  repeat' (first | refine tr_seq ?_ | refine tr_block ?_ | refine tr_skip ?_)
  refine tr_loop (σ := Nat × Nat × Nat × Nat × Byt × Byt × Int × Int) (fun x => St.of [(0, .one (.e (eI mode))), (1, .one (.e (eBytes old))), (3, .one (.e (eBytes top))), (13, .one (.e (eI (x.2.2.1 : Int)))), (14, .one (.e (eI (x.2.2.2.1 : Int)))), (15, .one (.e (eBytes x.2.2.2.2.1))), (16, .one (.e (eBytes x.2.2.2.2.2.1))), (17, .one (.e (eI x.2.2.2.2.2.2.1))), (18, .one (.e (eI x.2.2.2.2.2.2.2))), (48, .one (.e (eLists rest))), (49, .v (.int .i64 ((rest.map fun p => [eBytes p]).length : Nat))), (50, .v (.int .i64 (x.1 : Int)))] []) (fun x => endE ((okE x.2.2.2.2.1 x.2.2.2.2.2.2.1 x.2.2.2.2.2.1 x.2.2.2.2.2.2.2).bind (exS (pO mode) (shB x.2.1 x.2.2.1 x.2.2.2.1) (rest.drop x.1))) old top = R ∧ x.1 ≤ rest.length ∧ x.2.2.1 ≤ 63 ∧ x.2.2.2.1 < 2 ^ x.2.1 ∧ x.2.1 ≤ 7 ∧ x.2.2.2.1 ≤ 63) (fun x => rest.length - x.1) ((0, 7, a, l, p0, p0, 0, 0)) (le_of (ad := []) (by refine ⟨?_, ?_, ?_, ?_, ?_, ?_, ?_, ?_, ?_, ?_, ?_, ?_, trivial⟩ <;> first | exact trivial | rfl | exact ⟨rfl, rfl⟩ | exact ⟨rfl, rfl, rfl⟩ | exact ⟨rfl, rfl, rfl, rfl⟩ | exact ⟨rfl, rfl, rfl, rfl, rfl⟩ | exact congrArg (fun z : Int => E.v (.int .i64 z)) (wrap64_id (by omega) (by omega))) trivial) ⟨hR, Nat.zero_le _, by dsimp only; omega, by dsimp only; omega, by dsimp only; omega, by dsimp only; omega⟩ ?_
  rintro ⟨j, f, a0, l0, w, b, e, e'⟩ ⟨h1, h2, h3, h4, h5, h6⟩
  dsimp only at h1 h2 h3 h4 h5 h6 ⊢
  repeat' (first | refine tr_seq ?_ | refine reg (T := tab) tOk hnt rfl ?_ ?_ | refine regD (T := tab) tOk mixedR hnt rfl (by decide +kernel) ?_ ?_ | refine tr_block ?_ | refine tr_skip ?_)
  · (dsimp only [AllP]; (repeat' first | exact trivial | assumption | exact Nat.le_of_ble_eq_true rfl | apply And.intro | decide | intro _ | exact rfl))
  repeat' (first | refine tr_seq ?_ | refine tr_block ?_ | refine tr_skip ?_)
  refine tr_cond rfl (fun hc => ?_) (fun hc => ?_)
  · have hc : (j : Int) < ((rest.map fun p => [eBytes p]).length : Int) := of_decide_eq_true hc
    have hjl : j < rest.length := by omega
    rw [List.drop_eq_getElem_cons hjl] at h1
    repeat' (first | refine tr_seq ?_ | refine reg (T := tab) tOk hnt rfl ?_ ?_ | refine regD (T := tab) tOk mixedR hnt rfl (by decide +kernel) ?_ ?_ | refine tr_block ?_ | refine tr_skip ?_)
    · rw [Int.toNat_natCast, lsGet rest hjl]
      (dsimp only [AllP]; (repeat' first | exact trivial | assumption | exact Nat.le_of_ble_eq_true rfl | apply And.intro | exact eCells_len1 _ _ ‹_› | exact eCells_isByte _ _ ‹_› | intro _ | exact rfl | omega))
    · (dsimp only [AllP]; (repeat' first | exact trivial | assumption | exact Nat.le_of_ble_eq_true rfl | apply And.intro | decide | intro _ | exact rfl))
    rw [Int.toNat_natCast, lsGet rest hjl, show rest.getD j [] = rest[j] by simp [List.getD, hjl]]
    generalize rest[j] = p at *
    have hcc : (bif (bif decide ((l0 : Int) = 0) then true else !decide (e = 0)) then true else !decide (e' = 0)) = decide (l0 = 0 ∨ ¬ (e = 0 ∧ e' = 0)) := by
      by_cases q1 : l0 = 0 <;> by_cases q2 : e = 0 <;> by_cases q3 : e' = 0 <;> simp [q1, q2, q3]
    repeat' (first | refine tr_seq ?_ | refine tr_block ?_ | refine tr_skip ?_)
    refine tr_cond rfl (fun hc => ?_) (fun hc => ?_)
    · have hc := of_decide_eq_true (hcc.symm.trans hc)
      have hR0 : R = 10 := by
        rw [← h1]
        rcases hc with hc | hc
        · rw [hc, shB_zero]
          cases okE w e b e' <;> rfl
        · rw [okE, if_neg hc]
          rfl
      repeat' (first | refine tr_seq ?_ | refine reg (T := tab) tOk hnt rfl ?_ ?_ | refine regD (T := tab) tOk mixedR hnt rfl (by decide +kernel) ?_ ?_ | refine tr_block ?_ | refine tr_skip ?_)
      · (dsimp only [AllP]; (repeat' first | exact trivial | assumption | exact Nat.le_of_ble_eq_true rfl | apply And.intro | decide | intro _ | exact rfl))
      exact tr_ret ⟨.inr rfl, _, _, rfl, trivial, by rw [hR0]; rfl⟩
    have hc := of_decide_eq_false (hcc.symm.trans hc)
    obtain ⟨hl0, rfl, rfl⟩ : ¬ l0 = 0 ∧ e = 0 ∧ e' = 0 := ⟨fun h => hc (.inl h), Decidable.not_not.1 fun h => hc (.inr fun q => h q.1), Decidable.not_not.1 fun h => hc (.inr fun q => h q.2)⟩
    obtain ⟨f, rfl⟩ : ∃ g, f = g + 1 := by
      cases f with
      | zero => exact absurd h4 (by rw [Nat.pow_zero]; omega)
      | succ g => exact ⟨g, rfl⟩
    rw [okE, if_pos ⟨rfl, rfl⟩] at h1
    have h1 : endE (exS (pO mode) (shB (f + 1) a0 l0) (p :: rest.drop (j + 1)) (w, b)) old top = R := h1
    rw [shB, if_neg hl0] at h1
    repeat' (first | refine tr_seq ?_ | refine reg (T := tab) tOk hnt rfl ?_ ?_ | refine regD (T := tab) tOk mixedR hnt rfl (by decide +kernel) ?_ ?_ | refine tr_block ?_ | refine tr_skip ?_)
    · (dsimp only [AllP]; (repeat' first | exact trivial | assumption | exact Nat.le_of_ble_eq_true rfl | apply And.intro | decide | intro _ | exact rfl))
    repeat' (first | refine tr_seq ?_ | refine tr_block ?_ | refine tr_skip ?_)
    refine tr_cond rfl (fun hc => ?_) (fun hc => ?_)
    · have hc := of_decide_eq_true ((turnB a0 l0).symm.trans hc)
      rw [if_pos hc] at h1
      have h1 : endE ((stX (pO mode) true p (w, b)).bind (exS (pO mode) (shB f ((strip 6 a0 l0).1 / 2) ((strip 6 a0 l0).2 / 2)) (rest.drop (j + 1)))) old top = R := h1
      rw [stX_t] at h1
      repeat' (first | refine tr_seq ?_ | refine tr_block ?_ | refine tr_skip ?_)
      refine tr_region (lex (T := tab) tOk hnt rfl ?_ (callU rfl rfl rfl rfl rfl rfl rfl hnt (DigestOf_fn mode 6 [p, w]) (lex (T := tab) tOk hnt rfl ?_ (Lex.nil _)))) ?_
      · (dsimp only [AllP]; (repeat' first | exact trivial | assumption | exact Nat.le_of_ble_eq_true rfl | apply And.intro | decide | intro _ | exact rfl))
      · (dsimp only [AllP]; (repeat' first | exact trivial | assumption | exact Nat.le_of_ble_eq_true rfl | apply And.intro | decide | intro _ | exact rfl))
      generalize dgF mode 6 [p, w] = r at *
      repeat' (first | refine tr_seq ?_ | refine tr_block ?_ | refine tr_skip ?_)
      refine tr_region (lex (T := tab) tOk hnt rfl ?_ (callU rfl rfl rfl rfl rfl rfl rfl hnt (DigestOf_fn mode 6 [p, b]) (lex (T := tab) tOk hnt rfl ?_ (Lex.nil _)))) ?_
      · (dsimp only [AllP]; (repeat' first | exact trivial | assumption | exact Nat.le_of_ble_eq_true rfl | apply And.intro | decide | intro _ | exact rfl))
      · (dsimp only [AllP]; (repeat' first | exact trivial | assumption | exact Nat.le_of_ble_eq_true rfl | apply And.intro | decide | intro _ | exact rfl))
      generalize dgF mode 6 [p, b] = r' at *
      repeat' (first | refine tr_seq ?_ | refine tr_block ?_ | refine tr_skip ?_)
      refine tr_loop (σ := Nat × Nat × Nat) (fun x => St.of [(0, .one (.e (eI mode))), (1, .one (.e (eBytes old))), (3, .one (.e (eBytes top))), (13, .one (.e (eI (x.1 : Int)))), (14, .one (.e (eI (x.2.1 : Int)))), (15, .one (.e (eBytes r.1))), (16, .one (.e (eBytes r'.1))), (17, .one (.e (eI r.2))), (18, .one (.e (eI r'.2))), (48, .one (.e (eLists rest))), (49, .v (.int .i64 ((rest.map fun p => [eBytes p]).length : Nat))), (50, .v (.int .i64 (j : Int)))] []) (fun x => strip x.2.2 x.1 x.2.1 = strip 6 a0 l0 ∧ x.1 < 2 ^ x.2.2 ∧ x.1 ≤ 63 ∧ x.2.1 ≤ l0) (fun x => x.1) ((a0, l0, 6)) (le_of (ad := []) (by refine ⟨?_, ?_, ?_, ?_, ?_, ?_, ?_, ?_, ?_, ?_, ?_, ?_, trivial⟩ <;> first | exact trivial | rfl | exact ⟨rfl, rfl⟩ | exact ⟨rfl, rfl, rfl⟩ | exact ⟨rfl, rfl, rfl, rfl⟩ | exact ⟨rfl, rfl, rfl, rfl, rfl⟩ | exact congrArg (fun z : Int => E.v (.int .i64 z)) (wrap64_id (by omega) (by omega))) trivial) ⟨rfl, by dsimp only; omega, h3, Nat.le_refl _⟩ ?_
      rintro ⟨a1, l1, g⟩ ⟨g1, g2, g3, g4⟩
      dsimp only at g1 g2 g3 g4 ⊢
      repeat' (first | refine tr_seq ?_ | refine reg (T := tab) tOk hnt rfl ?_ ?_ | refine regD (T := tab) tOk mixedR hnt rfl (by decide +kernel) ?_ ?_ | refine tr_block ?_ | refine tr_skip ?_)
      · (dsimp only [AllP]; (repeat' first | exact trivial | assumption | exact Nat.le_of_ble_eq_true rfl | apply And.intro | decide | intro _ | exact rfl))
      repeat' (first | refine tr_seq ?_ | refine tr_block ?_ | refine tr_skip ?_)
      refine tr_cond rfl (fun hc => ?_) (fun hc => ?_)
      · have hc := of_decide_eq_true ((goB a1).symm.trans hc)
        obtain ⟨g, rfl⟩ : ∃ q, g = q + 1 := by
          cases g with
          | zero => exact absurd g2 (by rw [Nat.pow_zero]; omega)
          | succ q => exact ⟨q, rfl⟩
        rw [strip, if_pos hc] at g1
        rw [Nat.pow_succ] at g2
        repeat' (first | refine tr_seq ?_ | refine reg (T := tab) tOk hnt rfl ?_ ?_ | refine regD (T := tab) tOk mixedR hnt rfl (by decide +kernel) ?_ ?_ | refine tr_block ?_ | refine tr_skip ?_)
        · (dsimp only [AllP]; (repeat' first | exact trivial | assumption | exact Nat.le_of_ble_eq_true rfl | apply And.intro | decide | intro _ | exact rfl))
        have hw1 := half_tdiv a1 (by omega)
        have hw2 := half_tdiv l1 (by omega)
        exact ⟨(a1 / 2, l1 / 2, g), ⟨g1, by dsimp only; omega, by dsimp only; omega, by dsimp only; omega⟩, by dsimp only; omega, le_of (ad := []) ⟨rfl, rfl, rfl, congrArg (fun z : Int => E.v (.int .i64 z)) hw1, congrArg (fun z : Int => E.v (.int .i64 z)) hw2, rfl, rfl, rfl, rfl, rfl, rfl, rfl, trivial⟩ trivial⟩
      have hc := of_decide_eq_false ((goB a1).symm.trans hc)
      rw [strip_end g a1 l1 hc] at g1
      rw [← g1] at h1
      refine tr_exit ?_
      repeat' (first | refine tr_seq ?_ | refine reg (T := tab) tOk hnt rfl ?_ ?_ | refine regD (T := tab) tOk mixedR hnt rfl (by decide +kernel) ?_ ?_ | refine tr_block ?_ | refine tr_skip ?_)
      · (dsimp only [AllP]; (repeat' first | exact trivial | assumption | exact Nat.le_of_ble_eq_true rfl | apply And.intro | decide | intro _ | exact rfl))
      · (dsimp only [AllP]; (repeat' first | exact trivial | assumption | exact Nat.le_of_ble_eq_true rfl | apply And.intro | decide | intro _ | exact rfl))
      have hw1 := half_tdiv a1 (by omega)
      have hw2 := half_tdiv l1 (by omega)
      exact ⟨(j + 1, f, a1 / 2, l1 / 2, r.1, r'.1, r.2, r'.2), ⟨h1, by dsimp only; omega, by dsimp only; omega, by dsimp only; rw [Nat.pow_succ] at h4; omega, by dsimp only; omega, by dsimp only; omega⟩, by dsimp only; omega, le_of (ad := []) ⟨rfl, rfl, rfl, congrArg (fun z : Int => E.v (.int .i64 z)) hw1, congrArg (fun z : Int => E.v (.int .i64 z)) hw2, rfl, rfl, rfl, rfl, rfl, rfl, congrArg (fun z : Int => E.v (.int .i64 z)) (wrap64_id (by omega) (by omega)), trivial⟩ trivial⟩
    have hc := of_decide_eq_false ((turnB a0 l0).symm.trans hc)
    rw [if_neg hc] at h1
    have h1 : endE ((stX (pO mode) false p (w, b)).bind (exS (pO mode) (shB f (a0 / 2) (l0 / 2)) (rest.drop (j + 1)))) old top = R := h1
    rw [stX_f] at h1
    repeat' (first | refine tr_seq ?_ | refine tr_block ?_ | refine tr_skip ?_)
    refine tr_region (lex (T := tab) tOk hnt rfl ?_ (callU rfl rfl rfl rfl rfl rfl rfl hnt (DigestOf_fn mode 6 [b, p]) (lex (T := tab) tOk hnt rfl ?_ (Lex.nil _)))) ?_
    · (dsimp only [AllP]; (repeat' first | exact trivial | assumption | exact Nat.le_of_ble_eq_true rfl | apply And.intro | decide | intro _ | exact rfl))
    · (dsimp only [AllP]; (repeat' first | exact trivial | assumption | exact Nat.le_of_ble_eq_true rfl | apply And.intro | decide | intro _ | exact rfl))
    generalize dgF mode 6 [b, p] = r at *
    obtain ⟨a1, ha1⟩ : ∃ a1, a1 = a0 := ⟨a0, rfl⟩
    obtain ⟨l1, hl1⟩ : ∃ l1, l1 = l0 := ⟨l0, rfl⟩
    subst ha1
    subst hl1
    repeat' (first | refine tr_seq ?_ | refine reg (T := tab) tOk hnt rfl ?_ ?_ | refine regD (T := tab) tOk mixedR hnt rfl (by decide +kernel) ?_ ?_ | refine tr_block ?_ | refine tr_skip ?_)
    · (dsimp only [AllP]; (repeat' first | exact trivial | assumption | exact Nat.le_of_ble_eq_true rfl | apply And.intro | decide | intro _ | exact rfl))
    · (dsimp only [AllP]; (repeat' first | exact trivial | assumption | exact Nat.le_of_ble_eq_true rfl | apply And.intro | decide | intro _ | exact rfl))
    have hw1 := half_tdiv a1 (by omega)
    have hw2 := half_tdiv l1 (by omega)
    exact ⟨(j + 1, f, a1 / 2, l1 / 2, w, r.1, 0, r.2), ⟨h1, by dsimp only; omega, by dsimp only; omega, by dsimp only; rw [Nat.pow_succ] at h4; omega, by dsimp only; omega, by dsimp only; omega⟩, by dsimp only; omega, le_of (ad := []) ⟨rfl, rfl, rfl, congrArg (fun z : Int => E.v (.int .i64 z)) hw1, congrArg (fun z : Int => E.v (.int .i64 z)) hw2, rfl, rfl, rfl, rfl, rfl, rfl, congrArg (fun z : Int => E.v (.int .i64 z)) (wrap64_id (by omega) (by omega)), trivial⟩ trivial⟩
  have hc : ¬ (j : Int) < ((rest.map fun p => [eBytes p]).length : Int) := of_decide_eq_false hc
  have hjl : j = rest.length := by omega
  subst hjl
  rw [List.drop_length] at h1
  refine tr_exit ?_
  have hb : ∀ cs ∈ eCells w, isByte cs := eCells_isByte _
  have hb2 : ∀ cs ∈ eCells b, isByte cs := eCells_isByte _
  have hb3 : ∀ cs ∈ eCells old, isByte cs := eCells_isByte _
  have hb4 : ∀ cs ∈ eCells top, isByte cs := eCells_isByte _
  repeat' (first | refine tr_seq ?_ | refine reg (T := tab) tOk hnt rfl ?_ ?_ | refine regD (T := tab) tOk mixedR hnt rfl (by decide +kernel) ?_ ?_ | refine tr_block ?_ | refine tr_skip ?_)
  · (dsimp only [AllP]; (repeat' first | exact trivial | assumption | exact Nat.le_of_ble_eq_true rfl | apply And.intro | exact eCells_len1 _ _ ‹_› | exact eCells_isByte _ _ ‹_› | intro _ | exact rfl | omega))
  have hRR : R = if (e = 0 ∧ e' = 0) ∧ l0 = 0 ∧ w = old ∧ b = top then 0 else 10 := by
    rw [← h1]
    by_cases he : e = 0 ∧ e' = 0
    · rw [okE, if_pos he]
      by_cases hl : l0 = 0
      · subst hl
        rw [shB_zero]
        show (if w = old ∧ b = top then (0 : Int) else 10) = _
        simp [he]
      · rw [if_neg (fun q => hl q.2.1)]
        cases f with
        | zero => exact absurd h4 (by rw [Nat.pow_zero]; omega)
        | succ f =>
          rw [shB, if_neg hl]
          by_cases ht : a0 % 2 = 1 ∨ a0 = l0
          · rw [if_pos ht]; rfl
          · rw [if_neg ht]; rfl
    · rw [okE, if_neg he, if_neg (fun q => he q.1)]
      rfl
  refine tr_ret ⟨.inr rfl, _, _, rfl, trivial, congrArg (fun z : Bool => D.v (.bool z)) ?_⟩
  rw [hRR, strEq_B, strEq_B]
  by_cases q1 : e = 0 <;> by_cases q2 : e' = 0 <;> by_cases q3 : l0 = 0 <;> by_cases q4 : w = old <;> by_cases q5 : b = top <;> simp [q1, q2, q3, q4, q5]
theorem two10 {z : Int} (h : z = 0 ∨ z = 10) : (if z = 0 then (0 : Int) else 10) = z := by
  rcases h with h | h <;> rw [h] <;> rfl
set_option maxRecDepth 10000 in
theorem ExtendFault_fn (mode : Int) (old : Byt) (m : Int) (top : Byt) (n : Int) (path : List Byt) (hpl : path.length ≤ 2000000) : FnD Tryd.prog 27 [.one (.e (eI mode)), .one (.e (eBytes old)), .one (.e (eI m)), .one (.e (eBytes top)), .one (.e (eI n)), .one (.e (eLists path))] (.one (.e (eI (ecF mode old m top n path)))) := by
  refine fn_intro (T := tab) tOk Tryd.func27 rfl (by kernel_rfl) (by simp [Tryd.ntmps27]) ?_
  intro X hX
  have hnt : X.nt = 86 := hX
  clear hX
  have hll := lsLen path
  have h4 := dg4_ok mode
  unfold ecF
  repeat' (first | refine tr_seq ?_ | refine reg (T := tab) tOk hnt rfl ?_ ?_ | refine regD (T := tab) tOk mixedR hnt rfl (by decide +kernel) ?_ ?_ | refine tr_block ?_ | refine tr_skip ?_)
  · (dsimp only [AllP]; (repeat' first | exact trivial | assumption | exact Nat.le_of_ble_eq_true rfl | apply And.intro | decide | intro _ | exact rfl))
  repeat' (first | refine tr_seq ?_ | refine tr_block ?_ | refine tr_skip ?_)
  refine tr_region (lex (T := tab) tOk hnt rfl ?_ (call rfl rfl rfl rfl rfl rfl rfl hnt (badMode_fn mode) (lex (T := tab) tOk hnt rfl ?_ (Lex.nil _)))) ?_
  · (dsimp only [AllP]; (repeat' first | exact trivial | assumption | exact Nat.le_of_ble_eq_true rfl | apply And.intro | decide | intro _ | exact rfl))
  · (dsimp only [AllP]; (repeat' first | exact trivial | assumption | exact Nat.le_of_ble_eq_true rfl | apply And.intro | decide | intro _ | exact rfl))
  repeat' (first | refine tr_seq ?_ | refine tr_block ?_ | refine tr_skip ?_)
  refine tr_cond rfl (fun hc => ?_) (fun hc => ?_)
  · have hc := of_decide_eq_true hc
    rw [if_pos hc]
    repeat' (first | refine tr_seq ?_ | refine reg (T := tab) tOk hnt rfl ?_ ?_ | refine regD (T := tab) tOk mixedR hnt rfl (by decide +kernel) ?_ ?_ | refine tr_block ?_ | refine tr_skip ?_)
    · (dsimp only [AllP]; (repeat' first | exact trivial | assumption | exact Nat.le_of_ble_eq_true rfl | apply And.intro | decide | intro _ | exact rfl))
    exact tr_ret ⟨.inr rfl, _, _, rfl, trivial, rfl⟩
  have hc := of_decide_eq_false hc
  rw [if_neg hc]
  have h4 := h4 hc
  repeat' (first | refine tr_seq ?_ | refine reg (T := tab) tOk hnt rfl ?_ ?_ | refine regD (T := tab) tOk mixedR hnt rfl (by decide +kernel) ?_ ?_ | refine tr_block ?_ | refine tr_skip ?_)
  · (dsimp only [AllP]; (repeat' first | exact trivial | assumption | exact Nat.le_of_ble_eq_true rfl | apply And.intro | decide | intro _ | exact rfl))
  repeat' (first | refine tr_seq ?_ | refine tr_block ?_ | refine tr_skip ?_)
  refine tr_cond rfl (fun hc => ?_) (fun hc => ?_)
  · have hc := of_decide_eq_true ((orB _ _).symm.trans hc)
    rw [if_pos hc]
    repeat' (first | refine tr_seq ?_ | refine reg (T := tab) tOk hnt rfl ?_ ?_ | refine regD (T := tab) tOk mixedR hnt rfl (by decide +kernel) ?_ ?_ | refine tr_block ?_ | refine tr_skip ?_)
    · (dsimp only [AllP]; (repeat' first | exact trivial | assumption | exact Nat.le_of_ble_eq_true rfl | apply And.intro | decide | intro _ | exact rfl))
    exact tr_ret ⟨.inr rfl, _, _, rfl, trivial, rfl⟩
  have hc := of_decide_eq_false ((orB _ _).symm.trans hc)
  rw [if_neg hc]
  repeat' (first | refine tr_seq ?_ | refine reg (T := tab) tOk hnt rfl ?_ ?_ | refine regD (T := tab) tOk mixedR hnt rfl (by decide +kernel) ?_ ?_ | refine tr_block ?_ | refine tr_skip ?_)
  · (dsimp only [AllP]; (repeat' first | exact trivial | assumption | exact Nat.le_of_ble_eq_true rfl | apply And.intro | decide | intro _ | exact rfl))
  repeat' (first | refine tr_seq ?_ | refine tr_block ?_ | refine tr_skip ?_)
  refine tr_cond rfl (fun hc => ?_) (fun hc => ?_)
  · have hc := of_decide_eq_true ((orB _ _).symm.trans hc)
    rw [if_pos hc]
    repeat' (first | refine tr_seq ?_ | refine reg (T := tab) tOk hnt rfl ?_ ?_ | refine regD (T := tab) tOk mixedR hnt rfl (by decide +kernel) ?_ ?_ | refine tr_block ?_ | refine tr_skip ?_)
    · (dsimp only [AllP]; (repeat' first | exact trivial | assumption | exact Nat.le_of_ble_eq_true rfl | apply And.intro | decide | intro _ | exact rfl))
    exact tr_ret ⟨.inr rfl, _, _, rfl, trivial, rfl⟩
  have hc2 := of_decide_eq_false ((orB _ _).symm.trans hc)
  rw [if_neg hc2]
  repeat' (first | refine tr_seq ?_ | refine reg (T := tab) tOk hnt rfl ?_ ?_ | refine regD (T := tab) tOk mixedR hnt rfl (by decide +kernel) ?_ ?_ | refine tr_block ?_ | refine tr_skip ?_)
  · (dsimp only [AllP]; (repeat' first | exact trivial | assumption | exact Nat.le_of_ble_eq_true rfl | apply And.intro | decide | intro _ | exact rfl))
  repeat' (first | refine tr_seq ?_ | refine tr_block ?_ | refine tr_skip ?_)
  refine tr_region (lex (T := tab) tOk hnt rfl ?_ (call rfl rfl rfl rfl rfl rfl rfl hnt (DigestOf_fn mode 4 []) (lex (T := tab) tOk hnt rfl ?_ (Lex.nil _)))) ?_
  · (dsimp only [AllP]; (repeat' first | exact trivial | assumption | exact Nat.le_of_ble_eq_true rfl | apply And.intro | decide | intro _ | exact rfl))
  · (dsimp only [AllP]; (repeat' first | exact trivial | assumption | exact Nat.le_of_ble_eq_true rfl | apply And.intro | decide | intro _ | exact rfl))
  generalize dgF mode 4 [] = r at *
  obtain ⟨d, e⟩ := r
  have h4 : e = 0 := h4
  subst h4
  repeat' (first | refine tr_seq ?_ | refine reg (T := tab) tOk hnt rfl ?_ ?_ | refine regD (T := tab) tOk mixedR hnt rfl (by decide +kernel) ?_ ?_ | refine tr_block ?_ | refine tr_skip ?_)
  · (dsimp only [AllP]; (repeat' first | exact trivial | assumption | exact Nat.le_of_ble_eq_true rfl | apply And.intro | decide | intro _ | exact rfl))
  have hb : ∀ cs ∈ eCells d, isByte cs := eCells_isByte _
  have hb3 : ∀ cs ∈ eCells old, isByte cs := eCells_isByte _
  have hb4 : ∀ cs ∈ eCells top, isByte cs := eCells_isByte _
  repeat' (first | refine tr_seq ?_ | refine tr_block ?_ | refine tr_skip ?_)
  refine tr_cond rfl (fun hc => ?_) (fun hc => ?_)
  · have hc0 : m = 0 := of_decide_eq_true hc
    rw [if_pos hc0]
    repeat' (first | refine tr_seq ?_ | refine reg (T := tab) tOk hnt rfl ?_ ?_ | refine regD (T := tab) tOk mixedR hnt rfl (by decide +kernel) ?_ ?_ | refine tr_block ?_ | refine tr_skip ?_)
    · (dsimp only [AllP]; (repeat' first | exact trivial | assumption | exact Nat.le_of_ble_eq_true rfl | apply And.intro | exact eCells_len1 _ _ ‹_› | exact eCells_isByte _ _ ‹_› | intro _ | exact rfl | omega))
    · (dsimp only [AllP]; (repeat' first | exact trivial | assumption | exact Nat.le_of_ble_eq_true rfl | apply And.intro | decide | intro _ | exact rfl))
    have hcc : (!(bif (bif decide (((path.map fun p => [eBytes p]).length : Int) = 0) then strEq (bytesOf (eCells old)) (bytesOf (eCells d)) else false) then (bif decide (0 < n) then true else strEq (bytesOf (eCells top)) (bytesOf (eCells old))) else false)) = !decide (path = [] ∧ d = old ∧ (n = 0 → d = top)) := by
      rw [strEq_B, strEq_B]
      have h : decide (((path.map fun p => [eBytes p]).length : Int) = 0) = decide (path = []) := by
        cases path <;> simp <;> omega
      rw [h]
      have hn : ¬ n = 0 ↔ 0 < n := by omega
      by_cases q1 : path = [] <;> by_cases q2 : old = d <;> by_cases q3 : n = 0
      all_goals (try have q3' := hn.1 q3)
      all_goals (try subst q2)
      all_goals simp [*, eq_comm]
    repeat' (first | refine tr_seq ?_ | refine tr_block ?_ | refine tr_skip ?_)
    refine tr_cond rfl (fun hc => ?_) (fun hc => ?_)
    · have hc := hcc.symm.trans hc
      rw [if_neg (of_decide_eq_false ((Bool.not_eq_true' _).mp hc))]
      repeat' (first | refine tr_seq ?_ | refine reg (T := tab) tOk hnt rfl ?_ ?_ | refine regD (T := tab) tOk mixedR hnt rfl (by decide +kernel) ?_ ?_ | refine tr_block ?_ | refine tr_skip ?_)
      · (dsimp only [AllP]; (repeat' first | exact trivial | assumption | exact Nat.le_of_ble_eq_true rfl | apply And.intro | decide | intro _ | exact rfl))
      exact tr_ret ⟨.inr rfl, _, _, rfl, trivial, rfl⟩
    have hc := hcc.symm.trans hc
    rw [if_pos (of_decide_eq_true ((Bool.not_eq_false' ..).mp hc))]
    repeat' (first | refine tr_seq ?_ | refine reg (T := tab) tOk hnt rfl ?_ ?_ | refine regD (T := tab) tOk mixedR hnt rfl (by decide +kernel) ?_ ?_ | refine tr_block ?_ | refine tr_skip ?_)
    · (dsimp only [AllP]; (repeat' first | exact trivial | assumption | exact Nat.le_of_ble_eq_true rfl | apply And.intro | decide | intro _ | exact rfl))
    exact tr_ret ⟨.inr rfl, _, _, rfl, trivial, rfl⟩
  have hc0 : ¬ m = 0 := of_decide_eq_false hc
  rw [if_neg hc0]
  obtain ⟨m, rfl⟩ : ∃ q : Nat, m = (q : Int) := ⟨m.toNat, by omega⟩
  obtain ⟨n, rfl⟩ : ∃ q : Nat, n = (q : Int) := ⟨n.toNat, by omega⟩
  rw [Int.toNat_natCast, Int.toNat_natCast]
  repeat' (first | refine tr_seq ?_ | refine reg (T := tab) tOk hnt rfl ?_ ?_ | refine regD (T := tab) tOk mixedR hnt rfl (by decide +kernel) ?_ ?_ | refine tr_block ?_ | refine tr_skip ?_)
  · (dsimp only [AllP]; (repeat' first | exact trivial | assumption | exact Nat.le_of_ble_eq_true rfl | apply And.intro | decide | intro _ | exact rfl))
  repeat' (first | refine tr_seq ?_ | refine tr_block ?_ | refine tr_skip ?_)
  refine tr_cond rfl (fun hc => ?_) (fun hc => ?_)
  · have hc : (m : Int) = (n : Int) := of_decide_eq_true hc
    have hmn : m = n := by omega
    subst hmn
    rw [show shE 64 m m true = (true, []) by rw [shE, if_pos rfl]]
    have hee : (bif decide (((path.map fun p => [eBytes p]).length : Int) = 0) then strEq (bytesOf (eCells old)) (bytesOf (eCells top)) else false) = decide (endE (exO (pO mode) old true [] path) old top = 0) := by
      rw [strEq_B]
      cases path with
      | nil =>
        show decide (old = top) = decide ((if old = old ∧ old = top then (0 : Int) else 10) = 0)
        by_cases h : old = top <;> simp [h]
      | cons p ps =>
        have h : decide (((List.map (fun p => [eBytes p]) (p :: ps)).length : Int) = 0) = false := by
          simp
          omega
        rw [h]
        rfl
    have h10 := endE_two (exO (pO mode) old true [] path) old top
    generalize endE (exO (pO mode) old true [] path) old top = R at *
    repeat' (first | refine tr_seq ?_ | refine reg (T := tab) tOk hnt rfl ?_ ?_ | refine regD (T := tab) tOk mixedR hnt rfl (by decide +kernel) ?_ ?_ | refine tr_block ?_ | refine tr_skip ?_)
    · (dsimp only [AllP]; (repeat' first | exact trivial | assumption | exact Nat.le_of_ble_eq_true rfl | apply And.intro | exact eCells_len1 _ _ ‹_› | exact eCells_isByte _ _ ‹_› | intro _ | exact rfl | omega))
    · (dsimp only [AllP]; (repeat' first | exact trivial | assumption | exact Nat.le_of_ble_eq_true rfl | apply And.intro | decide | intro _ | exact rfl))
    repeat' (first | refine tr_seq ?_ | refine tr_block ?_ | refine tr_skip ?_)
    refine tr_cond rfl (fun hc => ?_) (fun hc => ?_)
    · have hc := of_decide_eq_false (hee.symm.trans ((Bool.not_eq_true' _).mp hc))
      rw [h10.resolve_left hc]
      repeat' (first | refine tr_seq ?_ | refine reg (T := tab) tOk hnt rfl ?_ ?_ | refine regD (T := tab) tOk mixedR hnt rfl (by decide +kernel) ?_ ?_ | refine tr_block ?_ | refine tr_skip ?_)
      · (dsimp only [AllP]; (repeat' first | exact trivial | assumption | exact Nat.le_of_ble_eq_true rfl | apply And.intro | decide | intro _ | exact rfl))
      exact tr_ret ⟨.inr rfl, _, _, rfl, trivial, rfl⟩
    have hc := of_decide_eq_true (hee.symm.trans ((Bool.not_eq_false' ..).mp hc))
    rw [hc]
    repeat' (first | refine tr_seq ?_ | refine reg (T := tab) tOk hnt rfl ?_ ?_ | refine regD (T := tab) tOk mixedR hnt rfl (by decide +kernel) ?_ ?_ | refine tr_block ?_ | refine tr_skip ?_)
    · (dsimp only [AllP]; (repeat' first | exact trivial | assumption | exact Nat.le_of_ble_eq_true rfl | apply And.intro | decide | intro _ | exact rfl))
    exact tr_ret ⟨.inr rfl, _, _, rfl, trivial, rfl⟩
  have hc : ¬ (m : Int) = (n : Int) := of_decide_eq_false hc
  have hx := extended_fn mode old m top n path (by omega) (by omega) (by omega) hpl
  have h10 := endE_two (exO (pO mode) old (shE 64 m n true).1 (shE 64 m n true).2 path) old top
  generalize endE (exO (pO mode) old (shE 64 m n true).1 (shE 64 m n true).2 path) old top = R at *
  repeat' (first | refine tr_seq ?_ | refine tr_block ?_ | refine tr_skip ?_)
  refine tr_region (lex (T := tab) tOk hnt rfl ?_ (call rfl rfl rfl rfl rfl rfl rfl hnt (hx) (lex (T := tab) tOk hnt rfl ?_ (Lex.nil _)))) ?_
  · (dsimp only [AllP]; (repeat' first | exact trivial | assumption | exact Nat.le_of_ble_eq_true rfl | apply And.intro | decide | intro _ | exact rfl))
  · (dsimp only [AllP]; (repeat' first | exact trivial | assumption | exact Nat.le_of_ble_eq_true rfl | apply And.intro | decide | intro _ | exact rfl))
  repeat' (first | refine tr_seq ?_ | refine reg (T := tab) tOk hnt rfl ?_ ?_ | refine regD (T := tab) tOk mixedR hnt rfl (by decide +kernel) ?_ ?_ | refine tr_block ?_ | refine tr_skip ?_)
  · (dsimp only [AllP]; (repeat' first | exact trivial | assumption | exact Nat.le_of_ble_eq_true rfl | apply And.intro | decide | intro _ | exact rfl))
  repeat' (first | refine tr_seq ?_ | refine tr_block ?_ | refine tr_skip ?_)
  refine tr_cond rfl (fun hc => ?_) (fun hc => ?_)
  · have hc := of_decide_eq_false ((Bool.not_eq_true' _).mp hc)
    rw [h10.resolve_left hc]
    repeat' (first | refine tr_seq ?_ | refine reg (T := tab) tOk hnt rfl ?_ ?_ | refine regD (T := tab) tOk mixedR hnt rfl (by decide +kernel) ?_ ?_ | refine tr_block ?_ | refine tr_skip ?_)
    · (dsimp only [AllP]; (repeat' first | exact trivial | assumption | exact Nat.le_of_ble_eq_true rfl | apply And.intro | decide | intro _ | exact rfl))
    exact tr_ret ⟨.inr rfl, _, _, rfl, trivial, rfl⟩
  have hc := of_decide_eq_true ((Bool.not_eq_false' ..).mp hc)
  rw [hc]
  repeat' (first | refine tr_seq ?_ | refine reg (T := tab) tOk hnt rfl ?_ ?_ | refine regD (T := tab) tOk mixedR hnt rfl (by decide +kernel) ?_ ?_ | refine tr_block ?_ | refine tr_skip ?_)
  · (dsimp only [AllP]; (repeat' first | exact trivial | assumption | exact Nat.le_of_ble_eq_true rfl | apply And.intro | decide | intro _ | exact rfl))
  exact tr_ret ⟨.inr rfl, _, _, rfl, trivial, rfl⟩
set_option maxRecDepth 10000 in
theorem extendChecks_fn (mode : Int) (old : Byt) (m : Int) (top : Byt) (n : Int) (path : List Byt) (hpl : path.length ≤ 2000000) : FnG Tryd.prog 8 gK [.one (.e (eI mode)), .one (.e (eBytes old)), .one (.e (eI m)), .one (.e (eBytes top)), .one (.e (eI n)), .one (.e (eLists path))] (.v (.bool true)) := by
  refine fn_introG (T := tab) tOk Tryd.func8 rfl (by kernel_rfl) (by simp [Tryd.ntmps8]) ?_
  intro X hX
  have hnt : X.nt = 32 := hX
  clear hX
  have h1 := CheckExtend_fn mode old m top n path
  have h2 := ExtendFault_fn mode old m top n path hpl
  generalize ecF mode old m top n path = r at *
  repeat' (first | refine tr_seq ?_ | refine reg (T := tab) tOk hnt rfl ?_ ?_ | refine regD (T := tab) tOk mixedR hnt rfl (by decide +kernel) ?_ ?_ | refine tr_block ?_ | refine tr_skip ?_)
  · (dsimp only [AllP]; (repeat' first | exact trivial | assumption | exact Nat.le_of_ble_eq_true rfl | apply And.intro | decide | intro _ | exact rfl))
  repeat' (first | refine tr_seq ?_ | refine tr_block ?_ | refine tr_skip ?_)
  refine tr_region (lex (T := tab) tOk hnt rfl ?_ (callV rfl rfl rfl rfl rfl rfl rfl hnt rfl (h1) (lex (T := tab) tOk hnt rfl ?_ (Lex.nil _)))) ?_
  · (dsimp only [AllP]; (repeat' first | exact trivial | assumption | exact Nat.le_of_ble_eq_true rfl | apply And.intro | decide | intro _ | exact rfl))
  · (dsimp only [AllP]; (repeat' first | exact trivial | assumption | exact Nat.le_of_ble_eq_true rfl | apply And.intro | decide | intro _ | exact rfl))
  repeat' (first | refine tr_seq ?_ | refine tr_block ?_ | refine tr_skip ?_)
  refine tr_region (lex (T := tab) tOk hnt rfl ?_ (call rfl rfl rfl rfl rfl rfl rfl hnt (h2) (lex (T := tab) tOk hnt rfl ?_ (Lex.nil _)))) ?_
  · (dsimp only [AllP]; (repeat' first | exact trivial | assumption | exact Nat.le_of_ble_eq_true rfl | apply And.intro | decide | intro _ | exact rfl))
  · (dsimp only [AllP]; (repeat' first | exact trivial | assumption | exact Nat.le_of_ble_eq_true rfl | apply And.intro | decide | intro _ | exact rfl))
  repeat' (first | refine tr_seq ?_ | refine reg (T := tab) tOk hnt rfl ?_ ?_ | refine regD (T := tab) tOk mixedR hnt rfl (by decide +kernel) ?_ ?_ | refine tr_block ?_ | refine tr_skip ?_)
  · (dsimp only [AllP]; (repeat' first | exact trivial | assumption | exact Nat.le_of_ble_eq_true rfl | apply And.intro | decide | intro _ | exact rfl))
  refine tr_ret ⟨.inr rfl, _, _, rfl, by trivial, ?_⟩
  simp
  rfl
theorem bulk_long {α : Type} (c : Cd α) (xs : List α) (h : ∀ x, 1 ≤ c.bulk x) : xs.length ≤ (cSlice c).bulk xs := by
  show xs.length ≤ (xs.map c.bulk).sum + 1
  induction xs with
  | nil => exact Nat.zero_le _
  | cons x xs ih =>
    have := h x
    rw [List.map_cons, List.sum_cons, List.length_cons]
    omega
end Go.Proofs.YtjpmghphkkhcjaaDoor
