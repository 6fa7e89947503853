/- Part of the proof: steps of the program over abstract states. No condition. -/
import Derived.Test.YtmicapdbgjafnaaAbTab
import Derived.Test.YtmicapdbgjafnaaAbE
namespace Go.Proofs.Ytmicapdbgjafnaa
open Go Go.RowKit Go.Proofs.Ytmicapdbgjafnaa.Ab
theorem mixed : Try.prog.follows .mixedOrders = true := by kernel_rfl

def be4 (b : List UInt8) : Nat := (b.getD 0 0).toNat * 16777216 + (b.getD 1 0).toNat * 65536 + (b.getD 2 0).toNat * 256 + (b.getD 3 0).toNat
def prs : Nat → List UInt8 → List (List UInt8) → Option (List (List UInt8) × List UInt8)
  | 0, b, acc => some (acc, b)
  | n + 1, b, acc => if b.length < 4 then none else if (b.drop 4).length < be4 b then none else prs n ((b.drop 4).drop (be4 b)) (acc ++ [(b.drop 4).take (be4 b)])
def parseF (b : List UInt8) : Int × List (List UInt8) × Int :=
  if 16777216 < b.length then (0, [], 1) else
  if b.length < 1 then (0, [], 4) else
  if (b.getD 0 0).toNat < 1 ∨ 9 < (b.getD 0 0).toNat then (0, [], 6) else
  if b.length < 2 then (0, [], 4) else
  if 8 < (b.getD 1 0).toNat then (0, [], 1) else
  match prs (b.getD 1 0).toNat (b.drop 2) [] with
  | none => (0, [], 4)
  | some (ps, r) => if 0 < r.length then (0, [], 3) else ((b.getD 0 0).toNat, ps, 0)
def rParse (r : Int × List (List UInt8) × Int) : D := .tup [(false, .es [eI r.1]), (false, .es [eLists r.2.1]), (false, .es [eI r.2.2])]

theorem accStep (acc : List (List UInt8)) (K : Nat) (b4 : List UInt8) : List.map (fun p => [eBytes p]) acc ++ [[E.sl ([] ++ List.take ((K : Int).toNat - Int.toNat 0) (List.drop (Int.toNat 0) (eCells b4)))]] = List.map (fun p => [eBytes p]) (acc ++ [b4.take K]) := by
  rw [sl_to b4 K, List.map_append]
  rfl

set_option maxRecDepth 10000 in
theorem parse_fn (b : List UInt8) : FnD Try.prog 13 [.one (.e (eBytes b))] (rParse (parseF b)) := by
  refine fn_intro (T := tab) tOk Try.func13 rfl (by kernel_rfl) (by simp [Try.ntmps13]) ?_
  intro X hX
  have hnt : X.nt = 87 := hX
  clear hX
  have e0 : 0 < b.length → IntKind.i64.wrap (((eCells b).getD (Int.toNat 0) []).getD 0 E.dflt).int = ((b.getD 0 0).toNat : Int) := fun h => by
    rw [show Int.toNat 0 = 0 from rfl, rdB b 0 h, wrapB]
  have e1 : 1 < b.length → IntKind.i64.wrap (((eCells b).getD (Int.toNat 1) []).getD 0 E.dflt).int = ((b.getD 1 0).toNat : Int) := fun h => by
    rw [show Int.toNat 1 = 1 from rfl, rdB b 1 h, wrapB]
  repeat' (first | refine tr_seq ?_ | refine reg (T := tab) tOk hnt rfl ?_ ?_ | refine regD (T := tab) tOk mixed hnt rfl (by decide +kernel) ?_ ?_ | refine tr_cond rfl (fun _ => ?_) (fun _ => ?_) | refine tr_block ?_ | refine tr_skip ?_ | refine tr_ret ?_ | refine tr_exit ?_)
  all_goals (try (simp only [AllP, true_and, and_true, implies_true, List.getD_cons_zero, List.getD_cons_succ, E.xs, Nat.zero_add, Cs.len]; done))
  all_goals (simp only [decide_eq_true_eq, decide_eq_false_iff_not, eCells_length] at *)
  · rename_i h
    refine ⟨.inr rfl, _, _, rfl, by trivial, ?_⟩
    have h : 16777216 < b.length := by omega
    simp only [joinR, toTup, List.map_cons, List.map_nil, parseF, if_pos h, rParse, eI, eLists]
  · rename_i h h'
    refine ⟨.inr rfl, _, _, rfl, by trivial, ?_⟩
    have h : ¬ 16777216 < b.length := by omega
    have h' : b.length < 1 := by omega
    simp only [joinR, toTup, List.map_cons, List.map_nil, parseF, if_neg h, if_pos h', rParse, eI, eLists]
  · have hl : 0 < b.length := by omega
    simp only [AllP, true_and, and_true]
    exact ⟨⟨rdC b 0 hl, rdA b 0 hl⟩, by omega, by omega, rdL b 0 hl⟩
  · simp only [AllP]
    simp
  · rename_i h _ _
    have hl : 0 < b.length := by omega
    rw [e0 hl] at h
    refine ⟨.inr rfl, _, _, rfl, by trivial, ?_⟩
    have h1 : ¬ 16777216 < b.length := by omega
    have h2 : ¬ b.length < 1 := by omega
    have h3 : (b.getD 0 0).toNat < 1 ∨ 9 < (b.getD 0 0).toNat := by
      generalize (b.getD 0 0).toNat = n at h
      simp at h
      omega
    simp only [joinR, toTup, List.map_cons, List.map_nil, parseF, if_neg h1, if_neg h2, if_pos h3, rParse, eI, eLists]
  · rename_i h _ _ h'
    have hl : 0 < b.length := by omega
    rw [e0 hl] at h
    refine ⟨.inr rfl, _, _, rfl, by trivial, ?_⟩
    have h1 : ¬ 16777216 < b.length := by omega
    have h2 : ¬ b.length < 1 := by omega
    have h3 : ¬ ((b.getD 0 0).toNat < 1 ∨ 9 < (b.getD 0 0).toNat) := by
      generalize (b.getD 0 0).toNat = n at h
      simp at h
      omega
    have h4 : b.length < 2 := by omega
    simp only [joinR, toTup, List.map_cons, List.map_nil, parseF, if_neg h1, if_neg h2, if_neg h3, if_pos h4, rParse, eI, eLists]
  · have hl : 1 < b.length := by omega
    simp only [AllP, true_and, and_true]
    exact ⟨⟨rdC b 1 hl, rdA b 1 hl⟩, by omega, by omega, rdL b 1 hl⟩
  · rename_i h _ _ _ h'
    have hl : 0 < b.length := by omega
    have hl' : 1 < b.length := by omega
    rw [e0 hl] at h
    rw [e1 hl'] at h'
    refine ⟨.inr rfl, _, _, rfl, by trivial, ?_⟩
    have h1 : ¬ 16777216 < b.length := by omega
    have h2 : ¬ b.length < 1 := by omega
    have h3 : ¬ ((b.getD 0 0).toNat < 1 ∨ 9 < (b.getD 0 0).toNat) := by
      generalize (b.getD 0 0).toNat = n at h
      simp at h
      omega
    have h4 : ¬ b.length < 2 := by omega
    have h5 : 8 < (b.getD 1 0).toNat := by omega
    simp only [joinR, toTup, List.map_cons, List.map_nil, parseF, if_neg h1, if_neg h2, if_neg h3, if_neg h4, if_pos h5, rParse, eI, eLists]
  · simp only [AllP, true_and, and_true]
    exact ⟨by decide, by omega, by omega, eCells_len1 b⟩
  rename_i h _ _ _ h'
  have hl : 0 < b.length := by omega
  have hl' : 1 < b.length := by omega
  rw [e0 hl] at h
  rw [e1 hl'] at h'
  have h1 : ¬ 16777216 < b.length := by omega
  have h2 : ¬ b.length < 1 := by omega
  have h3 : ¬ ((b.getD 0 0).toNat < 1 ∨ 9 < (b.getD 0 0).toNat) := by
    generalize (b.getD 0 0).toNat = n at h
    simp at h
    omega
  have h4 : ¬ b.length < 2 := by omega
  have h5 : ¬ 8 < (b.getD 1 0).toNat := by omega
  have hF : parseF b = match prs (b.getD 1 0).toNat (b.drop 2) [] with
    | none => (0, [], 4)
    | some (ps, r) => if 0 < r.length then (0, [], 3) else ((b.getD 0 0).toNat, ps, 0) := by
    simp only [parseF, if_neg h1, if_neg h2, if_neg h3, if_neg h4, if_neg h5]
  rw [hF]
  obtain ⟨n, hn⟩ : ∃ n, n = (b.getD 1 0).toNat := ⟨_, rfl⟩
  obtain ⟨tag, htag⟩ : ∃ tag, tag = (b.getD 0 0).toNat := ⟨_, rfl⟩
  rw [← hn, ← htag]
  rw [← htag] at e0
  rw [← hn] at e1 h5
  have ee0 := e0 hl
  have ee1 := e1 hl'
  refine tr_loop (σ := Nat × List UInt8 × List (List UInt8))
    (fun x => St.of [(0, .one (.e (eBytes x.2.1))), (5, .v (.int .i64 tag)), (7, .one (.own 77 0)), (36, .v (.int .i64 n)), (37, .v (.int .i64 x.1))] [(77, ⟨0, .row 1 (x.2.2.map fun p => [eBytes p]), 0⟩)])
    (fun x => x.1 ≤ n ∧ prs (n - x.1) x.2.1 x.2.2 = prs n (b.drop 2) [] ∧ x.2.1.length ≤ 16777216 ∧ x.2.2.length = x.1) (fun x => n - x.1) (0, b.drop 2, []) (le_of (ad := [77]) ?_ ?_) ?_ ?_
  · simp only [tmOk, DSim, D0Sim, and_true]
    refine ⟨?_, ?_, ?_, ?_, ?_⟩
    · exact congrArg E.sl (sl_from b 2 _ rfl)
    · exact congrArg (fun z => E.v (.int .i64 z)) ee0
    · exact ⟨rfl, rfl⟩
    · exact congrArg (fun z => E.v (.int .i64 z)) ee1
    · rfl
  · exact ⟨Nat.zero_lt_one, trivial⟩
  · refine ⟨Nat.zero_le _, rfl, ?_, rfl⟩
    simp only [List.length_drop]
    omega
  rintro ⟨k, bc, acc⟩ ⟨j1, j2, j3, j4⟩
  clear e0 e1 ee0 ee1 h h' hF
  dsimp only at j1 j2 j3 j4 ⊢
  have g : ∀ i : Nat, i < bc.length → IntKind.i64.wrap (((eCells bc).getD i []).getD 0 E.dflt).int = ((bc.getD i 0).toNat : Int) := fun i h => by rw [rdB bc i h, wrapB]
  have eK : 3 < bc.length → W64 ((BitVec.ofInt IntKind.i64.bits (W64 ((BitVec.ofInt IntKind.i64.bits (W64 ((BitVec.ofInt IntKind.i64.bits (W64 (W64 (((eCells bc).getD (Int.toNat 0) []).getD 0 E.dflt).int * 2 ^ min (Int.toNat 24) IntKind.i64.bits)) ||| BitVec.ofInt IntKind.i64.bits (W64 (W64 (((eCells bc).getD (Int.toNat 1) []).getD 0 E.dflt).int * 2 ^ min (Int.toNat 16) IntKind.i64.bits))).toNat : Int)) ||| BitVec.ofInt IntKind.i64.bits (W64 (W64 (((eCells bc).getD (Int.toNat 2) []).getD 0 E.dflt).int * 2 ^ min (Int.toNat 8) IntKind.i64.bits))).toNat : Int)) ||| BitVec.ofInt IntKind.i64.bits (W64 (((eCells bc).getD (Int.toNat 3) []).getD 0 E.dflt).int)).toNat : Int) = (be4 bc : Int) := fun h => by
    have := or4 (bc.getD 0 0) (bc.getD 1 0) (bc.getD 2 0) (bc.getD 3 0)
    rw [← g 0 (by omega), ← g 1 (by omega), ← g 2 (by omega), ← g 3 (by omega)] at this
    exact this
  simp only [W64] at eK
  repeat' (first | refine tr_seq ?_ | refine reg (T := tab) tOk hnt rfl ?_ ?_ | refine tr_cond rfl (fun _ => ?_) (fun _ => ?_) | refine tr_block ?_ | refine tr_skip ?_ | refine tr_ret ?_ | refine tr_exit ?_)
  all_goals (try (simp only [AllP, true_and, and_true, implies_true, List.getD_cons_zero, List.getD_cons_succ, E.xs, Nat.zero_add, Cs.len]; done))
  · -- too short
    clear eK g
    rename_i hk h4
    simp only [decide_eq_true_eq, eCells_length] at hk h4
    refine ⟨.inr rfl, _, _, rfl, by trivial, ?_⟩
    have hp : prs n (b.drop 2) [] = none := by
      rw [← j2, show n - k = (n - k - 1) + 1 by omega, prs, if_pos (by omega)]
    rw [hp]
    rfl
  · rename_i hk h4
    simp only [decide_eq_true_eq, decide_eq_false_iff_not, eCells_length] at hk h4
    have hl4 : 3 < bc.length := by omega
    have eS4 : List.take (((eCells bc).length : Int).toNat - Int.toNat 4) (List.drop (Int.toNat 4) (eCells bc)) = eCells (bc.drop 4) := sl_from bc 4 ((eCells bc).length : Int) (by rw [eCells_length])
    have hstep : prs n (b.drop 2) [] = if (bc.drop 4).length < be4 bc then none else prs (n - k - 1) ((bc.drop 4).drop (be4 bc)) (acc ++ [(bc.drop 4).take (be4 bc)]) := by
      rw [← j2, show n - k = (n - k - 1) + 1 by omega, prs, if_neg (by omega)]
      rw [show n - k - 1 + 1 - 1 = n - k - 1 by omega]
    refine regD (T := tab) tOk mixed hnt rfl (by decide +kernel) ?_ ?_
    · dsimp only [AllP]
      simp only [eCells_length]
      (repeat' apply And.intro) <;> first | trivial | rfl | decide | omega | exact rdC bc _ (by omega) | exact rdA bc _ (by omega) | exact rdL bc _ (by omega) | (refine rdC bc _ ?_; show _ < _; decide +revert)
    rw [eK hl4]
    clear eK g
    refine tr_seq (reg (T := tab) tOk hnt rfl ?_ ?_)
    · dsimp only [AllP]
      simp only [eCells_length, true_and, and_true]
      exact ⟨by decide, by omega, by omega, eCells_len1 bc⟩
    rw [eS4]
    have hlen4 : (bc.drop 4).length ≤ 16777216 := by rw [List.length_drop]; omega
    generalize bc.drop 4 = b4 at hstep hlen4
    generalize be4 bc = K at hstep
    have eT := sl_to b4 K
    repeat' (first | refine tr_seq ?_ | refine reg (T := tab) tOk hnt rfl ?_ ?_ | refine tr_cond rfl (fun _ => ?_) (fun _ => ?_) | refine tr_block ?_ | refine tr_skip ?_ | refine tr_ret ?_ | refine tr_exit ?_)
    all_goals (try (simp only [AllP, true_and, and_true, implies_true, List.getD_cons_zero, List.getD_cons_succ, E.xs, Nat.zero_add, Cs.len]; done))
    · rename_i h
      simp only [decide_eq_true_eq, eCells_length] at h
      refine ⟨.inr rfl, _, _, rfl, by trivial, ?_⟩
      rw [hstep, if_pos (by omega)]
      rfl
    · rename_i h
      simp only [decide_eq_false_iff_not, eCells_length] at h
      rw [eT]
      dsimp only [AllP]
      simp only [true_and, and_true, List.nil_append, List.length_map, List.length_singleton, eCells_length, List.length_take, maxLen, List.length_nil]
      refine ⟨⟨by omega, by omega⟩, ⟨by decide, by omega⟩, ⟨eCells_len1 _, by omega, by omega⟩, ⟨by decide, by omega, by omega, eCells_len1 b4⟩, by omega, by omega⟩
    · rename_i h
      simp only [decide_eq_false_iff_not, eCells_length] at h
      dsimp only [AllP]
      simp only [true_and, and_true, eCells_length]
      exact ⟨by omega, by omega, by omega, eCells_len1 b4⟩
    · rename_i h
      simp only [decide_eq_false_iff_not, eCells_length] at h
      refine ⟨(k + 1, b4.drop K, acc ++ [b4.take K]), ⟨by dsimp only; omega, ?_, ?_, by simp [j4]⟩, by dsimp only; omega, le_of (ad := []) ?_ ?_⟩
      · rw [hstep, if_neg (by omega)]
        rw [show n - (k + 1) = n - k - 1 by omega]
      · dsimp only
        rw [List.length_drop]
        omega
      · refine ⟨?_, rfl, ⟨rfl, rfl, rfl, rfl⟩, rfl, ?_, trivial⟩
        · exact congrArg E.sl (sl_from b4 K _ (by rw [eCells_length]))
        · exact congrArg (fun z => E.v (.int .i64 z)) (wrap64_id (by omega) (by omega))
      · have hx : List.map (fun p => [eBytes p]) acc ++ [[E.sl ([] ++ List.take ((K : Int).toNat - Int.toNat 0) (List.drop (Int.toNat 0) (eCells b4)))]] = List.map (fun p => [eBytes p]) (acc ++ [b4.take K]) := by
          exact accStep acc K b4
        exact memOk_row rfl rfl hx trivial
  · clear eK g
    rename_i hk h
    simp only [decide_eq_true_eq, decide_eq_false_iff_not, eCells_length] at hk h
    refine ⟨.inr rfl, _, _, rfl, by trivial, ?_⟩
    have hp : prs n (b.drop 2) [] = some (acc, bc) := by
      rw [← j2, show n - k = 0 by omega, prs]
    rw [hp]
    simp only [if_pos (show 0 < bc.length by omega)]
    rfl
  · clear eK g
    rename_i hk h
    simp only [decide_eq_true_eq, decide_eq_false_iff_not, eCells_length] at hk h
    have hp : prs n (b.drop 2) [] = some (acc, bc) := by
      rw [← j2, show n - k = 0 by omega, prs]
    rw [hp]
    refine ⟨.inr rfl, _, _, rfl, by trivial, ?_⟩
    simp only [if_neg (show ¬ 0 < bc.length by omega)]
    rfl
end Go.Proofs.Ytmicapdbgjafnaa
