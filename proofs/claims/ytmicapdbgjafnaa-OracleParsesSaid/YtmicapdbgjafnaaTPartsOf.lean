/- Part of the proof: steps of the program over abstract states. No condition. -/
import Derived.Test.YtmicapdbgjafnaaTNum
namespace Go.Proofs.Ytmicapdbgjafnaa
open Go Go.RowKit Go.Proofs.Ytmicapdbgjafnaa.Ab

theorem num4 (l : List UInt8) (at_ : Nat) (h : at_ + 4 ≤ l.length) : numF ((l.take (at_ + 4)).drop at_) = be4 (l.drop at_) := by
  have e : (l.take (at_ + 4)).drop at_ = [(l.drop at_).getD 0 0, (l.drop at_).getD 1 0, (l.drop at_).getD 2 0, (l.drop at_).getD 3 0] := by
    rw [List.drop_take, show at_ + 4 - at_ = 4 by omega]
    have hl : 4 ≤ (l.drop at_).length := by rw [List.length_drop]; omega
    generalize l.drop at_ = r at hl
    match r, hl with
    | a :: b :: c :: d :: r, _ => rfl
  rw [e]
  unfold be4
  generalize (l.drop at_).getD 0 0 = a
  generalize (l.drop at_).getD 1 0 = b
  generalize (l.drop at_).getD 2 0 = c
  generalize (l.drop at_).getD 3 0 = d
  have := a.toNat_lt
  have := b.toNat_lt
  have := c.toNat_lt
  have := d.toNat_lt
  simp only [numF, List.foldl]
  omega

section
variable {b : List UInt8}
theorem pf1 (h : 16777216 < b.length) : parseF b = (0, [], 1) := by simp only [parseF, if_pos h]
theorem pf2 (h1 : ¬ 16777216 < b.length) (h : b.length < 1) : parseF b = (0, [], 4) := by simp only [parseF, if_neg h1, if_pos h]
theorem pf3 (h1 : ¬ 16777216 < b.length) (h2 : ¬ b.length < 1) (h : (b.getD 0 0).toNat < 1 ∨ 9 < (b.getD 0 0).toNat) : parseF b = (0, [], 6) := by simp only [parseF, if_neg h1, if_neg h2, if_pos h]
theorem pf4 (h1 : ¬ 16777216 < b.length) (h2 : ¬ b.length < 1) (h3 : ¬ ((b.getD 0 0).toNat < 1 ∨ 9 < (b.getD 0 0).toNat)) (h : b.length < 2) : parseF b = (0, [], 4) := by simp only [parseF, if_neg h1, if_neg h2, if_neg h3, if_pos h]
theorem pf5 (h1 : ¬ 16777216 < b.length) (h2 : ¬ b.length < 1) (h3 : ¬ ((b.getD 0 0).toNat < 1 ∨ 9 < (b.getD 0 0).toNat)) (h4 : ¬ b.length < 2) (h : 8 < (b.getD 1 0).toNat) : parseF b = (0, [], 1) := by simp only [parseF, if_neg h1, if_neg h2, if_neg h3, if_neg h4, if_pos h]
theorem pf6 (h1 : ¬ 16777216 < b.length) (h2 : ¬ b.length < 1) (h3 : ¬ ((b.getD 0 0).toNat < 1 ∨ 9 < (b.getD 0 0).toNat)) (h4 : ¬ b.length < 2) (h : ¬ 8 < (b.getD 1 0).toNat) : parseF b = match prs (b.getD 1 0).toNat (b.drop 2) [] with
    | none => (0, [], 4)
    | some (ps, r) => if 0 < r.length then (0, [], 3) else ((b.getD 0 0).toNat, ps, 0) := by
  simp only [parseF, if_neg h1, if_neg h2, if_neg h3, if_neg h4, if_neg h]
  rfl
end
theorem tagB {n : Nat} {b : Bool} (h : (bif decide ((n : Int) = 0) then true else decide (9 < (n : Int))) = b) : b = true ↔ (n < 1 ∨ 9 < n) := by
  subst h
  simp
  omega
theorem be4_lt (l : List UInt8) : be4 l < 4294967296 := by
  unfold be4
  have := (l.getD 0 0).toNat_lt
  have := (l.getD 1 0).toNat_lt
  have := (l.getD 2 0).toNat_lt
  have := (l.getD 3 0).toNat_lt
  omega
theorem numAt (b : List UInt8) (at_ : Nat) (h : at_ + 4 ≤ b.length) (hb : b.length ≤ 1000000000) : IntKind.i64.wrap (numF ((strB b).extract (Int.toNat (at_ : Int)) (Int.toNat (IntKind.i64.wrap ((at_ : Int) + 4)))).data.toList : Int) = (be4 (b.drop at_) : Int) := by
  have e4 : IntKind.i64.wrap ((at_ : Int) + 4) = ((at_ + 4 : Nat) : Int) := by
    rw [wrap64_id (by omega) (by omega)]
    omega
  have := be4_lt (b.drop at_)
  rw [e4, Int.toNat_natCast, Int.toNat_natCast, strB_extract, strB_list, num4 b at_ h, wrap64_id (by omega) (by omega)]
theorem ext_size (b : List UInt8) (i j : Nat) : ((strB b).extract i j).size ≤ b.length := by
  rw [strB_extract, strB_size, List.length_drop, List.length_take]
  omega
/-- bytes of a string, made anew -/
theorem accStepS (acc : List (List UInt8)) (l : List UInt8) (i j : Nat) : List.map (fun p => [eBytes p]) acc ++ [[E.sl (strBytes ((strB l).extract i j))]] = List.map (fun p => [eBytes p]) (acc ++ [(l.take j).drop i]) := by
  rw [strB_extract, strBytes_B, List.map_append]
  rfl

set_option maxRecDepth 10000 in
theorem parts_fn (b : List UInt8) : FnD Try.prog 14 [.one (.e (eBytes b))] (rParse (parseF b)) := by
  refine fn_intro (T := tab) tOk Try.func14 rfl (by kernel_rfl) (by simp [Try.ntmps14]) ?_
  intro X hX
  have hnt : X.nt = 87 := hX
  clear hX
  refine tr_seq (reg (T := tab) tOk hnt rfl ?_ ?_)
  · simp only [AllP, true_and, and_true, implies_true]
  refine tr_seq (reg (T := tab) tOk hnt rfl ?_ ?_)
  · dsimp only [AllP]
    simp only [true_and]
    exact ⟨eCells_isByte b, trivial⟩
  rw [strB_of]
  repeat' (first | refine tr_seq ?_ | refine reg (T := tab) tOk hnt rfl ?_ ?_ | refine regD (T := tab) tOk mixed hnt rfl (by decide +kernel) ?_ ?_ | refine tr_cond rfl (fun _ => ?_) (fun _ => ?_) | refine tr_block ?_ | refine tr_skip ?_ | refine tr_ret ?_ | refine tr_exit ?_)
  all_goals (try (simp only [AllP, true_and, and_true, implies_true]; done))
  all_goals (simp only [decide_eq_true_eq, decide_eq_false_iff_not, strB_size, strB_list, show Int.toNat 0 = 0 from rfl, show Int.toNat 1 = 1 from rfl, wrapB] at *)
  · rename_i h
    refine ⟨.inr rfl, _, _, rfl, by trivial, ?_⟩
    rw [pf1 (by omega)]
    rfl
  · rename_i h1 h
    refine ⟨.inr rfl, _, _, rfl, by trivial, ?_⟩
    rw [pf2 (by omega) (by omega)]
    rfl
  · rename_i h1 h
    dsimp only [AllP]
    simp only [true_and, and_true, implies_true, strB_size]
    (repeat' apply And.intro) <;> first | trivial | omega | (intros; trivial) | (intro _; omega) | simp
  · rename_i h1 h2 h
    refine ⟨.inr rfl, _, _, rfl, by trivial, ?_⟩
    rw [pf3 (by omega) (by omega) ((tagB h).1 rfl)]
    rfl
  · rename_i h1 h2 h h3
    refine ⟨.inr rfl, _, _, rfl, by trivial, ?_⟩
    rw [pf4 (by omega) (by omega) (fun hc => by cases (tagB h).2 hc) (by omega)]
    rfl
  · rename_i h h1 h2 h3
    dsimp only [AllP]
    simp only [true_and, and_true, implies_true, strB_size]
    (repeat' apply And.intro) <;> first | trivial | omega | (intros; trivial) | (intro _; omega) | simp
  · rename_i h1 h2 h h3 h4
    refine ⟨.inr rfl, _, _, rfl, by trivial, ?_⟩
    rw [pf5 (by omega) (by omega) (fun hc => by cases (tagB h).2 hc) (by omega) (by omega)]
    rfl
  rename_i h1 h2 h h3 h4
  have ht := (fun hc => by cases (tagB h).2 hc : ¬ ((b.getD 0 0).toNat < 1 ∨ 9 < (b.getD 0 0).toNat))
  rw [pf6 (by omega) (by omega) ht (by omega) (by omega)]
  obtain ⟨n, hn⟩ : ∃ n, n = (b.getD 1 0).toNat := ⟨_, rfl⟩
  rw [← hn] at h4 ⊢
  have hn8 : n ≤ 8 := by omega
  have hl1 : 1 < b.length := by omega
  have hlm : b.length ≤ 16777216 := by omega
  have hb : b.length ≤ 1000000000 := Nat.le_trans hlm (by decide)
  clear h h4
  refine tr_loop (σ := Nat × Nat × List (List UInt8))
    (fun x => St.of [(5, .v (.string (strB b))), (6, .one (.own 75 0)), (7, .v (.int .i64 x.2.1)), (8, .v (.int .i64 x.1))] [(75, ⟨0, .row 1 (x.2.2.map fun p => [eBytes p]), 0⟩)])
    (fun x => x.1 ≤ n ∧ prs (n - x.1) (b.drop x.2.1) x.2.2 = prs n (b.drop 2) [] ∧ x.2.1 ≤ b.length ∧ x.2.2.length = x.1) (fun x => n - x.1) (0, 2, []) (le_of (ad := [75]) ⟨rfl, ⟨rfl, rfl⟩, rfl, rfl, trivial⟩ (memOk_new rfl Nat.zero_lt_one trivial)) ⟨Nat.zero_le _, rfl, by dsimp only; omega, rfl⟩ ?_
  rintro ⟨k, at_, acc⟩ ⟨j1, j2, j3, j4⟩
  dsimp only at j1 j2 j3 j4 ⊢
  have en : IntKind.i64.wrap (((strB b).data.toList.getD (Int.toNat 1) 0).toNat : Int) = (n : Int) := by
    rw [strB_list, show Int.toNat 1 = 1 from rfl, wrapB, hn]
  have es : IntKind.i64.wrap (((strB b).size : Int) - (at_ : Int)) = ((b.length - at_ : Nat) : Int) := by
    rw [strB_size, wrap64_id (by omega) (by omega)]
    omega
  repeat' (first | refine tr_seq ?_ | refine reg (T := tab) tOk hnt rfl ?_ ?_ | refine tr_cond rfl (fun _ => ?_) (fun _ => ?_) | refine tr_block ?_ | refine tr_skip ?_ | refine tr_ret ?_ | refine tr_exit ?_)
  all_goals (try (simp only [AllP, true_and, and_true, implies_true]; done))
  all_goals (rw [en] at *)
  · dsimp only [AllP]
    simp only [true_and, and_true, strB_size]
    clear en es
    exact ⟨by decide, by omega⟩
  · rename_i hk h
    rw [es] at h
    clear en es
    simp only [decide_eq_true_eq] at hk h
    refine ⟨.inr rfl, _, _, rfl, by trivial, ?_⟩
    have hp : prs n (b.drop 2) [] = none := by
      rw [← j2, show n - k = (n - k - 1) + 1 by omega, prs, if_pos (by rw [List.length_drop]; omega)]
    rw [hp]
    rfl
  · rename_i hk h
    rw [es] at h
    clear en es
    simp only [decide_eq_true_eq, decide_eq_false_iff_not] at hk h
    have hl4 : at_ + 4 ≤ b.length := by omega
    have hstep : prs n (b.drop 2) [] = if ((b.drop at_).drop 4).length < be4 (b.drop at_) then none else prs (n - k - 1) (((b.drop at_).drop 4).drop (be4 (b.drop at_))) (acc ++ [((b.drop at_).drop 4).take (be4 (b.drop at_))]) := by
      rw [← j2, show n - k = (n - k - 1) + 1 by omega, prs, if_neg (by rw [List.length_drop]; omega)]
      rw [show n - k - 1 + 1 - 1 = n - k - 1 by omega]
    have e4 : IntKind.i64.wrap ((at_ : Int) + 4) = ((at_ + 4 : Nat) : Int) := by
      rw [wrap64_id (by omega) (by omega)]
      omega
    have eN := numAt b at_ hl4 hb
    have hK := be4_lt (b.drop at_)
    refine tr_region (lex (T := tab) tOk hnt rfl ?_ (call rfl rfl rfl rfl rfl rfl rfl hnt (num_fn _ (Nat.le_trans (ext_size b _ _) hb)) (lex (T := tab) tOk hnt rfl ?_ (Lex.nil _)))) ?_
    · dsimp only [AllP]
      simp only [true_and, and_true, strB_size, e4]
      clear eN e4
      omega
    · simp only [AllP, true_and, and_true]
    rw [eN]
    clear eN
    generalize be4 (b.drop at_) = K at hstep hK
    have es4 : IntKind.i64.wrap (((strB b).size : Int) - ((at_ + 4 : Nat) : Int)) = ((b.length - (at_ + 4) : Nat) : Int) := by
      rw [strB_size, wrap64_id (by omega) (by omega)]
      omega
    have eA : IntKind.i64.wrap (((at_ + 4 : Nat) : Int) + (K : Int)) = ((at_ + 4 + K : Nat) : Int) := by
      rw [wrap64_id (by omega) (by omega)]
      omega
    refine tr_seq (reg (T := tab) tOk hnt rfl ?_ ?_)
    · simp only [AllP, true_and, and_true]
    rw [e4]
    clear e4
    repeat' (first | refine tr_seq ?_ | refine reg (T := tab) tOk hnt rfl ?_ ?_ | refine tr_cond rfl (fun _ => ?_) (fun _ => ?_) | refine tr_block ?_ | refine tr_skip ?_ | refine tr_ret ?_ | refine tr_exit ?_)
    all_goals (try (simp only [AllP, true_and, and_true, implies_true]; done))
    · rename_i h'
      rw [es4] at h'
      clear es4 eA
      simp only [decide_eq_true_eq] at h'
      refine ⟨.inr rfl, _, _, rfl, by trivial, ?_⟩
      rw [hstep, if_pos (by rw [List.length_drop, List.length_drop]; omega)]
      rfl
    · rename_i h'
      rw [es4] at h'
      rw [eA]
      clear es4 eA
      simp only [decide_eq_false_iff_not] at h'
      dsimp only [AllP]
      simp only [true_and, and_true, strB_size, List.length_map, List.length_singleton, maxLen]
      have hx : ((strB b).extract (Int.toNat ((at_ + 4 : Nat) : Int)) (Int.toNat ((at_ + 4 + K : Nat) : Int))).size ≤ b.length := ext_size b _ _
      have hacc : acc.length ≤ 8 := by omega
      refine ⟨⟨by omega, by omega⟩, ⟨by decide, by decide⟩, ?_, by omega, by omega, by omega⟩
      omega
    · rename_i h'
      rw [es4] at h'
      rw [eA]
      clear es4 eA
      simp only [decide_eq_false_iff_not] at h'
      refine ⟨(k + 1, at_ + 4 + K, acc ++ [(b.take (at_ + 4 + K)).drop (at_ + 4)]), ⟨by dsimp only; omega, ?_, by dsimp only; omega, by simp [j4]⟩, by dsimp only; omega, le_of (ad := []) ⟨rfl, ⟨rfl, rfl, rfl, rfl⟩, rfl, ?_, trivial⟩ (memOk_row rfl rfl (accStepS acc b _ _) trivial)⟩
      · dsimp only
        rw [hstep, if_neg (by rw [List.length_drop, List.length_drop]; omega)]
        rw [show n - (k + 1) = n - k - 1 by omega, List.drop_drop (i := 4) (j := at_), List.drop_drop, List.drop_take, show at_ + 4 + K - (at_ + 4) = K by omega]
      · exact congrArg (fun z => E.v (.int .i64 z)) (wrap64_id (n := (k : Int) + 1) (by omega) (by omega))
  · rename_i hk h
    clear en es
    simp only [decide_eq_false_iff_not, Bool.not_eq_true', strB_size] at hk h
    refine ⟨.inr rfl, _, _, rfl, by trivial, ?_⟩
    have hp : prs n (b.drop 2) [] = some (acc, b.drop at_) := by
      rw [← j2, show n - k = 0 by omega, prs]
    rw [hp]
    simp only [if_pos (show 0 < (b.drop at_).length by rw [List.length_drop]; omega)]
    rfl
  · rename_i hk h
    clear en es
    dsimp only [AllP]
    simp only [true_and, and_true, strB_size]
    exact ⟨by decide, by omega⟩
  · rename_i hk h
    clear en es
    simp only [decide_eq_false_iff_not, Bool.not_eq_false', decide_eq_true_eq, strB_size] at hk h
    have hp : prs n (b.drop 2) [] = some (acc, b.drop at_) := by
      rw [← j2, show n - k = 0 by omega, prs]
    rw [hp]
    refine ⟨.inr rfl, _, _, rfl, by trivial, ?_⟩
    simp only [if_neg (show ¬ 0 < (b.drop at_).length by rw [List.length_drop]; omega), strB_list, show Int.toNat 0 = 0 from rfl, wrapB]
    rfl
end Go.Proofs.Ytmicapdbgjafnaa
