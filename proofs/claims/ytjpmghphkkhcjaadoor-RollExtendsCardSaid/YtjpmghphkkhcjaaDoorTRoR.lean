/- Rolls: roots. No condition. -/
import Derived.Test.YtjpmghphkkhcjaaDoorTRoB
namespace Go.Proofs.YtjpmghphkkhcjaaDoor
open Go Go.RowKit Go.Proofs.YtjpmghphkkhcjaaDoor.Ab

def rfF (mode : Int) (l : List Byt) : Int := if mode ≠ 1 ∧ mode ≠ 2 then 2 else if 64 < l.length then 1 else 0
def rtF (mode : Int) (l : List Byt) : Byt × Int := if l = [] then dgF mode 4 [] else outO (rtO (eO mode) (pO mode) 64 l)
def rollF (mode : Int) (l : List Byt) : Byt × Int := if rfF mode l ≠ 0 then ([], rfF mode l) else rtF mode l
theorem outO_ne {o : Option Byt} (h : (outO o).2 ≠ 0) : o = none ∧ (outO o).2 = 1 := by
  cases o with
  | none => exact ⟨rfl, rfl⟩
  | some d => exact absurd rfl h
theorem outO_eq {o : Option Byt} (h : (outO o).2 = 0) : o = some (outO o).1 := by
  cases o with
  | none => exact absurd h (by decide)
  | some d => rfl
theorem rfF_zero {mode : Int} {l : List Byt} (h : rfF mode l = 0) : ¬ (mode ≠ 1 ∧ mode ≠ 2) ∧ l.length ≤ 64 := by
  unfold rfF at h
  split at h
  · exact absurd h (by decide)
  · split at h
    · exact absurd h (by decide)
    · exact ⟨‹_›, by omega⟩
theorem dgF_one (mode : Int) (hm : ¬ (mode ≠ 1 ∧ mode ≠ 2)) (x : Byt) : dgF mode 5 [x] = outO (eO mode x) := dgF_out mode hm 5 (by decide) [x]
theorem dgF_two (mode : Int) (hm : ¬ (mode ≠ 1 ∧ mode ≠ 2)) (x y : Byt) : dgF mode 6 [x, y] = outO (pO mode x y) := dgF_out mode hm 6 (by decide) [x, y]
/-- value of a shape -/
def vT (mode : Int) (l : List Byt) (t : Shp) : Byt := (evT (eO mode) (pO mode) l t).getD []
def Gd (mode : Int) (l : List Byt) (t : Shp) : Prop := ¬ Bad (eO mode) (pO mode) l t
theorem gd_or (mode : Int) (l : List Byt) (t : Shp) : Gd mode l t ∨ Bad (eO mode) (pO mode) l t := by
  unfold Gd
  exact (Classical.em _).symm
theorem gd_val {mode : Int} {l : List Byt} {t : Shp} (h : Gd mode l t) : evT (eO mode) (pO mode) l t = some (vT mode l t) := by
  unfold vT
  unfold Gd Bad at h
  cases he : evT (eO mode) (pO mode) l t with
  | none => exact absurd he h
  | some d => rfl
def pkE (mode : Int) (l : List Byt) (ts : List (Nat × Shp)) : List (List E) := ts.reverse.map fun q => [eI (q.1 : Int), eBytes (vT mode l q.2)]
theorem pkE_len (mode : Int) (l : List Byt) (ts : List (Nat × Shp)) : (pkE mode l ts).length = ts.length := by simp [pkE]
theorem pkE_cons (mode : Int) (l : List Byt) (q : Nat × Shp) (ts : List (Nat × Shp)) : pkE mode l (q :: ts) = pkE mode l ts ++ [[eI (q.1 : Int), eBytes (vT mode l q.2)]] := by simp [pkE]
theorem pkE_two (mode : Int) (l : List Byt) (ts : List (Nat × Shp)) : ∀ cs ∈ pkE mode l ts, cs.length = 2 := by
  intro cs h
  obtain ⟨q, _, rfl⟩ := List.mem_map.1 h
  rfl
theorem pkE_last (mode : Int) (l : List Byt) (q : Nat × Shp) (ts : List (Nat × Shp)) : (pkE mode l (q :: ts)).getD ts.length [] = [eI (q.1 : Int), eBytes (vT mode l q.2)] := by
  rw [pkE_cons, List.getD_eq_getElem?_getD, List.getElem?_append_right (by rw [pkE_len]; exact Nat.le_refl _), pkE_len, Nat.sub_self]
  rfl
theorem pkE_take (mode : Int) (l : List Byt) (q : Nat × Shp) (ts : List (Nat × Shp)) : (pkE mode l (q :: ts)).take ts.length = pkE mode l ts := by
  rw [pkE_cons, ← pkE_len mode l ts, List.take_left']
  rfl
/-- the element ahead of the rest -/
theorem pkE_at (mode : Int) (l : List Byt) (us : List (Nat × Shp)) (q : Nat × Shp) (ts : List (Nat × Shp)) : (pkE mode l (us ++ q :: ts)).getD ts.length [] = [eI (q.1 : Int), eBytes (vT mode l q.2)] := by
  have h : pkE mode l (us ++ q :: ts) = pkE mode l (q :: ts) ++ pkE mode l us := by simp [pkE]
  rw [h, List.getD_eq_getElem?_getD, List.getElem?_append_left (by rw [pkE_len]; exact Nat.lt_succ_self _), ← List.getD_eq_getElem?_getD, pkE_last]
def szs (ts : List (Nat × Shp)) : Nat := (ts.map Prod.fst).sum
theorem szs_mem {ts : List (Nat × Shp)} {q : Nat × Shp} (h : q ∈ ts) : q.1 ≤ szs ts := by
  induction ts with
  | nil => cases h
  | cons p ts ih =>
    have e : szs (p :: ts) = p.1 + szs ts := by simp [szs]
    rcases List.mem_cons.1 h with rfl | h
    · omega
    · have := ih h
      omega
theorem mrg_szs : ∀ (ts : List (Nat × Shp)) (p : Nat × Shp), szs (mrg ts p) = szs ts + p.1
  | [], p => by simp [mrg, szs]
  | q :: qs, p => by
    rw [mrg]
    split
    · rename_i h
      rw [mrg_szs]
      simp [szs]
      omega
    · simp [szs]
      omega
theorem pkT_szs : ∀ k, szs (pkT k) = k
  | 0 => rfl
  | k + 1 => by rw [pkT, mrg_szs, pkT_szs k]
theorem pk_small : ∀ k : Fin 65, ((pkT k.val).all fun q => decide (1 ≤ q.1)) = true ∧ (pkT k.val).length ≤ 6 := by decide +kernel
theorem pk_rng {k : Nat} (h : k ≤ 64) : (∀ q ∈ pkT k, 1 ≤ q.1) ∧ (pkT k).length ≤ 6 := by
  obtain ⟨h1, h2⟩ := pk_small ⟨k, by omega⟩
  exact ⟨fun q hq => of_decide_eq_true (List.all_eq_true.1 h1 q hq), h2⟩
theorem pkT_ne {k : Nat} (h : 1 ≤ k) : pkT k ≠ [] := fun e => by
  have := pkT_szs k
  rw [e] at this
  have : (0 : Nat) = k := this
  omega
/-- one bad peak on the way: the root is bad -/
theorem roll_bad {mode : Int} {l : List Byt} (h1 : 1 ≤ l.length) (h2 : l.length ≤ 64) {k : Nat} (hk : k ≤ l.length) (h : bads (eO mode) (pO mode) l (pkT k)) : rtO (eO mode) (pO mode) 64 l = none := by
  rw [rtO_bag _ _ l h1 h2]
  have := pkT_bad h (l.length - k)
  rw [show k + (l.length - k) = l.length by omega] at this
  exact bagT_bad this
theorem root_two {E : Byt → Option Byt} {P : Byt → Byt → Option Byt} {f : Nat} {l : List Byt} (h : 2 ≤ l.length) : rtO E P (f + 1) l = (rtO E P f (l.take (hf l.length))).bind fun x => (rtO E P f (l.drop (hf l.length))).bind fun y => P x y := by
  rw [rtO, if_neg (by omega)]

set_option maxRecDepth 10000 in
theorem fault_fn (mode : Int) (l : List Byt) : FnD Tryd.prog 39 [.one (.e (eI mode)), .one (.e (eLists l))] (.one (.e (eI (rfF mode l)))) := by
  refine fn_intro (T := tab) tOk Tryd.func39 rfl (by kernel_rfl) (by simp [Tryd.ntmps39]) ?_
  intro X hX
  have hnt : X.nt = 11 := hX
  clear hX
  unfold rfF
  have hll := lsLen l
  repeat' (first | refine tr_seq ?_ | refine reg (T := tab) tOk hnt rfl ?_ ?_ | refine regD (T := tab) tOk mixedR hnt rfl (by decide +kernel) ?_ ?_ | refine tr_block ?_ | refine tr_skip ?_)
  · (dsimp only [AllP]; (repeat' first | exact trivial | assumption | exact Nat.le_of_ble_eq_true rfl | apply And.intro | decide | intro _ | exact rfl))
  repeat' (first | refine tr_seq ?_ | refine tr_block ?_ | refine tr_skip ?_)
  refine tr_region (lex (T := tab) tOk hnt rfl ?_ (call rfl rfl rfl rfl rfl rfl rfl hnt (rmodes_fn mode) (lex (T := tab) tOk hnt rfl ?_ (Lex.nil _)))) ?_
  · (dsimp only [AllP]; (repeat' first | exact trivial | assumption | exact Nat.le_of_ble_eq_true rfl | apply And.intro | decide | intro _ | exact rfl))
  · (dsimp only [AllP]; (repeat' first | exact trivial | assumption | exact Nat.le_of_ble_eq_true rfl | apply And.intro | decide | intro _ | exact rfl))
  rw [Bool.not_not]
  repeat' (first | refine tr_seq ?_ | refine tr_block ?_ | refine tr_skip ?_)
  refine tr_cond rfl (fun hc => ?_) (fun hc => ?_)
  · have hc := of_decide_eq_true hc
    rw [if_pos hc]
    repeat' (first | refine tr_seq ?_ | refine reg (T := tab) tOk hnt rfl ?_ ?_ | refine regD (T := tab) tOk mixedR hnt rfl (by decide +kernel) ?_ ?_ | refine tr_block ?_ | refine tr_skip ?_)
    · (dsimp only [AllP]; (repeat' first | exact trivial | assumption | exact Nat.le_of_ble_eq_true rfl | apply And.intro | decide | intro _ | exact rfl))
    exact tr_ret ⟨.inr rfl, _, _, rfl, trivial, rfl⟩
  have hc := of_decide_eq_false hc
  rw [if_neg hc]
  repeat' (first | refine tr_seq ?_ | refine reg (T := tab) tOk hnt rfl ?_ ?_ | refine regD (T := tab) tOk mixedR hnt rfl (by decide +kernel) ?_ ?_ | refine tr_block ?_ | refine tr_skip ?_)
  · (dsimp only [AllP]; (repeat' first | exact trivial | assumption | exact Nat.le_of_ble_eq_true rfl | apply And.intro | decide | intro _ | exact rfl))
  repeat' (first | refine tr_seq ?_ | refine tr_block ?_ | refine tr_skip ?_)
  refine tr_cond rfl (fun hc => ?_) (fun hc => ?_)
  · have hc : (64 : Int) < ((l.map fun p => [eBytes p]).length : Int) := of_decide_eq_true hc
    rw [if_pos (by omega)]
    repeat' (first | refine tr_seq ?_ | refine reg (T := tab) tOk hnt rfl ?_ ?_ | refine regD (T := tab) tOk mixedR hnt rfl (by decide +kernel) ?_ ?_ | refine tr_block ?_ | refine tr_skip ?_)
    · (dsimp only [AllP]; (repeat' first | exact trivial | assumption | exact Nat.le_of_ble_eq_true rfl | apply And.intro | decide | intro _ | exact rfl))
    exact tr_ret ⟨.inr rfl, _, _, rfl, trivial, rfl⟩
  have hc : ¬ (64 : Int) < ((l.map fun p => [eBytes p]).length : Int) := of_decide_eq_false hc
  rw [if_neg (by omega)]
  repeat' (first | refine tr_seq ?_ | refine reg (T := tab) tOk hnt rfl ?_ ?_ | refine regD (T := tab) tOk mixedR hnt rfl (by decide +kernel) ?_ ?_ | refine tr_block ?_ | refine tr_skip ?_)
  · (dsimp only [AllP]; (repeat' first | exact trivial | assumption | exact Nat.le_of_ble_eq_true rfl | apply And.intro | decide | intro _ | exact rfl))
  exact tr_ret ⟨.inr rfl, _, _, rfl, trivial, rfl⟩
set_option maxRecDepth 10000 in
theorem rollFault_fn (mode : Int) (l : List Byt) : FnD Tryd.prog 41 [.one (.e (eI mode)), .one (.e (eLists l))] (.one (.e (eI (rfF mode l)))) := by
  refine fn_intro (T := tab) tOk Tryd.func41 rfl (by kernel_rfl) (by simp [Tryd.ntmps41]) ?_
  intro X hX
  have hnt : X.nt = 10 := hX
  clear hX
  unfold rfF
  have hll := lsLen l
  repeat' (first | refine tr_seq ?_ | refine reg (T := tab) tOk hnt rfl ?_ ?_ | refine regD (T := tab) tOk mixedR hnt rfl (by decide +kernel) ?_ ?_ | refine tr_block ?_ | refine tr_skip ?_)
  · (dsimp only [AllP]; (repeat' first | exact trivial | assumption | exact Nat.le_of_ble_eq_true rfl | apply And.intro | decide | intro _ | exact rfl))
  repeat' (first | refine tr_seq ?_ | refine tr_block ?_ | refine tr_skip ?_)
  refine tr_region (lex (T := tab) tOk hnt rfl ?_ (call rfl rfl rfl rfl rfl rfl rfl hnt (badMode_fn mode) (lex (T := tab) tOk hnt rfl ?_ (Lex.nil _)))) ?_
  · (dsimp only [AllP]; (repeat' first | exact trivial | assumption | exact Nat.le_of_ble_eq_true rfl | apply And.intro | decide | intro _ | exact rfl))
  · (dsimp only [AllP]; (repeat' first | exact trivial | assumption | exact Nat.le_of_ble_eq_true rfl | apply And.intro | decide | intro _ | exact rfl))
  repeat' (first | refine tr_seq ?_ | refine tr_block ?_ | refine tr_skip ?_)
  refine tr_cond rfl (fun hc => ?_) (fun hc => ?_)
  · have hc := of_decide_eq_true hc
    rw [if_pos hc]
    repeat' (first | refine tr_seq ?_ | refine reg (T := tab) tOk hnt rfl ?_ ?_ | refine regD (T := tab) tOk mixedR hnt rfl (by decide +kernel) ?_ ?_ | refine tr_block ?_ | refine tr_skip ?_)
    · (dsimp only [AllP]; (repeat' first | exact trivial | assumption | exact Nat.le_of_ble_eq_true rfl | apply And.intro | decide | intro _ | exact rfl))
    exact tr_ret ⟨.inr rfl, _, _, rfl, trivial, rfl⟩
  have hc := of_decide_eq_false hc
  rw [if_neg hc]
  repeat' (first | refine tr_seq ?_ | refine reg (T := tab) tOk hnt rfl ?_ ?_ | refine regD (T := tab) tOk mixedR hnt rfl (by decide +kernel) ?_ ?_ | refine tr_block ?_ | refine tr_skip ?_)
  · (dsimp only [AllP]; (repeat' first | exact trivial | assumption | exact Nat.le_of_ble_eq_true rfl | apply And.intro | decide | intro _ | exact rfl))
  repeat' (first | refine tr_seq ?_ | refine tr_block ?_ | refine tr_skip ?_)
  refine tr_cond rfl (fun hc => ?_) (fun hc => ?_)
  · have hc : (64 : Int) < ((l.map fun p => [eBytes p]).length : Int) := of_decide_eq_true hc
    rw [if_pos (by omega)]
    repeat' (first | refine tr_seq ?_ | refine reg (T := tab) tOk hnt rfl ?_ ?_ | refine regD (T := tab) tOk mixedR hnt rfl (by decide +kernel) ?_ ?_ | refine tr_block ?_ | refine tr_skip ?_)
    · (dsimp only [AllP]; (repeat' first | exact trivial | assumption | exact Nat.le_of_ble_eq_true rfl | apply And.intro | decide | intro _ | exact rfl))
    exact tr_ret ⟨.inr rfl, _, _, rfl, trivial, rfl⟩
  have hc : ¬ (64 : Int) < ((l.map fun p => [eBytes p]).length : Int) := of_decide_eq_false hc
  rw [if_neg (by omega)]
  repeat' (first | refine tr_seq ?_ | refine reg (T := tab) tOk hnt rfl ?_ ?_ | refine regD (T := tab) tOk mixedR hnt rfl (by decide +kernel) ?_ ?_ | refine tr_block ?_ | refine tr_skip ?_)
  · (dsimp only [AllP]; (repeat' first | exact trivial | assumption | exact Nat.le_of_ble_eq_true rfl | apply And.intro | decide | intro _ | exact rfl))
  exact tr_ret ⟨.inr rfl, _, _, rfl, trivial, rfl⟩
theorem lsTake (l : List Byt) (k : Nat) : eLists (l.take k) = .sl (List.take (Int.toNat (k : Int) - Int.toNat 0) (List.drop (Int.toNat 0) (l.map fun p => [eBytes p]))) := by
  simp [eLists]
theorem lsDrop (l : List Byt) (k : Nat) : eLists (l.drop k) = .sl (List.take (Int.toNat ((l.map fun p => [eBytes p]).length : Int) - Int.toNat (k : Int)) (List.drop (Int.toNat (k : Int)) (l.map fun p => [eBytes p]))) := by
  unfold eLists
  rw [List.map_drop, Int.toNat_natCast, Int.toNat_natCast, List.take_of_length_le (by rw [List.length_drop]; exact Nat.le_refl _)]
set_option maxRecDepth 10000 in
theorem root_nil (mode : Int) : FnG Tryd.prog 40 gK [.one (.e (eI mode)), .one (.e (eLists []))] (rBE (dgF mode 4 [])) := by
  refine fn_introG (T := tab) tOk Tryd.func40 rfl (by kernel_rfl) (by simp [Tryd.ntmps40]) ?_
  intro X hX
  have hnt : X.nt = 58 := hX
  clear hX
  repeat' (first | refine tr_seq ?_ | refine reg (T := tab) tOk hnt rfl ?_ ?_ | refine regD (T := tab) tOk mixedR hnt rfl (by decide +kernel) ?_ ?_ | refine tr_block ?_ | refine tr_skip ?_)
  · (dsimp only [AllP]; (repeat' first | exact trivial | assumption | exact Nat.le_of_ble_eq_true rfl | apply And.intro | decide | intro _ | exact rfl))
  · (dsimp only [AllP]; (repeat' first | exact trivial | assumption | exact Nat.le_of_ble_eq_true rfl | apply And.intro | decide | intro _ | exact rfl))
  · (dsimp only [AllP]; (repeat' first | exact trivial | assumption | exact Nat.le_of_ble_eq_true rfl | apply And.intro | decide | intro _ | exact rfl))
  refine tr_cond rfl (fun _ => ?_) (fun h => nomatch (show true = false from h))
  repeat' (first | refine tr_seq ?_ | refine tr_block ?_ | refine tr_skip ?_)
  refine tr_region (lex (T := tab) tOk hnt rfl ?_ (callV rfl rfl rfl rfl rfl rfl rfl hnt rfl (Digest_fn mode 4 []) (lex (T := tab) tOk hnt rfl ?_ (Lex.nil _)))) ?_
  · (dsimp only [AllP]; (repeat' first | exact trivial | assumption | exact Nat.le_of_ble_eq_true rfl | apply And.intro | decide | intro _ | exact rfl))
  · (dsimp only [AllP]; (repeat' first | exact trivial | assumption | exact Nat.le_of_ble_eq_true rfl | apply And.intro | decide | intro _ | exact rfl))
  exact tr_ret ⟨.inr rfl, _, _, rfl, trivial, rfl⟩
set_option maxRecDepth 10000 in
theorem root_succ (mode : Int) (hm : ¬ (mode ≠ 1 ∧ mode ≠ 2)) (f : Nat) (ih : ∀ (l : List Byt), l ≠ [] → l.length ≤ f → l.length ≤ 64 → FnG Tryd.prog 40 gK [.one (.e (eI mode)), .one (.e (eLists l))] (rBE (outO (rtO (eO mode) (pO mode) f l)))) (l : List Byt) (hne : l ≠ []) (hlf : l.length ≤ f + 1) (hl64 : l.length ≤ 64) : FnG Tryd.prog 40 gK [.one (.e (eI mode)), .one (.e (eLists l))] (rBE (outO (rtO (eO mode) (pO mode) (f + 1) l))) := by
  refine FnG.len ⟨_, _, Tryd.func40, rfl, by kernel_rfl⟩ 1 rfl fun hl1 => ?_
  refine fn_introG (T := tab) tOk Tryd.func40 rfl (by kernel_rfl) (by simp [Tryd.ntmps40]) ?_
  intro X hX
  have hnt : X.nt = 58 := hX
  clear hX
  have hll := lsLen l
  have hpos : 0 < l.length := List.length_pos_iff.2 hne
  repeat' (first | refine tr_seq ?_ | refine reg (T := tab) tOk hnt rfl ?_ ?_ | refine regD (T := tab) tOk mixedR hnt rfl (by decide +kernel) ?_ ?_ | refine tr_block ?_ | refine tr_skip ?_)
  · (dsimp only [AllP]; (repeat' first | exact trivial | assumption | exact Nat.le_of_ble_eq_true rfl | apply And.intro | decide | intro _ | exact rfl))
  · (dsimp only [AllP]; (repeat' first | exact trivial | assumption | exact Nat.le_of_ble_eq_true rfl | apply And.intro | decide | intro _ | exact rfl))
  · (dsimp only [AllP]; (repeat' first | exact trivial | assumption | exact Nat.le_of_ble_eq_true rfl | apply And.intro | decide | intro _ | exact rfl))
  refine tr_cond rfl (fun h => absurd (of_decide_eq_true h) (by omega)) (fun _ => ?_)
  repeat' (first | refine tr_seq ?_ | refine reg (T := tab) tOk hnt rfl ?_ ?_ | refine regD (T := tab) tOk mixedR hnt rfl (by decide +kernel) ?_ ?_ | refine tr_block ?_ | refine tr_skip ?_)
  · (dsimp only [AllP]; (repeat' first | exact trivial | assumption | exact Nat.le_of_ble_eq_true rfl | apply And.intro | decide | intro _ | exact rfl))
  repeat' (first | refine tr_seq ?_ | refine tr_block ?_ | refine tr_skip ?_)
  refine tr_cond rfl (fun hc => ?_) (fun hc => ?_)
  · have hc : ((l.map fun p => [eBytes p]).length : Int) = 1 := of_decide_eq_true hc
    obtain ⟨x, rfl⟩ : ∃ x, l = [x] := List.length_eq_one_iff.1 (by omega)
    rw [show rtO (eO mode) (pO mode) (f + 1) [x] = eO mode x from rfl, ← dgF_one mode hm x]
    have a1 : (1 : Int) ≤ ((List.map (fun p => [eBytes p]) [x]).length : Int) := by simp
    have a3 := lsOne [x]
    repeat' (first | refine tr_seq ?_ | refine tr_block ?_ | refine tr_skip ?_)
    refine tr_region (lex (T := tab) tOk hnt rfl ?_ (callV rfl rfl rfl rfl rfl rfl rfl hnt rfl (Digest_fn mode 5 [x]) (lex (T := tab) tOk hnt rfl ?_ (Lex.nil _)))) ?_
    · (dsimp only [AllP]; (repeat' first | exact trivial | assumption | exact Nat.le_of_ble_eq_true rfl | apply And.intro | exact eCells_len1 _ _ ‹_› | exact eCells_isByte _ _ ‹_› | intro _ | exact rfl | omega))
    · (dsimp only [AllP]; (repeat' first | exact trivial | assumption | exact Nat.le_of_ble_eq_true rfl | apply And.intro | decide | intro _ | exact rfl))
    exact tr_ret ⟨.inr rfl, _, _, rfl, trivial, rfl⟩
  have hc : ¬ ((l.map fun p => [eBytes p]).length : Int) = 1 := of_decide_eq_false hc
  have h2 : 2 ≤ l.length := by omega
  have hh := hf_lt h2
  rw [root_two h2]
  have a0 : (hf l.length : Int) ≤ ((l.map fun p => [eBytes p]).length : Int) := by omega
  have a01 : (0 : Int) ≤ (hf l.length : Int) := by omega
  have a3 := lsOne l
  have l1 : (l.take (hf l.length)).length = hf l.length := by rw [List.length_take]; omega
  have l2 : (l.drop (hf l.length)).length = l.length - hf l.length := List.length_drop
  have ih1 := ih (l.take (hf l.length)) (by intro e; rw [e] at l1; simp only [List.length_nil] at l1; omega) (by omega) (by omega)
  have ih2 := ih (l.drop (hf l.length)) (by intro e; rw [e] at l2; simp only [List.length_nil] at l2; omega) (by omega) (by omega)
  have hfn : FnD Tryd.prog 76 [.one (.e (eI ((l.map fun p => [eBytes p]).length : Int)))] (.one (.e (eI (hf l.length : Int)))) := by
    rw [hll]
    exact half_fn l.length hl64
  rw [lsTake] at ih1
  rw [lsDrop] at ih2
  generalize rtO (eO mode) (pO mode) f (l.take (hf l.length)) = o1 at *
  generalize rtO (eO mode) (pO mode) f (l.drop (hf l.length)) = o2 at *
  repeat' (first | refine tr_seq ?_ | refine tr_block ?_ | refine tr_skip ?_)
  refine tr_region (lex (T := tab) tOk hnt rfl ?_ (call rfl rfl rfl rfl rfl rfl rfl hnt (hfn) (lex (T := tab) tOk hnt rfl ?_ (Lex.nil _)))) ?_
  · (dsimp only [AllP]; (repeat' first | exact trivial | assumption | exact Nat.le_of_ble_eq_true rfl | apply And.intro | decide | intro _ | exact rfl))
  · (dsimp only [AllP]; (repeat' first | exact trivial | assumption | exact Nat.le_of_ble_eq_true rfl | apply And.intro | decide | intro _ | exact rfl))
  repeat' (first | refine tr_seq ?_ | refine tr_block ?_ | refine tr_skip ?_)
  refine tr_region (lex (T := tab) tOk hnt rfl ?_ (callV rfl rfl rfl rfl rfl rfl rfl hnt rfl (ih1) (lex (T := tab) tOk hnt rfl ?_ (Lex.nil _)))) ?_
  · (dsimp only [AllP]; (repeat' first | exact trivial | assumption | exact Nat.le_of_ble_eq_true rfl | apply And.intro | exact eCells_len1 _ _ ‹_› | exact eCells_isByte _ _ ‹_› | intro _ | exact rfl | omega))
  · (dsimp only [AllP]; (repeat' first | exact trivial | assumption | exact Nat.le_of_ble_eq_true rfl | apply And.intro | decide | intro _ | exact rfl))
  have hp : ∀ a b : Byt, FnG Tryd.prog 77 gK [.one (.e (eI mode)), .one (.e (eBytes a)), .one (.e (eBytes b))] (rBE (outO (pO mode a b))) := fun a b => by
    rw [← dgF_two mode hm]
    exact pair_fn mode a b
  cases o1 with
  | none =>
    repeat' (first | refine tr_seq ?_ | refine reg (T := tab) tOk hnt rfl ?_ ?_ | refine regD (T := tab) tOk mixedR hnt rfl (by decide +kernel) ?_ ?_ | refine tr_block ?_ | refine tr_skip ?_)
    · (dsimp only [AllP]; (repeat' first | exact trivial | assumption | exact Nat.le_of_ble_eq_true rfl | apply And.intro | decide | intro _ | exact rfl))
    refine tr_cond rfl (fun _ => ?_) (fun h => nomatch (show true = false from h))
    repeat' (first | refine tr_seq ?_ | refine reg (T := tab) tOk hnt rfl ?_ ?_ | refine regD (T := tab) tOk mixedR hnt rfl (by decide +kernel) ?_ ?_ | refine tr_block ?_ | refine tr_skip ?_)
    · (dsimp only [AllP]; (repeat' first | exact trivial | assumption | exact Nat.le_of_ble_eq_true rfl | apply And.intro | decide | intro _ | exact rfl))
    exact tr_ret ⟨.inr rfl, _, _, rfl, trivial, rfl⟩
  | some a =>
  repeat' (first | refine tr_seq ?_ | refine reg (T := tab) tOk hnt rfl ?_ ?_ | refine regD (T := tab) tOk mixedR hnt rfl (by decide +kernel) ?_ ?_ | refine tr_block ?_ | refine tr_skip ?_)
  · (dsimp only [AllP]; (repeat' first | exact trivial | assumption | exact Nat.le_of_ble_eq_true rfl | apply And.intro | decide | intro _ | exact rfl))
  refine tr_cond rfl (fun h => nomatch (show false = true from h)) (fun _ => ?_)
  repeat' (first | refine tr_seq ?_ | refine tr_block ?_ | refine tr_skip ?_)
  refine tr_region (lex (T := tab) tOk hnt rfl ?_ (callV rfl rfl rfl rfl rfl rfl rfl hnt rfl (ih2) (lex (T := tab) tOk hnt rfl ?_ (Lex.nil _)))) ?_
  · (dsimp only [AllP]; (repeat' first | exact trivial | assumption | exact Nat.le_of_ble_eq_true rfl | apply And.intro | exact eCells_len1 _ _ ‹_› | exact eCells_isByte _ _ ‹_› | intro _ | exact rfl | omega))
  · (dsimp only [AllP]; (repeat' first | exact trivial | assumption | exact Nat.le_of_ble_eq_true rfl | apply And.intro | decide | intro _ | exact rfl))
  cases o2 with
  | none =>
    repeat' (first | refine tr_seq ?_ | refine reg (T := tab) tOk hnt rfl ?_ ?_ | refine regD (T := tab) tOk mixedR hnt rfl (by decide +kernel) ?_ ?_ | refine tr_block ?_ | refine tr_skip ?_)
    · (dsimp only [AllP]; (repeat' first | exact trivial | assumption | exact Nat.le_of_ble_eq_true rfl | apply And.intro | decide | intro _ | exact rfl))
    refine tr_cond rfl (fun _ => ?_) (fun h => nomatch (show true = false from h))
    repeat' (first | refine tr_seq ?_ | refine reg (T := tab) tOk hnt rfl ?_ ?_ | refine regD (T := tab) tOk mixedR hnt rfl (by decide +kernel) ?_ ?_ | refine tr_block ?_ | refine tr_skip ?_)
    · (dsimp only [AllP]; (repeat' first | exact trivial | assumption | exact Nat.le_of_ble_eq_true rfl | apply And.intro | decide | intro _ | exact rfl))
    exact tr_ret ⟨.inr rfl, _, _, rfl, trivial, rfl⟩
  | some b =>
  repeat' (first | refine tr_seq ?_ | refine reg (T := tab) tOk hnt rfl ?_ ?_ | refine regD (T := tab) tOk mixedR hnt rfl (by decide +kernel) ?_ ?_ | refine tr_block ?_ | refine tr_skip ?_)
  · (dsimp only [AllP]; (repeat' first | exact trivial | assumption | exact Nat.le_of_ble_eq_true rfl | apply And.intro | decide | intro _ | exact rfl))
  refine tr_cond rfl (fun h => nomatch (show false = true from h)) (fun _ => ?_)
  have hp := hp a b
  rw [show (some a).bind (fun x => (some b).bind fun y => pO mode x y) = pO mode a b from rfl]
  generalize outO (pO mode a b) = r at *
  repeat' (first | refine tr_seq ?_ | refine tr_block ?_ | refine tr_skip ?_)
  refine tr_region (lex (T := tab) tOk hnt rfl ?_ (callV rfl rfl rfl rfl rfl rfl rfl hnt rfl (hp) (lex (T := tab) tOk hnt rfl ?_ (Lex.nil _)))) ?_
  · (dsimp only [AllP]; (repeat' first | exact trivial | assumption | exact Nat.le_of_ble_eq_true rfl | apply And.intro | decide | intro _ | exact rfl))
  · (dsimp only [AllP]; (repeat' first | exact trivial | assumption | exact Nat.le_of_ble_eq_true rfl | apply And.intro | decide | intro _ | exact rfl))
  exact tr_ret ⟨.inr rfl, _, _, rfl, trivial, rfl⟩
theorem rootAny_fn (mode : Int) (hm : ¬ (mode ≠ 1 ∧ mode ≠ 2)) : ∀ (f : Nat) (l : List Byt), l ≠ [] → l.length ≤ f → l.length ≤ 64 → FnG Tryd.prog 40 gK [.one (.e (eI mode)), .one (.e (eLists l))] (rBE (outO (rtO (eO mode) (pO mode) f l)))
  | 0, l, h1, h2, _ => absurd (List.eq_nil_of_length_eq_zero (Nat.le_zero.1 h2)) h1
  | f + 1, l, h1, h2, h3 => root_succ mode hm f (rootAny_fn mode hm f) l h1 h2 h3
theorem root_fn (mode : Int) (hm : ¬ (mode ≠ 1 ∧ mode ≠ 2)) (l : List Byt) (h : l.length ≤ 64) : FnG Tryd.prog 40 gK [.one (.e (eI mode)), .one (.e (eLists l))] (rBE (rtF mode l)) := by
  unfold rtF
  by_cases hl : l = []
  · rw [if_pos hl, hl]
    exact root_nil mode
  · rw [if_neg hl]
    exact rootAny_fn mode hm 64 l hl h h
set_option maxRecDepth 10000 in
theorem Root_fnR (mode : Int) (l : List Byt) : FnG Tryd.prog 14 gK [.one (.e (eI mode)), .one (.e (eLists l))] (rBE (rollF mode l)) := by
  refine fn_introG (T := tab) tOk Tryd.func14 rfl (by kernel_rfl) (by simp [Tryd.ntmps14]) ?_
  intro X hX
  have hnt : X.nt = 18 := hX
  clear hX
  unfold rollF
  have h1 := fault_fn mode l
  have hz := @rfF_zero mode l
  have h2 := fun hm h => root_fn mode hm l h
  generalize rfF mode l = e at *
  generalize rtF mode l = r at *
  repeat' (first | refine tr_seq ?_ | refine reg (T := tab) tOk hnt rfl ?_ ?_ | refine regD (T := tab) tOk mixedR hnt rfl (by decide +kernel) ?_ ?_ | refine tr_block ?_ | refine tr_skip ?_)
  · (dsimp only [AllP]; (repeat' first | exact trivial | assumption | exact Nat.le_of_ble_eq_true rfl | apply And.intro | decide | intro _ | exact rfl))
  repeat' (first | refine tr_seq ?_ | refine tr_block ?_ | refine tr_skip ?_)
  refine tr_region (lex (T := tab) tOk hnt rfl ?_ (call rfl rfl rfl rfl rfl rfl rfl hnt (h1) (lex (T := tab) tOk hnt rfl ?_ (Lex.nil _)))) ?_
  · (dsimp only [AllP]; (repeat' first | exact trivial | assumption | exact Nat.le_of_ble_eq_true rfl | apply And.intro | decide | intro _ | exact rfl))
  · (dsimp only [AllP]; (repeat' first | exact trivial | assumption | exact Nat.le_of_ble_eq_true rfl | apply And.intro | decide | intro _ | exact rfl))
  repeat' (first | refine tr_seq ?_ | refine reg (T := tab) tOk hnt rfl ?_ ?_ | refine regD (T := tab) tOk mixedR hnt rfl (by decide +kernel) ?_ ?_ | refine tr_block ?_ | refine tr_skip ?_)
  · (dsimp only [AllP]; (repeat' first | exact trivial | assumption | exact Nat.le_of_ble_eq_true rfl | apply And.intro | decide | intro _ | exact rfl))
  repeat' (first | refine tr_seq ?_ | refine tr_block ?_ | refine tr_skip ?_)
  refine tr_cond rfl (fun hc => ?_) (fun hc => ?_)
  · have hc : e ≠ 0 := of_decide_eq_true ((neD' e).symm.trans hc)
    rw [if_pos hc]
    repeat' (first | refine tr_seq ?_ | refine reg (T := tab) tOk hnt rfl ?_ ?_ | refine regD (T := tab) tOk mixedR hnt rfl (by decide +kernel) ?_ ?_ | refine tr_block ?_ | refine tr_skip ?_)
    · (dsimp only [AllP]; (repeat' first | exact trivial | assumption | exact Nat.le_of_ble_eq_true rfl | apply And.intro | decide | intro _ | exact rfl))
    exact tr_ret ⟨.inr rfl, _, _, rfl, trivial, rfl⟩
  have hc2 : ¬ e ≠ 0 := of_decide_eq_false ((neD' e).symm.trans hc)
  rw [if_neg hc2]
  obtain ⟨z1, z2⟩ := hz (Classical.not_not.1 hc2)
  repeat' (first | refine tr_seq ?_ | refine tr_block ?_ | refine tr_skip ?_)
  refine tr_region (lex (T := tab) tOk hnt rfl ?_ (callV rfl rfl rfl rfl rfl rfl rfl hnt rfl (h2 z1 z2) (lex (T := tab) tOk hnt rfl ?_ (Lex.nil _)))) ?_
  · (dsimp only [AllP]; (repeat' first | exact trivial | assumption | exact Nat.le_of_ble_eq_true rfl | apply And.intro | decide | intro _ | exact rfl))
  · (dsimp only [AllP]; (repeat' first | exact trivial | assumption | exact Nat.le_of_ble_eq_true rfl | apply And.intro | decide | intro _ | exact rfl))
  exact tr_ret ⟨.inr rfl, _, _, rfl, trivial, rfl⟩

set_option maxRecDepth 10000 in
theorem rollOf_nil (mode : Int) : FnD Tryd.prog 42 [.one (.e (eI mode)), .one (.e (eLists []))] (rBE (dgF mode 4 [])) := by
  refine fn_intro (T := tab) tOk Tryd.func42 rfl (by kernel_rfl) (by simp [Tryd.ntmps42]) ?_
  intro X hX
  have hnt : X.nt = 124 := hX
  clear hX
  repeat' (first | refine tr_seq ?_ | refine reg (T := tab) tOk hnt rfl ?_ ?_ | refine regD (T := tab) tOk mixedR hnt rfl (by decide +kernel) ?_ ?_ | refine tr_block ?_ | refine tr_skip ?_)
  · (dsimp only [AllP]; (repeat' first | exact trivial | assumption | exact Nat.le_of_ble_eq_true rfl | apply And.intro | decide | intro _ | exact rfl))
  · (dsimp only [AllP]; (repeat' first | exact trivial | assumption | exact Nat.le_of_ble_eq_true rfl | apply And.intro | decide | intro _ | exact rfl))
  refine tr_cond rfl (fun _ => ?_) (fun h => nomatch (show true = false from h))
  repeat' (first | refine tr_seq ?_ | refine tr_block ?_ | refine tr_skip ?_)
  refine tr_region (lex (T := tab) tOk hnt rfl ?_ (callU rfl rfl rfl rfl rfl rfl rfl hnt (DigestOf_fn mode 4 []) (lex (T := tab) tOk hnt rfl ?_ (Lex.nil _)))) ?_
  · (dsimp only [AllP]; (repeat' first | exact trivial | assumption | exact Nat.le_of_ble_eq_true rfl | apply And.intro | decide | intro _ | exact rfl))
  · (dsimp only [AllP]; (repeat' first | exact trivial | assumption | exact Nat.le_of_ble_eq_true rfl | apply And.intro | decide | intro _ | exact rfl))
  exact tr_ret ⟨.inr rfl, _, _, rfl, trivial, rfl⟩
set_option maxRecDepth 10000 in
theorem rollOf_fnA (mode : Int) (hm : ¬ (mode ≠ 1 ∧ mode ≠ 2)) (l : List Byt) (hne : l ≠ []) (hl64 : l.length ≤ 64) : FnD Tryd.prog 42 [.one (.e (eI mode)), .one (.e (eLists l))] (rBE (outO (rtO (eO mode) (pO mode) 64 l))) := by
  refine fn_intro (T := tab) tOk Tryd.func42 rfl (by kernel_rfl) (by simp [Tryd.ntmps42]) ?_
  intro X hX
  have hnt : X.nt = 124 := hX
  clear hX
  have hll := lsLen l
  have hpos : 0 < l.length := List.length_pos_iff.2 hne
  have hbad := fun k (hk : k ≤ l.length) => roll_bad (mode := mode) hpos hl64 hk
  have hgood : Gd mode l (bagT (pkT l.length)) → rtO (eO mode) (pO mode) 64 l = some (vT mode l (bagT (pkT l.length))) := fun h => by
    rw [rtO_bag _ _ l hpos hl64]
    exact gd_val h
  have hbadR : Bad (eO mode) (pO mode) l (bagT (pkT l.length)) → rtO (eO mode) (pO mode) 64 l = none := fun h => by
    rw [rtO_bag _ _ l hpos hl64]
    exact h
  generalize rtO (eO mode) (pO mode) 64 l = O at *
  have hp6 := (pk_rng hl64).2
  repeat' (first | refine tr_seq ?_ | refine reg (T := tab) tOk hnt rfl ?_ ?_ | refine regD (T := tab) tOk mixedR hnt rfl (by decide +kernel) ?_ ?_ | refine tr_block ?_ | refine tr_skip ?_)
  · (dsimp only [AllP]; (repeat' first | exact trivial | assumption | exact Nat.le_of_ble_eq_true rfl | apply And.intro | decide | intro _ | exact rfl))
  · (dsimp only [AllP]; (repeat' first | exact trivial | assumption | exact Nat.le_of_ble_eq_true rfl | apply And.intro | decide | intro _ | exact rfl))
  refine tr_cond rfl (fun h => absurd (of_decide_eq_true h) (by omega)) (fun _ => ?_)
  repeat' (first | refine tr_seq ?_ | refine reg (T := tab) tOk hnt rfl ?_ ?_ | refine regD (T := tab) tOk mixedR hnt rfl (by decide +kernel) ?_ ?_ | refine tr_block ?_ | refine tr_skip ?_)
  · (dsimp only [AllP]; (repeat' first | exact trivial | assumption | exact Nat.le_of_ble_eq_true rfl | apply And.intro | decide | intro _ | exact rfl))
  · (dsimp only [AllP]; (repeat' first | exact trivial | assumption | exact Nat.le_of_ble_eq_true rfl | apply And.intro | decide | intro _ | exact rfl))
  repeat' (first | refine tr_seq ?_ | refine tr_block ?_ | refine tr_skip ?_)
  refine tr_loop (σ := Nat) (fun k => St.of [(0, .one (.e (eI mode))), (6, .one (.own 91 0)), (26, .one (.e (eLists l))), (27, .v (.int .i64 ((l.map fun p => [eBytes p]).length : Nat))), (28, .v (.int .i64 (k : Int)))] [(91, ⟨0, .row 2 (pkE mode l (pkT k)), 0⟩)]) (fun k => k ≤ l.length ∧ ∀ q ∈ pkT k, Gd mode l q.2) (fun k => l.length - k) (0) (le_of (ad := [91]) (by refine ⟨?_, ?_, ?_, ?_, ?_, trivial⟩ <;> first | exact trivial | rfl | exact ⟨rfl, rfl⟩ | exact ⟨rfl, rfl, rfl⟩ | exact ⟨rfl, rfl, rfl, rfl⟩ | exact ⟨rfl, rfl, rfl, rfl, rfl⟩ | exact congrArg (fun z : Int => E.v (.int .i64 z)) (wrap64_id (by omega) (by omega))) (memOk_new rfl (by decide) trivial)) ⟨Nat.zero_le _, fun q h => nomatch h⟩ ?_
  rintro k ⟨hk, hg⟩
  repeat' (first | refine tr_seq ?_ | refine reg (T := tab) tOk hnt rfl ?_ ?_ | refine regD (T := tab) tOk mixedR hnt rfl (by decide +kernel) ?_ ?_ | refine tr_block ?_ | refine tr_skip ?_)
  · (dsimp only [AllP]; (repeat' first | exact trivial | assumption | exact Nat.le_of_ble_eq_true rfl | apply And.intro | decide | intro _ | exact rfl))
  repeat' (first | refine tr_seq ?_ | refine tr_block ?_ | refine tr_skip ?_)
  refine tr_cond rfl (fun hc => ?_) (fun hc => ?_)
  · have hc : (k : Int) < ((l.map fun p => [eBytes p]).length : Int) := of_decide_eq_true hc
    have hkl : k < l.length := by omega
    repeat' (first | refine tr_seq ?_ | refine reg (T := tab) tOk hnt rfl ?_ ?_ | refine regD (T := tab) tOk mixedR hnt rfl (by decide +kernel) ?_ ?_ | refine tr_block ?_ | refine tr_skip ?_)
    · rw [Int.toNat_natCast, lsGet l hkl]
      (dsimp only [AllP]; (repeat' first | exact trivial | assumption | exact Nat.le_of_ble_eq_true rfl | apply And.intro | exact eCells_len1 _ _ ‹_› | exact eCells_isByte _ _ ‹_› | intro _ | exact rfl | omega))
    rw [Int.toNat_natCast, lsGet l hkl]
    have hb5 := dgF_one mode hm (l.getD k [])
    repeat' (first | refine tr_seq ?_ | refine tr_block ?_ | refine tr_skip ?_)
    refine tr_region (lex (T := tab) tOk hnt rfl ?_ (callU rfl rfl rfl rfl rfl rfl rfl hnt (DigestOf_fn mode 5 [l.getD k []]) (lex (T := tab) tOk hnt rfl ?_ (Lex.nil _)))) ?_
    · (dsimp only [AllP]; (repeat' first | exact trivial | assumption | exact Nat.le_of_ble_eq_true rfl | apply And.intro | decide | intro _ | exact rfl))
    · (dsimp only [AllP]; (repeat' first | exact trivial | assumption | exact Nat.le_of_ble_eq_true rfl | apply And.intro | decide | intro _ | exact rfl))
    rw [hb5]
    have hleaf : evT (eO mode) (pO mode) l (.leaf k) = eO mode (l.getD k []) := rfl
    rcases gd_or mode l (.leaf k) with hL | hL
    case inr =>
      have hO := hbad (k + 1) (by omega) (mrg_bad _ _ ⟨(1, .leaf k), List.mem_cons_self, hL⟩)
      rw [← hleaf, hO, show evT (eO mode) (pO mode) l (.leaf k) = none from hL]
      repeat' (first | refine tr_seq ?_ | refine reg (T := tab) tOk hnt rfl ?_ ?_ | refine regD (T := tab) tOk mixedR hnt rfl (by decide +kernel) ?_ ?_ | refine tr_block ?_ | refine tr_skip ?_)
      · (dsimp only [AllP]; (repeat' first | exact trivial | assumption | exact Nat.le_of_ble_eq_true rfl | apply And.intro | decide | intro _ | exact rfl))
      refine tr_cond rfl (fun _ => ?_) (fun h => nomatch (show true = false from h))
      repeat' (first | refine tr_seq ?_ | refine reg (T := tab) tOk hnt rfl ?_ ?_ | refine regD (T := tab) tOk mixedR hnt rfl (by decide +kernel) ?_ ?_ | refine tr_block ?_ | refine tr_skip ?_)
      · (dsimp only [AllP]; (repeat' first | exact trivial | assumption | exact Nat.le_of_ble_eq_true rfl | apply And.intro | decide | intro _ | exact rfl))
      exact tr_ret ⟨.inr rfl, _, _, rfl, trivial, rfl⟩
    rw [← hleaf, gd_val hL]
    repeat' (first | refine tr_seq ?_ | refine reg (T := tab) tOk hnt rfl ?_ ?_ | refine regD (T := tab) tOk mixedR hnt rfl (by decide +kernel) ?_ ?_ | refine tr_block ?_ | refine tr_skip ?_)
    · (dsimp only [AllP]; (repeat' first | exact trivial | assumption | exact Nat.le_of_ble_eq_true rfl | apply And.intro | decide | intro _ | exact rfl))
    refine tr_cond rfl (fun h => nomatch (show false = true from h)) (fun _ => ?_)
    repeat' (first | refine tr_seq ?_ | refine reg (T := tab) tOk hnt rfl ?_ ?_ | refine regD (T := tab) tOk mixedR hnt rfl (by decide +kernel) ?_ ?_ | refine tr_block ?_ | refine tr_skip ?_)
    · (dsimp only [AllP]; (repeat' first | exact trivial | assumption | exact Nat.le_of_ble_eq_true rfl | apply And.intro | decide | intro _ | exact rfl))
    repeat' (first | refine tr_seq ?_ | refine tr_block ?_ | refine tr_skip ?_)
    refine tr_loop (σ := List (Nat × Shp) × (Nat × Shp)) (fun x => St.of [(0, .one (.e (eI mode))), (6, .one (.own 91 0)), (11, .one (.ptr 11 0 0)), (26, .one (.e (eLists l))), (27, .v (.int .i64 ((l.map fun p => [eBytes p]).length : Nat))), (28, .v (.int .i64 (k : Int)))] [(91, ⟨0, .row 2 (pkE mode l x.1), 0⟩), (11, ⟨0, .box (.es [eI (x.2.1 : Int), eBytes (vT mode l x.2.2)]), 0⟩)]) (fun x => mrg x.1 x.2 = pkT (k + 1) ∧ x.1.length ≤ 6 ∧ Gd mode l x.2.2 ∧ ∀ q ∈ x.1, Gd mode l q.2) (fun x => x.1.length) ((pkT k, (1, .leaf k))) (le_of (ad := []) (by refine ⟨?_, ?_, ?_, ?_, ?_, ?_, trivial⟩ <;> first | exact trivial | rfl | exact ⟨rfl, rfl⟩ | exact ⟨rfl, rfl, rfl⟩ | exact ⟨rfl, rfl, rfl, rfl⟩ | exact ⟨rfl, rfl, rfl, rfl, rfl⟩ | exact congrArg (fun z : Int => E.v (.int .i64 z)) (wrap64_id (by omega) (by omega))) (memOk_row rfl rfl rfl (memOk_box rfl rfl ⟨rfl, rfl, trivial⟩ trivial))) ⟨rfl, (pk_rng (by omega)).2, hL, hg⟩ ?_
    rintro ⟨ts, p⟩ ⟨h1, h2, h3, h4⟩
    dsimp only at h1 h2 h3 h4 ⊢
    have hsz : szs ts + p.1 = k + 1 := by rw [← mrg_szs, h1, pkT_szs]
    cases ts with
    | nil =>
      repeat' (first | refine tr_seq ?_ | refine reg (T := tab) tOk hnt rfl ?_ ?_ | refine regD (T := tab) tOk mixedR hnt rfl (by decide +kernel) ?_ ?_ | refine tr_block ?_ | refine tr_skip ?_)
      · dsimp only [AllP]
        repeat' first | exact trivial | exact rfl | apply And.intro | (intro h; exact nomatch (show false = true from h))
      refine tr_cond rfl (fun h => nomatch (show false = true from h)) (fun _ => ?_)
      replace h1 : [p] = pkT (k + 1) := h1
      refine tr_exit ?_
      have hpl : (pkE mode l []).length ≤ 6 := by rw [pkE_len]; exact h2
      repeat' (first | refine tr_seq ?_ | refine reg (T := tab) tOk hnt rfl ?_ ?_ | refine regD (T := tab) tOk mixedR hnt rfl (by decide +kernel) ?_ ?_ | refine tr_block ?_ | refine tr_skip ?_)
      · (dsimp only [AllP]; (repeat' first | exact trivial | assumption | exact Nat.le_of_ble_eq_true rfl | apply And.intro | exact eCells_len1 _ _ ‹_› | exact eCells_isByte _ _ ‹_› | intro _ | exact rfl | omega | exact Nat.le_trans (Nat.add_le_add_right hpl 1) (by decide) | exact Nat.le_trans (Nat.mul_le_mul_right _ (Nat.add_le_add_right hpl 1)) (by decide) | exact Nat.le_trans (Nat.add_le_add_left hpl 0) (by decide) | exact Nat.le_trans (Nat.mul_le_mul_right _ (Nat.add_le_add_left hpl 0)) (by decide)))
      · (dsimp only [AllP]; (repeat' first | exact trivial | assumption | exact Nat.le_of_ble_eq_true rfl | apply And.intro | exact eCells_len1 _ _ ‹_› | exact eCells_isByte _ _ ‹_› | intro _ | exact rfl | omega))
      have hwk : IntKind.i64.wrap ((k : Int) + 1) = ((k + 1 : Nat) : Int) := by
        rw [wrap64_id (by omega) (by omega)]
        rfl
      refine ⟨k + 1, ⟨by omega, ?_⟩, by omega, le_of (ad := []) ⟨rfl, ⟨rfl, rfl, rfl, rfl⟩, rfl, rfl, congrArg (fun z : Int => E.v (.int .i64 z)) hwk, trivial⟩ (memOk_row rfl rfl ?_ trivial)⟩
      · rw [← h1]
        intro q hq
        rcases List.mem_cons.1 hq with rfl | hq
        · exact h3
        · exact h4 q hq
      · rw [← h1]
        exact (pkE_cons ..).symm
    | cons q qs =>
    have hw : IntKind.i64.wrap (((pkE mode l (q :: qs)).length : Int) - 1) = (qs.length : Int) := by
      rw [pkE_len, List.length_cons]
      simp only [List.length_cons] at h2
      rw [wrap64_id (by omega) (by omega)]
      omega
    have hpos2 : (0 : Int) < ((pkE mode l (q :: qs)).length : Int) := by
      rw [pkE_len, List.length_cons]
      omega
    repeat' (first | refine tr_seq ?_ | refine reg (T := tab) tOk hnt rfl ?_ ?_ | refine regD (T := tab) tOk mixedR hnt rfl (by decide +kernel) ?_ ?_ | refine tr_block ?_ | refine tr_skip ?_)
    · rw [hw, Int.toNat_natCast, pkE_last]
      have : (qs.length : Int) < ((pkE mode l (q :: qs)).length : Int) := by
        rw [pkE_len, List.length_cons]
        omega
      (dsimp only [AllP]; (repeat' first | exact trivial | assumption | exact Nat.le_of_ble_eq_true rfl | apply And.intro | exact eCells_len1 _ _ ‹_› | exact eCells_isByte _ _ ‹_› | intro _ | exact rfl | omega))
    rw [hw, Int.toNat_natCast, pkE_last]
    repeat' (first | refine tr_seq ?_ | refine tr_block ?_ | refine tr_skip ?_)
    refine tr_cond rfl (fun hc => ?_) (fun hc => ?_)
    · have hc : decide ((q.1 : Int) = (p.1 : Int)) = true := (show (bif decide ((0 : Int) < ((pkE mode l (q :: qs)).length : Int)) then decide ((q.1 : Int) = (p.1 : Int)) else false) = decide ((q.1 : Int) = (p.1 : Int)) by rw [decide_eq_true hpos2]; rfl).symm.trans hc
      have hc := of_decide_eq_true hc
      rw [mrg, if_pos (by omega)] at h1
      have hq := h4 q List.mem_cons_self
      repeat' (first | refine tr_seq ?_ | refine reg (T := tab) tOk hnt rfl ?_ ?_ | refine regD (T := tab) tOk mixedR hnt rfl (by decide +kernel) ?_ ?_ | refine tr_block ?_ | refine tr_skip ?_)
      · rw [hw, Int.toNat_natCast, pkE_last]
        have : (qs.length : Int) < ((pkE mode l (q :: qs)).length : Int) := by
          rw [pkE_len, List.length_cons]
          omega
        have : (0 : Int) ≤ (qs.length : Int) := by omega
        have e2 := pkE_two mode l (q :: qs)
        (dsimp only [AllP]; (repeat' first | exact trivial | assumption | exact Nat.le_of_ble_eq_true rfl | apply And.intro | exact eCells_len1 _ _ ‹_› | exact eCells_isByte _ _ ‹_› | intro _ | exact rfl | omega))
      rw [hw, Int.toNat_natCast, pkE_last]
      repeat' (first | refine tr_seq ?_ | refine tr_block ?_ | refine tr_skip ?_)
      refine tr_region (lex (T := tab) tOk hnt rfl ?_ (callU rfl rfl rfl rfl rfl rfl rfl hnt (DigestOf_fn mode 6 [vT mode l q.2, vT mode l p.2]) (lex (T := tab) tOk hnt rfl ?_ (Lex.nil _)))) ?_
      · (dsimp only [AllP]; (repeat' first | exact trivial | assumption | exact Nat.le_of_ble_eq_true rfl | apply And.intro | decide | intro _ | exact rfl))
      · (dsimp only [AllP]; (repeat' first | exact trivial | assumption | exact Nat.le_of_ble_eq_true rfl | apply And.intro | decide | intro _ | exact rfl))
      have hnode : evT (eO mode) (pO mode) l (.node q.2 p.2) = pO mode (vT mode l q.2) (vT mode l p.2) := by
        show (evT (eO mode) (pO mode) l q.2).bind (fun x => (evT (eO mode) (pO mode) l p.2).bind fun y => pO mode x y) = _
        rw [gd_val hq, gd_val h3]
        rfl
      rw [dgF_two mode hm, ← hnode]
      rcases gd_or mode l (.node q.2 p.2) with hN | hN
      case inr =>
        have hO := hbad (k + 1) (by omega) (by rw [← h1]; exact mrg_bad _ _ ⟨_, List.mem_cons_self, hN⟩)
        rw [hO, show evT (eO mode) (pO mode) l (.node q.2 p.2) = none from hN]
        repeat' (first | refine tr_seq ?_ | refine reg (T := tab) tOk hnt rfl ?_ ?_ | refine regD (T := tab) tOk mixedR hnt rfl (by decide +kernel) ?_ ?_ | refine tr_block ?_ | refine tr_skip ?_)
        · (dsimp only [AllP]; (repeat' first | exact trivial | assumption | exact Nat.le_of_ble_eq_true rfl | apply And.intro | decide | intro _ | exact rfl))
        refine tr_cond rfl (fun _ => ?_) (fun h => nomatch (show true = false from h))
        repeat' (first | refine tr_seq ?_ | refine reg (T := tab) tOk hnt rfl ?_ ?_ | refine regD (T := tab) tOk mixedR hnt rfl (by decide +kernel) ?_ ?_ | refine tr_block ?_ | refine tr_skip ?_)
        · (dsimp only [AllP]; (repeat' first | exact trivial | assumption | exact Nat.le_of_ble_eq_true rfl | apply And.intro | decide | intro _ | exact rfl))
        exact tr_ret ⟨.inr rfl, _, _, rfl, trivial, rfl⟩
      rw [gd_val hN]
      repeat' (first | refine tr_seq ?_ | refine reg (T := tab) tOk hnt rfl ?_ ?_ | refine regD (T := tab) tOk mixedR hnt rfl (by decide +kernel) ?_ ?_ | refine tr_block ?_ | refine tr_skip ?_)
      · (dsimp only [AllP]; (repeat' first | exact trivial | assumption | exact Nat.le_of_ble_eq_true rfl | apply And.intro | decide | intro _ | exact rfl))
      refine tr_cond rfl (fun h => nomatch (show false = true from h)) (fun _ => ?_)
      have hle : (qs.length : Int) ≤ ((pkE mode l (q :: qs)).length : Int) := by
        rw [pkE_len, List.length_cons]
        omega
      repeat' (first | refine tr_seq ?_ | refine reg (T := tab) tOk hnt rfl ?_ ?_ | refine regD (T := tab) tOk mixedR hnt rfl (by decide +kernel) ?_ ?_ | refine tr_block ?_ | refine tr_skip ?_)
      · rw [hw]
        have : (0 : Int) ≤ (qs.length : Int) := by omega
        have e2 := pkE_two mode l (q :: qs)
        (dsimp only [AllP]; (repeat' first | exact trivial | assumption | exact Nat.le_of_ble_eq_true rfl | apply And.intro | exact eCells_len1 _ _ ‹_› | exact eCells_isByte _ _ ‹_› | intro _ | exact rfl | omega | exact Nat.le_trans (Nat.add_le_add_right hle 1) (by decide) | exact Nat.le_trans (Nat.mul_le_mul_right _ (Nat.add_le_add_right hle 1)) (by decide) | exact Nat.le_trans (Nat.add_le_add_left hle 0) (by decide) | exact Nat.le_trans (Nat.mul_le_mul_right _ (Nat.add_le_add_left hle 0)) (by decide)))
      have hw2 : IntKind.i64.wrap (2 * (p.1 : Int)) = ((2 * p.1 : Nat) : Int) := by
        rw [wrap64_id (by omega) (by omega)]
        omega
      have hs2 := (mrg_szs qs (2 * p.1, .node q.2 p.2)).symm.trans (by rw [h1, pkT_szs])
      refine ⟨(qs, (2 * p.1, .node q.2 p.2)), ⟨h1, ?_, hN, ?_⟩, ?_, le_of (ad := []) ⟨rfl, ⟨rfl, rfl, rfl, rfl⟩, ⟨rfl, rfl, rfl, rfl, rfl⟩, rfl, rfl, rfl, trivial⟩ (memOk_row rfl rfl ?_ (memOk_box rfl rfl ?_ trivial))⟩
      · simp only [List.length_cons] at h2
        dsimp only
        omega
      · exact fun q' hq' => h4 q' (List.mem_cons_of_mem _ hq')
      · exact Nat.lt_succ_self _
      · rw [hw, Int.toNat_natCast, pkE_take]
      · exact ⟨congrArg (fun z : Int => E.v (.int .i64 z)) hw2, rfl, trivial⟩
    have hc : decide ((q.1 : Int) = (p.1 : Int)) = false := (show (bif decide ((0 : Int) < ((pkE mode l (q :: qs)).length : Int)) then decide ((q.1 : Int) = (p.1 : Int)) else false) = decide ((q.1 : Int) = (p.1 : Int)) by rw [decide_eq_true hpos2]; rfl).symm.trans hc
    have hc := of_decide_eq_false hc
    rw [mrg, if_neg (by omega)] at h1
    refine tr_exit ?_
    have hpl : (pkE mode l (q::qs)).length ≤ 6 := by rw [pkE_len]; exact h2
    repeat' (first | refine tr_seq ?_ | refine reg (T := tab) tOk hnt rfl ?_ ?_ | refine regD (T := tab) tOk mixedR hnt rfl (by decide +kernel) ?_ ?_ | refine tr_block ?_ | refine tr_skip ?_)
    · (dsimp only [AllP]; (repeat' first | exact trivial | assumption | exact Nat.le_of_ble_eq_true rfl | apply And.intro | exact eCells_len1 _ _ ‹_› | exact eCells_isByte _ _ ‹_› | intro _ | exact rfl | omega | exact Nat.le_trans (Nat.add_le_add_right hpl 1) (by decide) | exact Nat.le_trans (Nat.mul_le_mul_right _ (Nat.add_le_add_right hpl 1)) (by decide) | exact Nat.le_trans (Nat.add_le_add_left hpl 0) (by decide) | exact Nat.le_trans (Nat.mul_le_mul_right _ (Nat.add_le_add_left hpl 0)) (by decide)))
    · (dsimp only [AllP]; (repeat' first | exact trivial | assumption | exact Nat.le_of_ble_eq_true rfl | apply And.intro | exact eCells_len1 _ _ ‹_› | exact eCells_isByte _ _ ‹_› | intro _ | exact rfl | omega))
    have hwk : IntKind.i64.wrap ((k : Int) + 1) = ((k + 1 : Nat) : Int) := by
      rw [wrap64_id (by omega) (by omega)]
      rfl
    refine ⟨k + 1, ⟨by omega, ?_⟩, by omega, le_of (ad := []) ⟨rfl, ⟨rfl, rfl, rfl, rfl⟩, rfl, rfl, congrArg (fun z : Int => E.v (.int .i64 z)) hwk, trivial⟩ (memOk_row rfl rfl ?_ trivial)⟩
    · rw [← h1]
      intro q hq
      rcases List.mem_cons.1 hq with rfl | hq
      · exact h3
      · exact h4 q hq
    · rw [← h1]
      exact (pkE_cons ..).symm
  have hc : ¬ (k : Int) < ((l.map fun p => [eBytes p]).length : Int) := of_decide_eq_false hc
  have hkl : k = l.length := by omega
  subst hkl
  refine tr_exit ?_
  have hne := pkT_ne hpos
  generalize pkT l.length = ps at *
  cases ps with
  | nil => exact absurd rfl hne
  | cons q qs =>
  have hl6 : (q :: qs).length ≤ 6 := hp6
  simp only [List.length_cons] at hl6
  have hw : IntKind.i64.wrap (((pkE mode l (q :: qs)).length : Int) - 1) = (qs.length : Int) := by
    rw [pkE_len, List.length_cons, wrap64_id (by omega) (by omega)]
    omega
  repeat' (first | refine tr_seq ?_ | refine reg (T := tab) tOk hnt rfl ?_ ?_ | refine regD (T := tab) tOk mixedR hnt rfl (by decide +kernel) ?_ ?_ | refine tr_block ?_ | refine tr_skip ?_)
  · rw [hw, Int.toNat_natCast, pkE_last]
    have : (qs.length : Int) < ((pkE mode l (q :: qs)).length : Int) := by
      rw [pkE_len, List.length_cons]
      omega
    have : (0 : Int) ≤ (qs.length : Int) := by omega
    have e2 := pkE_two mode l (q :: qs)
    (dsimp only [AllP]; (repeat' first | exact trivial | assumption | exact Nat.le_of_ble_eq_true rfl | apply And.intro | exact eCells_len1 _ _ ‹_› | exact eCells_isByte _ _ ‹_› | intro _ | exact rfl | omega))
  · (dsimp only [AllP]; (repeat' first | exact trivial | assumption | exact Nat.le_of_ble_eq_true rfl | apply And.intro | exact eCells_len1 _ _ ‹_› | exact eCells_isByte _ _ ‹_› | intro _ | exact rfl | omega))
  rw [hw, Int.toNat_natCast, pkE_last]
  have hw2 : IntKind.i64.wrap (((pkE mode l (q :: qs)).length : Int) - 2) = (qs.length : Int) - 1 := by
    rw [pkE_len, List.length_cons, wrap64_id (by omega) (by omega)]
    omega
  rw [hw2]
  repeat' (first | refine tr_seq ?_ | refine tr_block ?_ | refine tr_skip ?_)
  refine tr_loop (σ := List (Nat × Shp) × Shp) (fun x => St.of [(0, .one (.e (eI mode))), (6, .one (.own 91 0)), (15, .one (.e (eBytes (vT mode l x.2)))), (16, .one (.e (eI ((x.1.length : Int) - 1))))] [(91, ⟨0, .row 2 (pkE mode l (q :: qs)), 0⟩)]) (fun x => (∃ us, us ++ x.1 = q :: qs) ∧ bag x.1 x.2 = bagT (q :: qs) ∧ Gd mode l x.2) (fun x => x.1.length) ((qs, q.2)) (le_of (ad := []) (by refine ⟨?_, ?_, ?_, ?_, trivial⟩ <;> first | exact trivial | rfl | exact ⟨rfl, rfl⟩ | exact ⟨rfl, rfl, rfl⟩ | exact ⟨rfl, rfl, rfl, rfl⟩ | exact ⟨rfl, rfl, rfl, rfl, rfl⟩ | exact congrArg (fun z : Int => E.v (.int .i64 z)) (wrap64_id (by omega) (by omega))) (memOk_row rfl rfl rfl trivial)) ⟨⟨[q], rfl⟩, rfl, hg q List.mem_cons_self⟩ ?_
  rintro ⟨rs, d⟩ ⟨⟨us, h1⟩, h2, h3⟩
  dsimp only at h1 h2 h3 ⊢
  have hrl : rs.length ≤ 6 := by
    have := congrArg List.length h1
    rw [List.length_append, List.length_cons] at this
    omega
  repeat' (first | refine tr_seq ?_ | refine reg (T := tab) tOk hnt rfl ?_ ?_ | refine regD (T := tab) tOk mixedR hnt rfl (by decide +kernel) ?_ ?_ | refine tr_block ?_ | refine tr_skip ?_)
  · (dsimp only [AllP]; (repeat' first | exact trivial | assumption | exact Nat.le_of_ble_eq_true rfl | apply And.intro | decide | intro _ | exact rfl))
  repeat' (first | refine tr_seq ?_ | refine tr_block ?_ | refine tr_skip ?_)
  refine tr_cond rfl (fun hc => ?_) (fun hc => ?_)
  · have hc : (0 : Int) ≤ (rs.length : Int) - 1 := of_decide_eq_true hc
    cases rs with
    | nil => exact absurd hc (by decide)
    | cons r rs =>
    have hr : r ∈ q :: qs := by rw [← h1]; exact List.mem_append_right _ List.mem_cons_self
    have hat := pkE_at mode l us r rs
    rw [h1] at hat
    have hix : ((r :: rs).length : Int) - 1 = (rs.length : Int) := by rw [List.length_cons]; omega
    have hrl2 : (rs.length : Int) < ((pkE mode l (q :: qs)).length : Int) := by
      rw [← h1, pkE_len, List.length_append, List.length_cons]
      omega
    rw [hix]
    have hd := dgF_two mode hm (vT mode l r.2) (vT mode l d)
    have hnode : evT (eO mode) (pO mode) l (.node r.2 d) = pO mode (vT mode l r.2) (vT mode l d) := by
      show (evT (eO mode) (pO mode) l r.2).bind (fun x => (evT (eO mode) (pO mode) l d).bind fun y => pO mode x y) = _
      rw [gd_val (hg r hr), gd_val h3]
      rfl
    have hp : ∀ x : D, x = .one (.e (eLists [vT mode l r.2, vT mode l d])) → FnD Tryd.prog 47 [.one (.e (eI mode)), .one (.e (eI 6)), x] (rBE (outO (evT (eO mode) (pO mode) l (.node r.2 d)))) := fun x e => by
      rw [e, hnode, ← hd]
      exact DigestOf_fn mode 6 _
    repeat' (first | refine tr_seq ?_ | refine tr_block ?_ | refine tr_skip ?_)
    refine tr_region (lex (T := tab) tOk hnt rfl ?_ (callU rfl rfl rfl rfl rfl rfl rfl hnt (hp _ (by exact congrArg (fun z => D.one (D0.e (E.sl [[E.sl (List.getD z (0 + 1) E.dflt).xs], [eBytes (vT mode l d)]]))) hat)) (lex (T := tab) tOk hnt rfl ?_ (Lex.nil _)))) ?_
    · rw [Int.toNat_natCast, hat]
      have : (0 : Int) ≤ (rs.length : Int) := by omega
      (dsimp only [AllP]; (repeat' first | exact trivial | assumption | exact Nat.le_of_ble_eq_true rfl | apply And.intro | exact eCells_len1 _ _ ‹_› | exact eCells_isByte _ _ ‹_› | intro _ | exact rfl | omega))
    · (dsimp only [AllP]; (repeat' first | exact trivial | assumption | exact Nat.le_of_ble_eq_true rfl | apply And.intro | decide | intro _ | exact rfl))
    rcases gd_or mode l (.node r.2 d) with hN | hN
    case inr =>
      have hO := hbadR (by rw [← h2]; exact bag_bad rs _ (.inl hN))
      rw [hO, show evT (eO mode) (pO mode) l (.node r.2 d) = none from hN]
      repeat' (first | refine tr_seq ?_ | refine reg (T := tab) tOk hnt rfl ?_ ?_ | refine regD (T := tab) tOk mixedR hnt rfl (by decide +kernel) ?_ ?_ | refine tr_block ?_ | refine tr_skip ?_)
      · (dsimp only [AllP]; (repeat' first | exact trivial | assumption | exact Nat.le_of_ble_eq_true rfl | apply And.intro | decide | intro _ | exact rfl))
      refine tr_cond rfl (fun _ => ?_) (fun h => nomatch (show true = false from h))
      repeat' (first | refine tr_seq ?_ | refine reg (T := tab) tOk hnt rfl ?_ ?_ | refine regD (T := tab) tOk mixedR hnt rfl (by decide +kernel) ?_ ?_ | refine tr_block ?_ | refine tr_skip ?_)
      · (dsimp only [AllP]; (repeat' first | exact trivial | assumption | exact Nat.le_of_ble_eq_true rfl | apply And.intro | decide | intro _ | exact rfl))
      exact tr_ret ⟨.inr rfl, _, _, rfl, trivial, rfl⟩
    rw [gd_val hN]
    repeat' (first | refine tr_seq ?_ | refine reg (T := tab) tOk hnt rfl ?_ ?_ | refine regD (T := tab) tOk mixedR hnt rfl (by decide +kernel) ?_ ?_ | refine tr_block ?_ | refine tr_skip ?_)
    · (dsimp only [AllP]; (repeat' first | exact trivial | assumption | exact Nat.le_of_ble_eq_true rfl | apply And.intro | decide | intro _ | exact rfl))
    refine tr_cond rfl (fun h => nomatch (show false = true from h)) (fun _ => ?_)
    repeat' (first | refine tr_seq ?_ | refine reg (T := tab) tOk hnt rfl ?_ ?_ | refine regD (T := tab) tOk mixedR hnt rfl (by decide +kernel) ?_ ?_ | refine tr_block ?_ | refine tr_skip ?_)
    · (dsimp only [AllP]; (repeat' first | exact trivial | assumption | exact Nat.le_of_ble_eq_true rfl | apply And.intro | decide | intro _ | exact rfl))
    · (dsimp only [AllP]; (repeat' first | exact trivial | assumption | exact Nat.le_of_ble_eq_true rfl | apply And.intro | decide | intro _ | exact rfl))
    have hwi : IntKind.i64.wrap ((rs.length : Int) - 1) = (rs.length : Int) - 1 := wrap64_id (by omega) (by omega)
    exact ⟨(rs, .node r.2 d), ⟨⟨us ++ [r], by rw [← h1, List.append_assoc]; rfl⟩, h2, hN⟩, Nat.lt_succ_self _, le_of (ad := []) ⟨rfl, ⟨rfl, rfl, rfl, rfl⟩, rfl, congrArg (fun z : Int => E.v (.int .i64 z)) hwi, trivial⟩ (memOk_row rfl rfl rfl trivial)⟩
  have hc : ¬ (0 : Int) ≤ (rs.length : Int) - 1 := of_decide_eq_false hc
  cases rs with
  | cons r rs => exact absurd hc (by rw [List.length_cons]; omega)
  | nil =>
  have h2 : d = bagT (q :: qs) := h2
  refine tr_exit ?_
  rw [hgood (h2 ▸ h3), ← h2]
  repeat' (first | refine tr_seq ?_ | refine reg (T := tab) tOk hnt rfl ?_ ?_ | refine regD (T := tab) tOk mixedR hnt rfl (by decide +kernel) ?_ ?_ | refine tr_block ?_ | refine tr_skip ?_)
  · (dsimp only [AllP]; (repeat' first | exact trivial | assumption | exact Nat.le_of_ble_eq_true rfl | apply And.intro | decide | intro _ | exact rfl))
  exact tr_ret ⟨.inr rfl, _, _, rfl, trivial, rfl⟩
theorem rollOf_fn (mode : Int) (hm : ¬ (mode ≠ 1 ∧ mode ≠ 2)) (l : List Byt) (h : l.length ≤ 64) : FnD Tryd.prog 42 [.one (.e (eI mode)), .one (.e (eLists l))] (rBE (rtF mode l)) := by
  unfold rtF
  by_cases hl : l = []
  · rw [if_pos hl, hl]
    exact rollOf_nil mode
  · rw [if_neg hl]
    exact rollOf_fnA mode hm l hl h
set_option maxRecDepth 10000 in
theorem RollOf_fnR (mode : Int) (l : List Byt) : FnD Tryd.prog 15 [.one (.e (eI mode)), .one (.e (eLists l))] (rBE (rollF mode l)) := by
  refine fn_intro (T := tab) tOk Tryd.func15 rfl (by kernel_rfl) (by simp [Tryd.ntmps15]) ?_
  intro X hX
  have hnt : X.nt = 18 := hX
  clear hX
  unfold rollF
  have h1 := rollFault_fn mode l
  have hz := @rfF_zero mode l
  have h2 := fun hm h => rollOf_fn mode hm l h
  generalize rfF mode l = e at *
  generalize rtF mode l = r at *
  repeat' (first | refine tr_seq ?_ | refine reg (T := tab) tOk hnt rfl ?_ ?_ | refine regD (T := tab) tOk mixedR hnt rfl (by decide +kernel) ?_ ?_ | refine tr_block ?_ | refine tr_skip ?_)
  · (dsimp only [AllP]; (repeat' first | exact trivial | assumption | exact Nat.le_of_ble_eq_true rfl | apply And.intro | decide | intro _ | exact rfl))
  repeat' (first | refine tr_seq ?_ | refine tr_block ?_ | refine tr_skip ?_)
  refine tr_region (lex (T := tab) tOk hnt rfl ?_ (call rfl rfl rfl rfl rfl rfl rfl hnt (h1) (lex (T := tab) tOk hnt rfl ?_ (Lex.nil _)))) ?_
  · (dsimp only [AllP]; (repeat' first | exact trivial | assumption | exact Nat.le_of_ble_eq_true rfl | apply And.intro | decide | intro _ | exact rfl))
  · (dsimp only [AllP]; (repeat' first | exact trivial | assumption | exact Nat.le_of_ble_eq_true rfl | apply And.intro | decide | intro _ | exact rfl))
  repeat' (first | refine tr_seq ?_ | refine reg (T := tab) tOk hnt rfl ?_ ?_ | refine regD (T := tab) tOk mixedR hnt rfl (by decide +kernel) ?_ ?_ | refine tr_block ?_ | refine tr_skip ?_)
  · (dsimp only [AllP]; (repeat' first | exact trivial | assumption | exact Nat.le_of_ble_eq_true rfl | apply And.intro | decide | intro _ | exact rfl))
  repeat' (first | refine tr_seq ?_ | refine tr_block ?_ | refine tr_skip ?_)
  refine tr_cond rfl (fun hc => ?_) (fun hc => ?_)
  · have hc : e ≠ 0 := of_decide_eq_true ((neD' e).symm.trans hc)
    rw [if_pos hc]
    repeat' (first | refine tr_seq ?_ | refine reg (T := tab) tOk hnt rfl ?_ ?_ | refine regD (T := tab) tOk mixedR hnt rfl (by decide +kernel) ?_ ?_ | refine tr_block ?_ | refine tr_skip ?_)
    · (dsimp only [AllP]; (repeat' first | exact trivial | assumption | exact Nat.le_of_ble_eq_true rfl | apply And.intro | decide | intro _ | exact rfl))
    exact tr_ret ⟨.inr rfl, _, _, rfl, trivial, rfl⟩
  have hc2 : ¬ e ≠ 0 := of_decide_eq_false ((neD' e).symm.trans hc)
  rw [if_neg hc2]
  obtain ⟨z1, z2⟩ := hz (Classical.not_not.1 hc2)
  repeat' (first | refine tr_seq ?_ | refine tr_block ?_ | refine tr_skip ?_)
  refine tr_region (lex (T := tab) tOk hnt rfl ?_ (call rfl rfl rfl rfl rfl rfl rfl hnt (h2 z1 z2) (lex (T := tab) tOk hnt rfl ?_ (Lex.nil _)))) ?_
  · (dsimp only [AllP]; (repeat' first | exact trivial | assumption | exact Nat.le_of_ble_eq_true rfl | apply And.intro | decide | intro _ | exact rfl))
  · (dsimp only [AllP]; (repeat' first | exact trivial | assumption | exact Nat.le_of_ble_eq_true rfl | apply And.intro | decide | intro _ | exact rfl))
  exact tr_ret ⟨.inr rfl, _, _, rfl, trivial, rfl⟩
set_option maxRecDepth 10000 in
theorem rollRoots_fn (mode : Int) (l : List Byt) : FnG Tryd.prog 3 gK [.one (.e (eI mode)), .one (.e (eLists l))] (.v (.bool true)) := by
  refine fn_introG (T := tab) tOk Tryd.func3 rfl (by kernel_rfl) (by simp [Tryd.ntmps3]) ?_
  intro X hX
  have hnt : X.nt = 29 := hX
  clear hX
  have h1 := Root_fnR mode l
  have h2 := RollOf_fnR mode l
  generalize rollF mode l = r at *
  repeat' (first | refine tr_seq ?_ | refine reg (T := tab) tOk hnt rfl ?_ ?_ | refine regD (T := tab) tOk mixedR hnt rfl (by decide +kernel) ?_ ?_ | refine tr_block ?_ | refine tr_skip ?_)
  · (dsimp only [AllP]; (repeat' first | exact trivial | assumption | exact Nat.le_of_ble_eq_true rfl | apply And.intro | decide | intro _ | exact rfl))
  repeat' (first | refine tr_seq ?_ | refine tr_block ?_ | refine tr_skip ?_)
  refine tr_region (lex (T := tab) tOk hnt rfl ?_ (callV rfl rfl rfl rfl rfl rfl rfl hnt rfl (h1) (lex (T := tab) tOk hnt rfl ?_ (Lex.nil _)))) ?_
  · (dsimp only [AllP]; (repeat' first | exact trivial | assumption | exact Nat.le_of_ble_eq_true rfl | apply And.intro | decide | intro _ | exact rfl))
  · (dsimp only [AllP]; (repeat' first | exact trivial | assumption | exact Nat.le_of_ble_eq_true rfl | apply And.intro | decide | intro _ | exact rfl))
  repeat' (first | refine tr_seq ?_ | refine tr_block ?_ | refine tr_skip ?_)
  refine tr_region (lex (T := tab) tOk hnt rfl ?_ (call rfl rfl rfl rfl rfl rfl rfl hnt (h2) (lex (T := tab) tOk hnt rfl ?_ (Lex.nil _)))) ?_
  · (dsimp only [AllP]; (repeat' first | exact trivial | assumption | exact Nat.le_of_ble_eq_true rfl | apply And.intro | decide | intro _ | exact rfl))
  · (dsimp only [AllP]; (repeat' first | exact trivial | assumption | exact Nat.le_of_ble_eq_true rfl | apply And.intro | decide | intro _ | exact rfl))
  repeat' (first | refine tr_seq ?_ | refine tr_block ?_ | refine tr_skip ?_)
  refine tr_region (lex (T := tab) tOk hnt rfl ?_ (callG rfl rfl rfl rfl rfl rfl hnt rfl (fun hq => ?_) (fun hq => sameB_fn r.1) (lex (T := tab) tOk hnt rfl ?_ (Lex.nil _)))) ?_
  · (dsimp only [AllP]; (repeat' first | exact trivial | assumption | exact Nat.le_of_ble_eq_true rfl | apply And.intro | decide | intro _ | exact rfl))
  · exact ⟨hq, hq⟩
  · (dsimp only [AllP]; (repeat' first | exact trivial | assumption | exact Nat.le_of_ble_eq_true rfl | apply And.intro | decide | intro _ | exact rfl))
  refine tr_ret ⟨.inr rfl, _, _, rfl, by trivial, ?_⟩
  simp
  rfl
end Go.Proofs.YtjpmghphkkhcjaaDoor
