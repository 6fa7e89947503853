/- slots.CoverOf: what is done from one slot to another. No condition. -/
import Derived.Test.YtphaholcndhonaaDoorTBdA
import Derived.Test.YtphaholcndhonaaDoorAbJ
import Derived.Test.YtphaholcndhonaaDoorTSlP
namespace Go.Proofs.YtphaholcndhonaaDoor
open Go Go.RowKit Go.Proofs.YtphaholcndhonaaDoor.Ab
set_option linter.unusedSimpArgs false
set_option linter.unusedVariables false

theorem errL_all (mode : Int) : ∀ l : List SlotT, errL mode l = 0 ↔ ∀ x ∈ l, (lfX mode x).2 = 0
  | [] => ⟨(fun _ x h => nomatch h), fun _ => rfl⟩
  | a :: l => by
    have ih := errL_all mode l
    rw [errL]
    constructor
    · intro h x hx
      split at h
      · rename_i h1; exact absurd h h1
      · rename_i h1
        rcases List.mem_cons.1 hx with rfl | hx
        · exact Classical.not_not.1 h1
        · exact ih.1 h x hx
    · intro h
      rw [if_neg (not_not_intro (h a (List.mem_cons_self ..)))]
      exact ih.2 fun x hx => h x (List.mem_cons_of_mem _ hx)
theorem leaf_ok {mode : Int} {x : SlotT} (h : (lfX mode x).2 = 0) : x.2.1.length ≤ 80 ∧ x.2.2.1.length ≤ 400 := by
  unfold lfX leafF at h
  split at h
  · cases h
  split at h
  · cases h
  split at h
  · cases h
  · omega
theorem pow_is (k : Nat) (hk : k ≤ 6) : powF ((2 ^ k : Nat) : Int) = true := by
  have h : ∀ k : Fin 7, powF ((2 ^ k.val : Nat) : Int) = true := by decide
  exact h ⟨k, by omega⟩
/-- a part of slots that are right has a root -/
theorem root_sub (mode : Int) {l : List SlotT} (hm : ¬ (mode ≠ 1 ∧ mode ≠ 2)) (he : ∀ x ∈ l, (lfX mode x).2 = 0) {k : Nat} (hk : k ≤ 6) (hl : l.length = 2 ^ k) : rootF mode l = (hT mode k (digL mode l), 0) := by
  have h1 : leavesF mode l = (digL mode l, 0) := by
    unfold leavesF
    rw [if_neg hm, hl, pow_is k hk, if_neg (by decide), if_neg (not_not_intro ((errL_all mode l).2 he))]
  unfold rootF
  rw [h1, if_neg (not_not_intro rfl), hl, log_pow]
/-- the cover of 2^k slots -/
def cvr (mode : Int) : Nat → List SlotT → List Bool → List SlotT × LL
  | 0, l, o => if smB o = false then ([], [hT mode 0 (digL mode l)]) else (l, [])
  | k + 1, l, o => if smB o = false then ([], [hT mode (k + 1) (digL mode l)]) else
    ((cvr mode k (l.take (2 ^ k)) (o.take (2 ^ k))).1 ++ (cvr mode k (l.drop (2 ^ k)) (o.drop (2 ^ k))).1, (cvr mode k (l.take (2 ^ k)) (o.take (2 ^ k))).2 ++ (cvr mode k (l.drop (2 ^ k)) (o.drop (2 ^ k))).2)
theorem cvr_no (mode : Int) (k : Nat) (l : List SlotT) {o : List Bool} (h : smB o = false) : cvr mode k l o = ([], [hT mode k (digL mode l)]) := by
  cases k with
  | zero => exact if_pos h
  | succ k => exact if_pos h
theorem cvr_0 (mode : Int) (l : List SlotT) {o : List Bool} (h : ¬ smB o = false) : cvr mode 0 l o = (l, []) := if_neg h
theorem cvr_s (mode : Int) (k : Nat) (l : List SlotT) {o : List Bool} (h : ¬ smB o = false) : cvr mode (k + 1) l o = ((cvr mode k (l.take (2 ^ k)) (o.take (2 ^ k))).1 ++ (cvr mode k (l.drop (2 ^ k)) (o.drop (2 ^ k))).1, (cvr mode k (l.take (2 ^ k)) (o.take (2 ^ k))).2 ++ (cvr mode k (l.drop (2 ^ k)) (o.drop (2 ^ k))).2) := if_neg h
theorem cvr_len (mode : Int) : ∀ (k : Nat) (l : List SlotT) (o : List Bool), l.length = 2 ^ k → (cvr mode k l o).1.length ≤ 2 ^ k ∧ (cvr mode k l o).2.length ≤ 2 ^ k
  | 0, l, o, hl => by
    by_cases h : smB o = false
    · rw [cvr_no mode 0 l h]; exact ⟨Nat.zero_le _, Nat.le_refl _⟩
    · rw [cvr_0 mode l h, hl]; exact ⟨Nat.le_refl _, Nat.zero_le _⟩
  | k + 1, l, o, hl => by
    have hp : 2 ^ (k + 1) = 2 ^ k + 2 ^ k := by rw [Nat.pow_succ]; omega
    have h1 := cvr_len mode k (l.take (2 ^ k)) (o.take (2 ^ k)) (by rw [List.length_take]; omega)
    have h2 := cvr_len mode k (l.drop (2 ^ k)) (o.drop (2 ^ k)) (by rw [List.length_drop]; omega)
    by_cases h : smB o = false
    · rw [cvr_no mode (k + 1) l h]; exact ⟨Nat.zero_le _, Nat.one_le_two_pow⟩
    · rw [cvr_s mode k l h, List.length_append, List.length_append]
      omega
def sub {α : Type} (l : List α) (a k : Nat) : List α := (l.drop a).take (2 ^ k)
theorem sub_len {α : Type} {l : List α} {a k : Nat} (h : a + 2 ^ k ≤ l.length) : (sub l a k).length = 2 ^ k := by
  unfold sub
  rw [List.length_take, List.length_drop]
  omega
theorem sub_l {α : Type} (l : List α) (a k : Nat) : (sub l a (k + 1)).take (2 ^ k) = sub l a k := by
  unfold sub
  rw [List.take_take, Nat.min_eq_left (by rw [Nat.pow_succ]; omega)]
theorem sub_r {α : Type} (l : List α) (a k : Nat) : (sub l a (k + 1)).drop (2 ^ k) = sub l (a + 2 ^ k) k := by
  unfold sub
  rw [List.drop_take, List.drop_drop]
  congr 1
  rw [Nat.pow_succ]
  omega
theorem sub_map {α β : Type} (f : α → β) (l : List α) (a k : Nat) : List.take (Int.toNat ((a + 2 ^ k : Nat) : Int) - Int.toNat (a : Int)) (List.drop (Int.toNat (a : Int)) (l.map f)) = (sub l a k).map f := by
  rw [Int.toNat_natCast, Int.toNat_natCast, Nat.add_sub_cancel_left]
  unfold sub
  rw [List.map_take, List.map_drop]
def eLs1 (rs : LL) : List (List E) := rs.map fun p => [eBytes p]
abbrev cloW : D0 := .clo 37 [(900000, 0, 0), (900001, 0, 0), (900002, 0, 0), (900003, 0, 0), (900004, 0, 0)]
def msW (mode : Int) (l : List SlotT) (o : List Bool) (op : List SlotT) (rs : LL) : List (Nat × Blk) := [(900000, ⟨0, .box (.es [eBools o]), 0⟩), (900001, ⟨0, .box (.es [eI mode]), 0⟩), (900002, ⟨0, .box (.es [eSlots l]), 0⟩), (900003, ⟨0, .box (.ds [.own 900005 0, .own 900006 0]), 0⟩), (900004, ⟨0, .box (.ds [cloW]), 0⟩), (900005, ⟨0, .row 3 (op.map eS), 0⟩), (900006, ⟨0, .row 1 (eLs1 rs), 0⟩)]
set_option maxRecDepth 10000 in
set_option maxHeartbeats 2000000 in
theorem walk_step (mode : Int) (l : List SlotT) (o : List Bool) (hm : ¬ (mode ≠ 1 ∧ mode ≠ 2)) (he : ∀ x ∈ l, (lfX mode x).2 = 0) (hl : l.length ≤ 64) (hol : o.length = l.length) (k : Nat) (hk : k ≤ 6) (ih : ∀ j, k = j + 1 → ∀ (a : Nat) (op : List SlotT) (rs : LL), a + 2 ^ j ≤ l.length → op.length + 2 ^ j ≤ 64 → rs.length + 2 ^ j ≤ 64 → FnH Tryd.prog 37 gK (msW mode l o op rs) [.one (.e (eI (a : Int))), .one (.e (eI ((a + 2 ^ j : Nat) : Int))), .one (.ptr 900000 0 0), .one (.ptr 900001 0 0), .one (.ptr 900002 0 0), .one (.ptr 900003 0 0), .one (.ptr 900004 0 0)] (.one (.e (eI 0))) (msW mode l o (op ++ (cvr mode j (sub l a j) (sub o a j)).1) (rs ++ (cvr mode j (sub l a j) (sub o a j)).2))) (a : Nat) (op : List SlotT) (rs : LL) (ha : a + 2 ^ k ≤ l.length) (hop : op.length + 2 ^ k ≤ 64) (hrs : rs.length + 2 ^ k ≤ 64) : FnH Tryd.prog 37 ((gK)) (msW mode l o op rs) [.one (.e (eI (a : Int))), .one (.e (eI ((a + 2 ^ k : Nat) : Int))), .one (.ptr 900000 0 0), .one (.ptr 900001 0 0), .one (.ptr 900002 0 0), .one (.ptr 900003 0 0), .one (.ptr 900004 0 0)] (.one (.e (eI 0))) (msW mode l o (op ++ (cvr mode k (sub l a k) (sub o a k)).1) (rs ++ (cvr mode k (sub l a k) (sub o a k)).2)) := by
  refine fn_introH (T := tab) tOk Tryd.func37 rfl (by kernel_rfl) (by simp [Tryd.ntmps37]) rfl rfl ?_
  intro X hX
  have hnt : X.nt = 78 := hX
  clear hX
  have hso := sub_map eBo1 o a k
  have hsl := sub_map eS l a k
  have hs := some_fn (sub o a k)
  unfold eBools at hs
  rw [← hso] at hs
  have hoL : (o.map eBo1).length = o.length := List.length_map ..
  have hlL : (l.map eS).length = l.length := List.length_map ..
  have hp1 : 1 ≤ 2 ^ k := Nat.one_le_two_pow
  have b1 : (0 : Int) ≤ (a : Int) := Int.natCast_nonneg a
  have b2 : (a : Int) ≤ ((a + 2 ^ k : Nat) : Int) := by omega
  have b3 : ((a + 2 ^ k : Nat) : Int) ≤ ((o.map eBo1).length : Int) := by rw [hoL]; omega
  have b4 : ((a + 2 ^ k : Nat) : Int) ≤ ((l.map eS).length : Int) := by rw [hlL]; omega
  have h1o : ∀ cs ∈ o.map eBo1, cs.length = 1 := fun cs hc => by
    obtain ⟨p, _, rfl⟩ := List.mem_map.1 hc
    rfl
  have h3l : ∀ cs ∈ l.map eS, cs.length = 3 := fun cs hc => by
    obtain ⟨p, _, rfl⟩ := List.mem_map.1 hc
    rfl
  have hopl : (op.map eS).length ≤ 63 := by rw [List.length_map]; omega
  have hrsl : (eLs1 rs).length ≤ 63 := by unfold eLs1; rw [List.length_map]; omega
  repeat' (first | refine tr_seq ?_ | refine reg (T := tab) tOk hnt rfl ?_ ?_ | refine regD (T := tab) tOk mixedR hnt rfl (by decide +kernel) ?_ ?_ | refine tr_block ?_ | refine tr_skip ?_)
  · (dsimp only [AllP]; (repeat' first | exact trivial | assumption | exact Nat.le_of_ble_eq_true rfl | apply And.intro | decide | intro _ | exact rfl))
  repeat' (first | refine tr_seq ?_ | refine tr_block ?_ | refine tr_skip ?_)
  refine tr_region (lex (T := tab) tOk hnt rfl ?_ (call rfl rfl rfl rfl rfl rfl rfl hnt (hs) (lex (T := tab) tOk hnt rfl ?_ (Lex.nil _)))) ?_
  · (dsimp only [AllP]; (repeat' first | exact trivial | assumption | exact Nat.le_of_ble_eq_true rfl | apply And.intro | exact eCells_len1 _ _ ‹_› | exact eCells_isByte _ _ ‹_› | (intro hh_; have hg_ := hh_; (try simp only [condT_ff, condF_tt, notE_t, notE_f, Bool.and_eq_true, ne_eq, decide_eq_true_eq, decide_eq_false_iff_not] at hg_)) | intro _ | exact rfl | omega))
    all_goals exact h1o _ ‹_›
  · (dsimp only [AllP]; (repeat' first | exact trivial | assumption | exact Nat.le_of_ble_eq_true rfl | apply And.intro | exact eCells_len1 _ _ ‹_› | exact eCells_isByte _ _ ‹_› | (intro hh_; have hg_ := hh_; (try simp only [condT_ff, condF_tt, notE_t, notE_f, Bool.and_eq_true, ne_eq, decide_eq_true_eq, decide_eq_false_iff_not] at hg_)) | intro _ | exact rfl | omega))
    all_goals trace_state
  repeat' (first | refine tr_seq ?_ | refine tr_block ?_ | refine tr_skip ?_)
  refine tr_cond rfl (fun hc => ?_) (fun hc => ?_)
  · have hc : (!smB (sub o a k)) = true := hc
    rw [Bool.not_eq_true'] at hc
    rw [cvr_no mode k _ hc]
    have hR := Root_fn mode (sub l a k)
    rw [root_sub mode (l := sub l a k) hm (fun x hx => he x (List.mem_of_mem_drop (List.mem_of_mem_take hx))) hk (sub_len ha)] at hR
    unfold eSlots at hR
    rw [← hsl] at hR
    generalize hT mode k (digL mode (sub l a k)) = d at *
    have hm1 : eLs1 (rs ++ [d]) = eLs1 rs ++ [[eBytes d]] := by unfold eLs1; rw [List.map_append]; rfl
    repeat' (first | refine tr_seq ?_ | refine tr_block ?_ | refine tr_skip ?_)
    refine tr_draw (T := tab) tOk hnt mixedR (lexD (T := tab) rfl ?_ (callVD rfl rfl rfl rfl rfl rfl rfl rfl rfl (hR) (lexD (T := tab) rfl ?_ (.nil _)))) (by decide +kernel) ?_
    · (dsimp only [AllP]; (repeat' first | exact trivial | assumption | exact Nat.le_of_ble_eq_true rfl | apply And.intro | exact eCells_len1 _ _ ‹_› | exact eCells_isByte _ _ ‹_› | (intro hh_; have hg_ := hh_; (try simp only [condT_ff, condF_tt, notE_t, notE_f, Bool.and_eq_true, ne_eq, decide_eq_true_eq, decide_eq_false_iff_not] at hg_)) | intro _ | exact rfl | omega))
      all_goals exact h3l _ ‹_›
    · (dsimp only [AllP]; (repeat' first | exact trivial | assumption | exact Nat.le_of_ble_eq_true rfl | apply And.intro | exact eCells_len1 _ _ ‹_› | exact eCells_isByte _ _ ‹_› | (intro hh_; have hg_ := hh_; (try simp only [condT_ff, condF_tt, notE_t, notE_f, Bool.and_eq_true, ne_eq, decide_eq_true_eq, decide_eq_false_iff_not] at hg_)) | intro _ | exact rfl | omega))
      all_goals trace_state
    repeat' (first | refine tr_seq ?_ | refine tr_block ?_ | refine tr_skip ?_)
    first | refine reg (T := tab) tOk hnt rfl ?_ ?_ | refine regD (T := tab) tOk mixedR hnt rfl (by decide +kernel) ?_ ?_
    · (dsimp only [AllP]; (repeat' first | exact trivial | assumption | exact Nat.le_of_ble_eq_true rfl | apply And.intro | exact eCells_len1 _ _ ‹_› | exact eCells_isByte _ _ ‹_› | (intro hh_; have hg_ := hh_; (try simp only [condT_ff, condF_tt, notE_t, notE_f, Bool.and_eq_true, ne_eq, decide_eq_true_eq, decide_eq_false_iff_not] at hg_)) | intro _ | exact rfl | omega | exact Nat.le_trans (Nat.add_le_add_right hrsl 1) (by decide) | exact Nat.le_trans (Nat.mul_le_mul_right _ (Nat.add_le_add_right hrsl 1)) (by decide) | exact Nat.le_trans (Nat.add_le_add_left hrsl 0) (by decide) | exact Nat.le_trans (Nat.mul_le_mul_right _ (Nat.add_le_add_left hrsl 0)) (by decide)))
      all_goals trace_state
    repeat' (first | refine tr_seq ?_ | refine reg (T := tab) tOk hnt rfl ?_ ?_ | refine regD (T := tab) tOk mixedR hnt rfl (by decide +kernel) ?_ ?_ | refine tr_block ?_ | refine tr_skip ?_)
    · (dsimp only [AllP]; (repeat' first | exact trivial | assumption | exact Nat.le_of_ble_eq_true rfl | apply And.intro | decide | intro _ | exact rfl))
    rw [List.append_nil]
    refine tr_ret ⟨.inr rfl, _, _, _, rfl, by trivial, rfl, fun X => le_of (ad := []) ⟨rfl, ⟨rfl, rfl, rfl, rfl, rfl⟩, ⟨rfl, rfl, rfl, rfl, rfl⟩, ⟨rfl, rfl, rfl, rfl, rfl⟩, ⟨rfl, rfl, rfl, rfl, rfl⟩, ⟨rfl, rfl, rfl, rfl, rfl⟩, trivial⟩ (memOk_box rfl rfl rfl (memOk_box rfl rfl rfl (memOk_box rfl rfl rfl (memOk_box rfl rfl ⟨⟨rfl, rfl, rfl, rfl⟩, ⟨rfl, rfl, rfl, rfl⟩, trivial⟩ (memOk_box rfl rfl ⟨⟨rfl, (by repeat' first | exact trivial | rfl | apply And.intro)⟩, trivial⟩ (memOk_row rfl rfl rfl (memOk_row rfl rfl hm1.symm trivial)))))))⟩
  have hc : (!smB (sub o a k)) = false := hc
  rw [Bool.not_eq_false'] at hc
  have hsm : ¬ smB (sub o a k) = false := by rw [hc]; decide
  repeat' (first | refine tr_seq ?_ | refine tr_block ?_ | refine tr_skip ?_)
  first | refine reg (T := tab) tOk hnt rfl ?_ ?_ | refine regD (T := tab) tOk mixedR hnt rfl (by decide +kernel) ?_ ?_
  · (dsimp only [AllP]; (repeat' first | exact trivial | assumption | exact Nat.le_of_ble_eq_true rfl | apply And.intro | exact eCells_len1 _ _ ‹_› | exact eCells_isByte _ _ ‹_› | (intro hh_; have hg_ := hh_; (try simp only [condT_ff, condF_tt, notE_t, notE_f, Bool.and_eq_true, ne_eq, decide_eq_true_eq, decide_eq_false_iff_not] at hg_)) | intro _ | exact rfl | omega))
    all_goals trace_state
  have hd : IntKind.i64.wrap (((a + 2 ^ k : Nat) : Int) - (a : Int)) = ((2 ^ k : Nat) : Int) := by
    rw [show ((a + 2 ^ k : Nat) : Int) - (a : Int) = ((2 ^ k : Nat) : Int) by omega]
    have : 2 ^ k ≤ 64 := by omega
    exact wrap64_id (by omega) (by omega)
  repeat' (first | refine tr_seq ?_ | refine tr_block ?_ | refine tr_skip ?_)
  refine tr_cond rfl (fun hc => ?_) (fun hc => ?_)
  · have hc : IntKind.i64.wrap (((a + 2 ^ k : Nat) : Int) - (a : Int)) = 1 := of_decide_eq_true hc
    rw [hd] at hc
    have hk0 : k = 0 := by
      cases k with
      | zero => rfl
      | succ k => rw [Nat.pow_succ] at hc; have := Nat.one_le_two_pow (n := k); omega
    subst hk0
    rw [cvr_0 mode _ hsm]
    have hal : a < l.length := by omega
    have hg : ([eSlots l].getD 0 E.dflt).xs.getD a [] = eS l[a] := slGet l hal
    have hxl : ([eSlots l].getD 0 E.dflt).xs.length = l.length := hlL
    have hmem := he _ (List.getElem_mem hal)
    have hsub : sub l a 0 = [l[a]] := by
      unfold sub
      rw [List.drop_eq_getElem_cons hal]
      rfl
    rw [hsub]
    have hm1 : (op ++ [l[a]]).map eS = op.map eS ++ [eS l[a]] := by rw [List.map_append]; rfl
    generalize l[a] = x at *
    obtain ⟨f, sa, da, u⟩ := x
    have hlk := leaf_ok hmem
    have hs1 : ((List.take 3 (List.drop 0 (eS (f, sa, da, u)))).getD (0 + 1) E.dflt).xs.length ≤ 80 := Nat.le_trans (Nat.le_of_eq (eCells_length sa)) hlk.1
    have hs2 : ((List.take 3 (List.drop 0 (eS (f, sa, da, u)))).getD (0 + 2) E.dflt).xs.length ≤ 400 := Nat.le_trans (Nat.le_of_eq (eCells_length da)) hlk.2
    repeat' (first | refine tr_seq ?_ | refine tr_block ?_ | refine tr_skip ?_)
    first | refine reg (T := tab) tOk hnt rfl ?_ ?_ | refine regD (T := tab) tOk mixedR hnt rfl (by decide +kernel) ?_ ?_
    · rw [Int.toNat_natCast a, hg]
      (dsimp only [AllP]; (repeat' first | exact trivial | assumption | exact Nat.le_of_ble_eq_true rfl | apply And.intro | exact eCells_len1 _ _ ‹_› | exact eCells_isByte _ _ ‹_› | (intro hh_; have hg_ := hh_; (try simp only [condT_ff, condF_tt, notE_t, notE_f, Bool.and_eq_true, ne_eq, decide_eq_true_eq, decide_eq_false_iff_not] at hg_)) | intro _ | exact rfl | omega))
      all_goals trace_state
    rw [Int.toNat_natCast a, hg]
    repeat' (first | refine tr_seq ?_ | refine tr_block ?_ | refine tr_skip ?_)
    refine regD (T := tab) tOk mixedR hnt rfl (by kernel_rfl) ?_ ?_
    · (dsimp only [AllP]; (repeat' first | exact trivial | assumption | exact Nat.le_of_ble_eq_true rfl | apply And.intro | exact eCells_len1 _ _ ‹_› | exact eCells_isByte _ _ ‹_› | (intro hh_; have hg_ := hh_; (try simp only [condT_ff, condF_tt, notE_t, notE_f, Bool.and_eq_true, ne_eq, decide_eq_true_eq, decide_eq_false_iff_not] at hg_)) | intro _ | exact rfl | omega | exact Nat.le_trans (Nat.add_le_add_right hopl 1) (by decide) | exact Nat.le_trans (Nat.mul_le_mul_right _ (Nat.add_le_add_right hopl 1)) (by decide) | exact Nat.le_trans (Nat.add_le_add_left hopl 0) (by decide) | exact Nat.le_trans (Nat.mul_le_mul_right _ (Nat.add_le_add_left hopl 0)) (by decide) | exact Nat.le_trans (Nat.add_le_add_right hs1 1) (by decide) | exact Nat.le_trans (Nat.mul_le_mul_right _ (Nat.add_le_add_right hs1 1)) (by decide) | exact Nat.le_trans (Nat.add_le_add_left hs1 0) (by decide) | exact Nat.le_trans (Nat.mul_le_mul_right _ (Nat.add_le_add_left hs1 0)) (by decide) | exact Nat.le_trans (Nat.add_le_add_right hs2 1) (by decide) | exact Nat.le_trans (Nat.mul_le_mul_right _ (Nat.add_le_add_right hs2 1)) (by decide) | exact Nat.le_trans (Nat.add_le_add_left hs2 0) (by decide) | exact Nat.le_trans (Nat.mul_le_mul_right _ (Nat.add_le_add_left hs2 0)) (by decide)))
      all_goals trace_state
    repeat' (first | refine tr_seq ?_ | refine reg (T := tab) tOk hnt rfl ?_ ?_ | refine regD (T := tab) tOk mixedR hnt rfl (by decide +kernel) ?_ ?_ | refine tr_block ?_ | refine tr_skip ?_)
    · (dsimp only [AllP]; (repeat' first | exact trivial | assumption | exact Nat.le_of_ble_eq_true rfl | apply And.intro | decide | intro _ | exact rfl))
    refine tr_ret ⟨.inr rfl, _, _, _, rfl, by trivial, rfl, fun X => le_of (ad := []) ⟨rfl, ⟨rfl, rfl, rfl, rfl, rfl⟩, ⟨rfl, rfl, rfl, rfl, rfl⟩, ⟨rfl, rfl, rfl, rfl, rfl⟩, ⟨rfl, rfl, rfl, rfl, rfl⟩, ⟨rfl, rfl, rfl, rfl, rfl⟩, trivial⟩ (memOk_box rfl rfl rfl (memOk_box rfl rfl rfl (memOk_box rfl rfl rfl (memOk_box rfl rfl ⟨⟨rfl, rfl, rfl, rfl⟩, ⟨rfl, rfl, rfl, rfl⟩, trivial⟩ (memOk_box rfl rfl ⟨⟨rfl, (by repeat' first | exact trivial | rfl | apply And.intro)⟩, trivial⟩ (memOk_row rfl rfl hm1.symm (memOk_row rfl rfl (congrArg eLs1 (List.append_nil rs).symm) trivial)))))))⟩
  have hc : ¬ IntKind.i64.wrap (((a + 2 ^ k : Nat) : Int) - (a : Int)) = 1 := of_decide_eq_false hc
  rw [hd] at hc
  obtain ⟨j, rfl⟩ : ∃ j, k = j + 1 := by
    cases k with
    | zero => exact absurd rfl hc
    | succ j => exact ⟨j, rfl⟩
  have hp : 2 ^ (j + 1) = 2 ^ j + 2 ^ j := by rw [Nat.pow_succ]; omega
  rw [cvr_s mode j _ hsm, sub_l, sub_l, sub_r, sub_r]
  have i1 := ih j rfl a op rs (by omega) (by omega) (by omega)
  have n1 := cvr_len mode j (sub l a j) (sub o a j) (sub_len (by omega))
  generalize hA : cvr mode j (sub l a j) (sub o a j) = A at *
  obtain ⟨A1, A2⟩ := A
  dsimp only at i1 n1 ⊢
  have i2 := ih j rfl (a + 2 ^ j) (op ++ A1) (rs ++ A2) (by omega) (by rw [List.length_append]; omega) (by rw [List.length_append]; omega)
  clear ih
  generalize cvr mode j (sub l (a + 2 ^ j) j) (sub o (a + 2 ^ j) j) = B at *
  obtain ⟨B1, B2⟩ := B
  dsimp only at i2 ⊢
  rw [← List.append_assoc, ← List.append_assoc]
  generalize op ++ A1 = op1 at *
  generalize rs ++ A2 = rs1 at *
  have h64 : 2 ^ (j + 1) ≤ 64 := by omega
  have hmid : IntKind.i64.wrap (Int.tdiv (IntKind.i64.wrap ((a : Int) + ((a + 2 ^ (j + 1) : Nat) : Int))) 2) = ((a + 2 ^ j : Nat) : Int) := by
    have e : (a : Int) + ((a + 2 ^ (j + 1) : Nat) : Int) = 2 * ((a + 2 ^ j : Nat) : Int) := by rw [hp]; omega
    have w1 : IntKind.i64.wrap (2 * ((a + 2 ^ j : Nat) : Int)) = 2 * ((a + 2 ^ j : Nat) : Int) := wrap64_id (by omega) (by omega)
    rw [e, w1, Int.mul_tdiv_cancel_left _ (by decide), wrap64_id (by omega) (by omega)]
  have hend : ((a + 2 ^ j + 2 ^ j : Nat) : Int) = ((a + 2 ^ (j + 1) : Nat) : Int) := by rw [hp]; omega
  rw [hend] at i2
  repeat' (first | refine tr_seq ?_ | refine reg (T := tab) tOk hnt rfl ?_ ?_ | refine regD (T := tab) tOk mixedR hnt rfl (by decide +kernel) ?_ ?_ | refine tr_block ?_ | refine tr_skip ?_)
  · (dsimp only [AllP]; (repeat' first | exact trivial | assumption | exact Nat.le_of_ble_eq_true rfl | apply And.intro | decide | intro _ | exact rfl))
  rw [hmid]
  repeat' (first | refine tr_seq ?_ | refine tr_block ?_ | refine tr_skip ?_)
  refine tr_region (lex (T := tab) tOk hnt rfl ?_ (callH (us := []) [(900000, 900000), (900001, 900001), (900002, 900002), (900003, 900003), (900004, 900004)] [(900005, 900005), (900006, 900006)] [(900005, 900005), (900006, 900006)] rfl rfl rfl rfl (i1) (by repeat' first | exact .nil | refine .lent rfl rfl rfl ?_ | refine .data rfl ?_) (fun _ => rfl) rfl rfl hnt rfl rfl (by repeat' first | exact trivial | rfl | apply And.intro) (by repeat' first | exact trivial | rfl | apply And.intro) (lex (T := tab) tOk hnt rfl ?_ (Lex.nil _)))) ?_
  · (dsimp only [AllP]; (repeat' first | exact trivial | assumption | exact Nat.le_of_ble_eq_true rfl | apply And.intro | exact eCells_len1 _ _ ‹_› | exact eCells_isByte _ _ ‹_› | (intro hh_; have hg_ := hh_; (try simp only [condT_ff, condF_tt, notE_t, notE_f, Bool.and_eq_true, ne_eq, decide_eq_true_eq, decide_eq_false_iff_not] at hg_)) | intro _ | exact rfl | omega))
    all_goals trace_state
  · (dsimp only [AllP]; (repeat' first | exact trivial | assumption | exact Nat.le_of_ble_eq_true rfl | apply And.intro | exact eCells_len1 _ _ ‹_› | exact eCells_isByte _ _ ‹_› | (intro hh_; have hg_ := hh_; (try simp only [condT_ff, condF_tt, notE_t, notE_f, Bool.and_eq_true, ne_eq, decide_eq_true_eq, decide_eq_false_iff_not] at hg_)) | intro _ | exact rfl | omega))
    all_goals trace_state
  refine tr_le (s' := St.of [(1, .one (.e (eI ((a + 2 ^ (j + 1) : Nat) : Int)))), (13, .one (.e (eI ((a + 2 ^ j : Nat) : Int)))), (14, .one (.e (eI 0))), (2, .one (.ptr 900000 0 0)), (3, .one (.ptr 900001 0 0)), (4, .one (.ptr 900002 0 0)), (5, .one (.ptr 900003 0 0)), (6, .one (.ptr 900004 0 0)), (900000, .one (.ptr 900000 0 0)), (900001, .one (.ptr 900001 0 0)), (900002, .one (.ptr 900002 0 0)), (900003, .one (.ptr 900003 0 0)), (900004, .one (.ptr 900004 0 0)), ((1000000 + 4), .one (.eptr kE))] [(900000, ⟨0, .box (.es [eBools o]), 0⟩), (900001, ⟨0, .box (.es [eI mode]), 0⟩), (900002, ⟨0, .box (.es [eSlots l]), 0⟩), (900003, ⟨0, .box (.ds [.own 900005 0, .own 900006 0]), 0⟩), (900004, ⟨0, .box (.ds [cloW]), 0⟩), (900005, ⟨0, .row 3 (op1.map eS), 0⟩), (900006, ⟨0, .row 1 (eLs1 rs1), 0⟩)]) (le_of (ad := []) (by refine ⟨?_, ?_, ?_, ?_, ?_, ?_, ?_, ?_, ?_, ?_, ?_, ?_, ?_, ?_, trivial⟩ <;> first | exact trivial | rfl | exact ⟨rfl, rfl⟩ | exact ⟨rfl, rfl, rfl⟩ | exact ⟨rfl, rfl, rfl, rfl⟩ | exact ⟨rfl, rfl, rfl, rfl, rfl⟩ | exact congrArg (fun z : Int => E.v (.int .i64 z)) (wrap64_id (by omega) (by omega)) | exact congrArg (fun z : Int => E.v (.int .u8 z)) (by assumption) | exact congrArg (fun z : ByteArray => E.v (.string z)) (by assumption) | (refine ⟨rfl, ?_⟩; repeat' first | exact trivial | rfl | apply And.intro)) (memOk_box rfl rfl rfl (memOk_box rfl rfl rfl (memOk_box rfl rfl rfl (memOk_box rfl rfl ⟨⟨rfl, rfl, rfl, rfl⟩, ⟨rfl, rfl, rfl, rfl⟩, trivial⟩ (memOk_box rfl rfl ⟨⟨rfl, (by repeat' first | exact trivial | rfl | apply And.intro)⟩, trivial⟩ (memOk_row rfl rfl rfl (memOk_row rfl rfl rfl trivial)))))))) ?_
  repeat' (first | refine tr_seq ?_ | refine reg (T := tab) tOk hnt rfl ?_ ?_ | refine regD (T := tab) tOk mixedR hnt rfl (by decide +kernel) ?_ ?_ | refine tr_block ?_ | refine tr_skip ?_)
  · (dsimp only [AllP]; (repeat' first | exact trivial | assumption | exact Nat.le_of_ble_eq_true rfl | apply And.intro | decide | intro _ | exact rfl))
  repeat' (first | refine tr_seq ?_ | refine tr_block ?_ | refine tr_skip ?_)
  refine tr_cond rfl (fun hc => ?_) (fun hc => ?_)
  · exact absurd hc (by decide)
  repeat' (first | refine tr_seq ?_ | refine tr_block ?_ | refine tr_skip ?_)
  refine tr_region (lex (T := tab) tOk hnt rfl ?_ (callH (us := []) [(900000, 900000), (900001, 900001), (900002, 900002), (900003, 900003), (900004, 900004)] [(900005, 900005), (900006, 900006)] [(900005, 900005), (900006, 900006)] rfl rfl rfl rfl (i2) (by repeat' first | exact .nil | refine .lent rfl rfl rfl ?_ | refine .data rfl ?_) (fun _ => rfl) rfl rfl hnt rfl rfl (by repeat' first | exact trivial | rfl | apply And.intro) (by repeat' first | exact trivial | rfl | apply And.intro) (lex (T := tab) tOk hnt rfl ?_ (Lex.nil _)))) ?_
  · (dsimp only [AllP]; (repeat' first | exact trivial | assumption | exact Nat.le_of_ble_eq_true rfl | apply And.intro | exact eCells_len1 _ _ ‹_› | exact eCells_isByte _ _ ‹_› | (intro hh_; have hg_ := hh_; (try simp only [condT_ff, condF_tt, notE_t, notE_f, Bool.and_eq_true, ne_eq, decide_eq_true_eq, decide_eq_false_iff_not] at hg_)) | intro _ | exact rfl | omega))
    all_goals trace_state
  · (dsimp only [AllP]; (repeat' first | exact trivial | assumption | exact Nat.le_of_ble_eq_true rfl | apply And.intro | exact eCells_len1 _ _ ‹_› | exact eCells_isByte _ _ ‹_› | (intro hh_; have hg_ := hh_; (try simp only [condT_ff, condF_tt, notE_t, notE_f, Bool.and_eq_true, ne_eq, decide_eq_true_eq, decide_eq_false_iff_not] at hg_)) | intro _ | exact rfl | omega))
    all_goals trace_state
  refine tr_ret ⟨.inr rfl, _, _, _, rfl, by trivial, rfl, fun X => le_of (ad := []) ⟨rfl, ⟨rfl, rfl, rfl, rfl, rfl⟩, ⟨rfl, rfl, rfl, rfl, rfl⟩, ⟨rfl, rfl, rfl, rfl, rfl⟩, ⟨rfl, rfl, rfl, rfl, rfl⟩, ⟨rfl, rfl, rfl, rfl, rfl⟩, trivial⟩ (memOk_box rfl rfl rfl (memOk_box rfl rfl rfl (memOk_box rfl rfl rfl (memOk_box rfl rfl ⟨⟨rfl, rfl, rfl, rfl⟩, ⟨rfl, rfl, rfl, rfl⟩, trivial⟩ (memOk_box rfl rfl ⟨⟨rfl, (by repeat' first | exact trivial | rfl | apply And.intro)⟩, trivial⟩ (memOk_row rfl rfl rfl (memOk_row rfl rfl rfl trivial)))))))⟩
theorem walk_fn (mode : Int) (l : List SlotT) (o : List Bool) (hm : ¬ (mode ≠ 1 ∧ mode ≠ 2)) (he : ∀ x ∈ l, (lfX mode x).2 = 0) (hl : l.length ≤ 64) (hol : o.length = l.length) : ∀ (k : Nat), k ≤ 6 → ∀ (a : Nat) (op : List SlotT) (rs : LL), a + 2 ^ k ≤ l.length → op.length + 2 ^ k ≤ 64 → rs.length + 2 ^ k ≤ 64 → FnH Tryd.prog 37 gK (msW mode l o op rs) [.one (.e (eI (a : Int))), .one (.e (eI ((a + 2 ^ k : Nat) : Int))), .one (.ptr 900000 0 0), .one (.ptr 900001 0 0), .one (.ptr 900002 0 0), .one (.ptr 900003 0 0), .one (.ptr 900004 0 0)] (.one (.e (eI 0))) (msW mode l o (op ++ (cvr mode k (sub l a k) (sub o a k)).1) (rs ++ (cvr mode k (sub l a k) (sub o a k)).2))
  | 0, hk, a, op, rs, h1, h2, h3 => walk_step mode l o hm he hl hol 0 hk (fun j e => by cases e) a op rs h1 h2 h3
  | k + 1, hk, a, op, rs, h1, h2, h3 => walk_step mode l o hm he hl hol (k + 1) hk (fun j e => by cases e; exact walk_fn mode l o hm he hl hol k (by omega)) a op rs h1 h2 h3
end Go.Proofs.YtphaholcndhonaaDoor
namespace Go.Proofs.YtphaholcndhonaaDoor
open Go Go.RowKit Go.Proofs.YtphaholcndhonaaDoor.Ab
set_option linter.unusedSimpArgs false
set_option linter.unusedVariables false

def rCv (x : (List SlotT × LL) × Int) : D := .tup [(true, .es (cvE x.1.1 x.1.2)), (false, .es [eI x.2])]
def covF (mode : Int) (l : List SlotT) (o : List Bool) : (List SlotT × LL) × Int :=
  if slFault mode l ≠ 0 then (([], []), slFault mode l) else if o.length ≠ l.length then (([], []), 1) else (cvr mode (Nat.log2 l.length) l o, 0)
theorem cov_bad {mode : Int} {l : List SlotT} (o : List Bool) (h : slFault mode l ≠ 0) : covF mode l o = (([], []), slFault mode l) := if_pos h
theorem cov_size {mode : Int} {l : List SlotT} {o : List Bool} (h : slFault mode l = 0) (h1 : o.length ≠ l.length) : covF mode l o = (([], []), 1) := (if_neg (not_not_intro h)).trans (if_pos h1)
theorem cov_fit {mode : Int} {l : List SlotT} {o : List Bool} (h : slFault mode l = 0) (h1 : o.length = l.length) : covF mode l o = (cvr mode (Nat.log2 l.length) l o, 0) := (if_neg (not_not_intro h)).trans (if_neg (not_not_intro h1))
theorem fault_good {mode : Int} {l : List SlotT} (h : slFault mode l = 0) : ¬ (mode ≠ 1 ∧ mode ≠ 2) ∧ (∀ x ∈ l, (lfX mode x).2 = 0) ∧ ∃ k, k ≤ 6 ∧ l.length = 2 ^ k := by
  obtain ⟨h1, h2, h3⟩ := leaves_good ((slFault_eq mode l).trans h)
  refine ⟨h1, (errL_all mode l).1 ?_, h3⟩
  unfold slFault at h
  rw [if_neg h1] at h
  split at h
  · cases h
  · exact h
set_option maxRecDepth 10000 in
set_option maxHeartbeats 2000000 in
theorem CoverOf_fn (mode : Int) (l : List SlotT) (o : List Bool) : FnG Tryd.prog 13 gK [.one (.e (eI mode)), .one (.e (eSlots l)), .one (.e (eBools o))] (rCv (covF mode l o)) := by
  refine fn_introG (T := tab) tOk Tryd.func13 rfl (by kernel_rfl) (by simp [Tryd.ntmps13]) ?_
  intro X hX
  have hnt : X.nt = 39 := hX
  clear hX
  have hL := leavesR_fn mode l
  have hLe := slFault_eq mode l
  have hoL : (o.map eBo1).length = o.length := List.length_map ..
  have hlL : (l.map eS).length = l.length := List.length_map ..
  have hoX : ([eBools o].getD 0 E.dflt).xs.length = o.length := hoL
  have hlX : ([eSlots l].getD 0 E.dflt).xs.length = l.length := hlL
  generalize hlv : leavesF mode l = lv at *
  obtain ⟨rw_, e⟩ := lv
  have hLe : e = slFault mode l := hLe
  repeat' (first | refine tr_seq ?_ | refine reg (T := tab) tOk hnt rfl ?_ ?_ | refine regD (T := tab) tOk mixedR hnt rfl (by decide +kernel) ?_ ?_ | refine tr_block ?_ | refine tr_skip ?_)
  · (dsimp only [AllP]; (repeat' first | exact trivial | assumption | exact Nat.le_of_ble_eq_true rfl | apply And.intro | decide | intro _ | exact rfl))
  repeat' (first | refine tr_seq ?_ | refine tr_block ?_ | refine tr_skip ?_)
  refine tr_region (lex (T := tab) tOk hnt rfl ?_ (callV rfl rfl rfl rfl rfl rfl rfl hnt rfl (hL) (lex (T := tab) tOk hnt rfl ?_ (Lex.nil _)))) ?_
  · (dsimp only [AllP]; (repeat' first | exact trivial | assumption | exact Nat.le_of_ble_eq_true rfl | apply And.intro | exact eCells_len1 _ _ ‹_› | exact eCells_isByte _ _ ‹_› | (intro hh_; have hg_ := hh_; (try simp only [condT_ff, condF_tt, notE_t, notE_f, Bool.and_eq_true, ne_eq, decide_eq_true_eq, decide_eq_false_iff_not] at hg_)) | intro _ | exact rfl | omega))
    all_goals trace_state
  · (dsimp only [AllP]; (repeat' first | exact trivial | assumption | exact Nat.le_of_ble_eq_true rfl | apply And.intro | exact eCells_len1 _ _ ‹_› | exact eCells_isByte _ _ ‹_› | (intro hh_; have hg_ := hh_; (try simp only [condT_ff, condF_tt, notE_t, notE_f, Bool.and_eq_true, ne_eq, decide_eq_true_eq, decide_eq_false_iff_not] at hg_)) | intro _ | exact rfl | omega))
    all_goals trace_state
  repeat' (first | refine tr_seq ?_ | refine reg (T := tab) tOk hnt rfl ?_ ?_ | refine regD (T := tab) tOk mixedR hnt rfl (by decide +kernel) ?_ ?_ | refine tr_block ?_ | refine tr_skip ?_)
  · (dsimp only [AllP]; (repeat' first | exact trivial | assumption | exact Nat.le_of_ble_eq_true rfl | apply And.intro | decide | intro _ | exact rfl))
  repeat' (first | refine tr_seq ?_ | refine tr_block ?_ | refine tr_skip ?_)
  refine tr_cond rfl (fun hc => ?_) (fun hc => ?_)
  · simp only [condT_tt, condT_ff, condF_tt, condF_ff, notE_t, notE_f, decide_eq_true_eq, decide_eq_false_iff_not] at hc
    have hc : e ≠ 0 := hc
    rw [cov_bad o (by rw [← hLe]; exact hc), ← hLe]
    repeat' (first | refine tr_seq ?_ | refine reg (T := tab) tOk hnt rfl ?_ ?_ | refine regD (T := tab) tOk mixedR hnt rfl (by decide +kernel) ?_ ?_ | refine tr_block ?_ | refine tr_skip ?_)
    · (dsimp only [AllP]; (repeat' first | exact trivial | assumption | exact Nat.le_of_ble_eq_true rfl | apply And.intro | decide | intro _ | exact rfl))
    refine tr_ret ⟨.inr rfl, _, _, rfl, by (repeat' first | exact trivial | exact Nat.le_of_ble_eq_true rfl | apply And.intro), ?_⟩
    exact rfl
  simp only [condT_tt, condT_ff, condF_tt, condF_ff, notE_t, notE_f, decide_eq_true_eq, decide_eq_false_iff_not] at hc
  have hc : e = 0 := hc
  have hsf : slFault mode l = 0 := hLe.symm.trans hc
  repeat' (first | refine tr_seq ?_ | refine reg (T := tab) tOk hnt rfl ?_ ?_ | refine regD (T := tab) tOk mixedR hnt rfl (by decide +kernel) ?_ ?_ | refine tr_block ?_ | refine tr_skip ?_)
  · (dsimp only [AllP]; (repeat' first | exact trivial | assumption | exact Nat.le_of_ble_eq_true rfl | apply And.intro | decide | intro _ | exact rfl))
  repeat' (first | refine tr_seq ?_ | refine tr_block ?_ | refine tr_skip ?_)
  refine tr_cond rfl (fun hc => ?_) (fun hc => ?_)
  · simp only [condT_tt, condT_ff, condF_tt, condF_ff, notE_t, notE_f, decide_eq_true_eq, decide_eq_false_iff_not] at hc
    (try simp only [hoX, hlX] at hc)
    (try simp only [condT_tt, condT_ff, condF_tt, condF_ff, notE_t, notE_f, decide_eq_true_eq, decide_eq_false_iff_not] at hc)
    rw [cov_size hsf (by omega)]
    repeat' (first | refine tr_seq ?_ | refine reg (T := tab) tOk hnt rfl ?_ ?_ | refine regD (T := tab) tOk mixedR hnt rfl (by decide +kernel) ?_ ?_ | refine tr_block ?_ | refine tr_skip ?_)
    · (dsimp only [AllP]; (repeat' first | exact trivial | assumption | exact Nat.le_of_ble_eq_true rfl | apply And.intro | decide | intro _ | exact rfl))
    refine tr_ret ⟨.inr rfl, _, _, rfl, by (repeat' first | exact trivial | exact Nat.le_of_ble_eq_true rfl | apply And.intro), ?_⟩
    exact rfl
  simp only [condT_tt, condT_ff, condF_tt, condF_ff, notE_t, notE_f, decide_eq_true_eq, decide_eq_false_iff_not] at hc
  (try simp only [hoX, hlX] at hc)
  (try simp only [condT_tt, condT_ff, condF_tt, condF_ff, notE_t, notE_f, decide_eq_true_eq, decide_eq_false_iff_not] at hc)
  have hol : o.length = l.length := by omega
  obtain ⟨hm, he, k, hk, hk2⟩ := fault_good hsf
  have hl64 : l.length ≤ 64 := by
    have := Nat.pow_le_pow_right (show 0 < 2 by decide) hk
    omega
  have hw := walk_fn mode l o hm he hl64 hol k hk 0 [] [] (by omega) (by rw [List.length_nil]; omega) (by rw [List.length_nil]; omega)
  have hsl : sub l 0 k = l := by unfold sub; rw [List.drop_zero, ← hk2, List.take_length]
  have hso : sub o 0 k = o := by unfold sub; rw [List.drop_zero, ← hk2, ← hol, List.take_length]
  rw [cov_fit hsf hol, hk2, log_pow]
  rw [hsl, hso, List.nil_append, List.nil_append] at hw
  generalize cvr mode k l o = A at *
  obtain ⟨A1, A2⟩ := A
  have hlen : ((0 + 2 ^ k : Nat) : Int) = (((l.map eS).length : Nat) : Int) := by rw [hlL]; omega
  rw [hlen] at hw
  repeat' (first | refine tr_seq ?_ | refine reg (T := tab) tOk hnt rfl ?_ ?_ | refine regD (T := tab) tOk mixedR hnt rfl (by decide +kernel) ?_ ?_ | refine tr_block ?_ | refine tr_skip ?_)
  · (dsimp only [AllP]; (repeat' first | exact trivial | assumption | exact Nat.le_of_ble_eq_true rfl | apply And.intro | decide | intro _ | exact rfl))
  · (dsimp only [AllP]; (repeat' first | exact trivial | assumption | exact Nat.le_of_ble_eq_true rfl | apply And.intro | decide | intro _ | exact rfl))
  · (dsimp only [AllP]; (repeat' first | exact trivial | assumption | exact Nat.le_of_ble_eq_true rfl | apply And.intro | decide | intro _ | exact rfl))
  refine tr_le (s' := St.of [(3, .one (.ptr 3 0 0)), (4, .one (.ptr 4 0 0)), (5, .one (.ptr 5 0 0)), (6, .one (.ptr 6 0 0)), (10, .one (.ptr 10 0 0)), (11, .one (.ptr 11 0 0)), ((1000000 + 4), .one (.eptr kE))] [(3, ⟨0, .box (.es [eI mode]), 0⟩), (4, ⟨0, .box (.es [eSlots l]), 0⟩), (5, ⟨0, .box (.es [eBools o]), 0⟩), (6, ⟨0, .box (.ds [.nil, .nil]), 0⟩), (10, ⟨0, .box (.ds [.own 50 0, .own 51 0]), 0⟩), (11, ⟨0, .box (.ds [.clo 37 [(5, 0, 0), (3, 0, 0), (4, 0, 0), (10, 0, 0), (11, 0, 0)]]), 0⟩), (50, ⟨0, .row 3 [], 0⟩), (51, ⟨0, .row 1 [], 0⟩)]) (le_of (ad := [50, 51]) (by refine ⟨?_, ?_, ?_, ?_, ?_, ?_, ?_, trivial⟩ <;> first | exact trivial | rfl | exact ⟨rfl, rfl⟩ | exact ⟨rfl, rfl, rfl⟩ | exact ⟨rfl, rfl, rfl, rfl⟩ | exact ⟨rfl, rfl, rfl, rfl, rfl⟩ | exact congrArg (fun z : Int => E.v (.int .i64 z)) (wrap64_id (by omega) (by omega)) | exact congrArg (fun z : Int => E.v (.int .u8 z)) (by assumption) | exact congrArg (fun z : ByteArray => E.v (.string z)) (by assumption) | (refine ⟨rfl, ?_⟩; repeat' first | exact trivial | rfl | apply And.intro)) (memOk_box rfl rfl rfl (memOk_box rfl rfl rfl (memOk_box rfl rfl rfl (memOk_box rfl rfl ⟨trivial, trivial, trivial⟩ (memOk_box rfl rfl ⟨⟨rfl, rfl⟩, ⟨rfl, rfl⟩, trivial⟩ (memOk_box rfl rfl ⟨⟨rfl, (by repeat' first | exact trivial | rfl | apply And.intro)⟩, trivial⟩ (memOk_new rfl (by decide) (memOk_new rfl (by decide) trivial))))))))) ?_
  repeat' (first | refine tr_seq ?_ | refine tr_block ?_ | refine tr_skip ?_)
  refine tr_region (lex (T := tab) tOk hnt rfl ?_ (callH (us := []) [(900000, 5), (900001, 3), (900002, 4), (900003, 10), (900004, 11)] [(900005, 50), (900006, 51)] [(900005, 50), (900006, 51)] rfl rfl rfl rfl (hw) (by repeat' first | exact .nil | refine .lent rfl rfl rfl ?_ | refine .data rfl ?_) (fun _ => rfl) rfl rfl hnt rfl rfl (by repeat' first | exact trivial | rfl | apply And.intro) (by repeat' first | exact trivial | rfl | apply And.intro) (lex (T := tab) tOk hnt rfl ?_ (Lex.nil _)))) ?_
  · (dsimp only [AllP]; (repeat' first | exact trivial | assumption | exact Nat.le_of_ble_eq_true rfl | apply And.intro | exact eCells_len1 _ _ ‹_› | exact eCells_isByte _ _ ‹_› | (intro hh_; have hg_ := hh_; (try simp only [condT_ff, condF_tt, notE_t, notE_f, Bool.and_eq_true, ne_eq, decide_eq_true_eq, decide_eq_false_iff_not] at hg_)) | intro _ | exact rfl | omega))
    all_goals trace_state
  · (dsimp only [AllP]; (repeat' first | exact trivial | assumption | exact Nat.le_of_ble_eq_true rfl | apply And.intro | exact eCells_len1 _ _ ‹_› | exact eCells_isByte _ _ ‹_› | (intro hh_; have hg_ := hh_; (try simp only [condT_ff, condF_tt, notE_t, notE_f, Bool.and_eq_true, ne_eq, decide_eq_true_eq, decide_eq_false_iff_not] at hg_)) | intro _ | exact rfl | omega))
    all_goals trace_state
  refine tr_le (s' := St.of [(6, .one (.ptr 6 0 0)), (10, .one (.ptr 10 0 0)), (12, .one (.e (eI 0)))] [(6, ⟨0, .box (.ds [.nil, .nil]), 0⟩), (10, ⟨0, .box (.ds [.own 50 0, .own 51 0]), 0⟩), (50, ⟨0, .row 3 (A1.map eS), 0⟩), (51, ⟨0, .row 1 (eLs1 A2), 0⟩)]) (le_of (ad := []) (by refine ⟨?_, ?_, ?_, trivial⟩ <;> first | exact trivial | rfl | exact ⟨rfl, rfl⟩ | exact ⟨rfl, rfl, rfl⟩ | exact ⟨rfl, rfl, rfl, rfl⟩ | exact ⟨rfl, rfl, rfl, rfl, rfl⟩ | exact congrArg (fun z : Int => E.v (.int .i64 z)) (wrap64_id (by omega) (by omega)) | exact congrArg (fun z : Int => E.v (.int .u8 z)) (by assumption) | exact congrArg (fun z : ByteArray => E.v (.string z)) (by assumption) | (refine ⟨rfl, ?_⟩; repeat' first | exact trivial | rfl | apply And.intro)) (memOk_box rfl rfl ⟨trivial, trivial, trivial⟩ (memOk_box rfl rfl ⟨⟨rfl, rfl, rfl, rfl⟩, ⟨rfl, rfl, rfl, rfl⟩, trivial⟩ (memOk_row rfl rfl rfl (memOk_row rfl rfl rfl trivial))))) ?_
  repeat' (first | refine tr_seq ?_ | refine reg (T := tab) tOk hnt rfl ?_ ?_ | refine regD (T := tab) tOk mixedR hnt rfl (by decide +kernel) ?_ ?_ | refine tr_block ?_ | refine tr_skip ?_)
  · (dsimp only [AllP]; (repeat' first | exact trivial | assumption | exact Nat.le_of_ble_eq_true rfl | apply And.intro | decide | intro _ | exact rfl))
  repeat' (first | refine tr_seq ?_ | refine tr_block ?_ | refine tr_skip ?_)
  refine tr_cond rfl (fun hc => ?_) (fun hc => ?_)
  · exact absurd hc (by decide)
  repeat' (first | refine tr_seq ?_ | refine reg (T := tab) tOk hnt rfl ?_ ?_ | refine regD (T := tab) tOk mixedR hnt rfl (by decide +kernel) ?_ ?_ | refine tr_block ?_ | refine tr_skip ?_)
  · (dsimp only [AllP]; (repeat' first | exact trivial | assumption | exact Nat.le_of_ble_eq_true rfl | apply And.intro | decide | intro _ | exact rfl))
  refine tr_ret ⟨.inr rfl, _, _, rfl, by (repeat' first | exact trivial | exact Nat.le_of_ble_eq_true rfl | apply And.intro), ?_⟩
  exact rfl
end Go.Proofs.YtphaholcndhonaaDoor
namespace Go.Proofs.YtphaholcndhonaaDoor
open Go Go.RowKit Go.Proofs.YtphaholcndhonaaDoor.Ab
set_option linter.unusedSimpArgs false
set_option linter.unusedVariables false

set_option maxRecDepth 10000 in
set_option maxHeartbeats 2000000 in
theorem slotCopy_fn (x : SlotT) (h1 : x.2.1.length ≤ 80) (h2 : x.2.2.1.length ≤ 400) : FnD Tryd.prog 81 [.agg (.es (eS x))] (.agg (.es (eS x))) := by
  refine fn_intro (T := tab) tOk Tryd.func81 rfl (by kernel_rfl) (by simp [Tryd.ntmps81]) ?_
  intro X hX
  have hnt : X.nt = 14 := hX
  clear hX
  obtain ⟨f, s, d, u⟩ := x
  repeat' (first | refine tr_seq ?_ | refine reg (T := tab) tOk hnt rfl ?_ ?_ | refine regD (T := tab) tOk mixedR hnt rfl (by first | decide +kernel | kernel_rfl) ?_ ?_ | refine tr_block ?_ | refine tr_skip ?_)
  · (dsimp only [AllP]; (repeat' first | exact trivial | assumption | exact Nat.le_of_ble_eq_true rfl | apply And.intro | decide | intro _ | exact rfl))
  have b1 : (bytesOf ((eS (f, s, d, u)).getD (0 + 1) E.dflt).xs).size ≤ maxLen := by
    show (bytesOf (eCells s)).size ≤ maxLen
    rw [strB_of, strB_size]
    exact Nat.le_trans h1 (by decide)
  have b2 : (bytesOf ((eS (f, s, d, u)).getD (0 + 2) E.dflt).xs).size ≤ maxLen := by
    show (bytesOf (eCells d)).size ≤ maxLen
    rw [strB_of, strB_size]
    exact Nat.le_trans h2 (by decide)
  repeat' (first | refine tr_seq ?_ | refine reg (T := tab) tOk hnt rfl ?_ ?_ | refine regD (T := tab) tOk mixedR hnt rfl (by first | decide +kernel | kernel_rfl) ?_ ?_ | refine tr_block ?_ | refine tr_skip ?_)
  · (dsimp only [AllP]; (repeat' first | exact trivial | assumption | exact Nat.le_of_ble_eq_true rfl | apply And.intro | exact eCells_len1 _ _ ‹_› | exact eCells_isByte _ _ ‹_› | (intro hh_; have hg_ := hh_; (try simp only [condT_ff, condF_tt, notE_t, notE_f, Bool.and_eq_true, ne_eq, decide_eq_true_eq, decide_eq_false_iff_not] at hg_)) | intro _ | exact rfl | omega))
    all_goals trace_state
  refine tr_ret ⟨.inr rfl, _, _, rfl, by (repeat' first | exact trivial | exact Nat.le_of_ble_eq_true rfl | apply And.intro), ?_⟩
  show D.agg (.es [.v (.bool f), .sl (strBytes (bytesOf (eCells s))), .sl (strBytes (bytesOf (eCells d)))]) = _
  rw [strB_of, strB_of, strBytes_B, strBytes_B]
  rfl
def msR (c : List SlotT × LL) : List (Nat × Blk) := [(3000, ⟨0, .row 3 (c.1.map eS), 0⟩), (3001, ⟨0, .row 1 (eLs1 c.2), 0⟩)]
set_option maxRecDepth 10000 in
set_option maxHeartbeats 2000000 in
theorem covered_step (mode : Int) (k : Nat) (hk : k ≤ 6) (ih : ∀ j, k = j + 1 → ∀ (l : List SlotT) (o : List Bool), (∀ x ∈ l, (lfX mode x).2 = 0) → l.length = 2 ^ j → o.length = 2 ^ j → FnH Tryd.prog 41 [] [] [.one (.e (eI mode)), .one (.e (eSlots l)), .one (.e (eBools o))] (.agg (.ds [.own 3000 0, .own 3001 0])) (msR (cvr mode j l o))) (l : List SlotT) (o : List Bool) (he : ∀ x ∈ l, (lfX mode x).2 = 0) (hl : l.length = 2 ^ k) (ho : o.length = 2 ^ k) : FnH Tryd.prog 41 [] ([]) [.one (.e (eI mode)), .one (.e (eSlots l)), .one (.e (eBools o))] (.agg (.ds [.own 3000 0, .own 3001 0])) (msR (cvr mode k l o)) := by
  refine fn_introH (T := tab) tOk Tryd.func41 rfl (by kernel_rfl) (by simp [Tryd.ntmps41]) rfl rfl ?_
  intro X hX
  have hnt : X.nt = 57 := hX
  clear hX
  have hcn := count_fn o
  have hsc := sm_cnt o
  have hoL : (o.map eBo1).length = o.length := List.length_map ..
  have hlL : (l.map eS).length = l.length := List.length_map ..
  repeat' (first | refine tr_seq ?_ | refine reg (T := tab) tOk hnt rfl ?_ ?_ | refine regD (T := tab) tOk mixedR hnt rfl (by first | decide +kernel | kernel_rfl) ?_ ?_ | refine tr_block ?_ | refine tr_skip ?_)
  · (dsimp only [AllP]; (repeat' first | exact trivial | assumption | exact Nat.le_of_ble_eq_true rfl | apply And.intro | decide | intro _ | exact rfl))
  repeat' (first | refine tr_seq ?_ | refine tr_block ?_ | refine tr_skip ?_)
  refine tr_region (lex (T := tab) tOk hnt rfl ?_ (call rfl rfl rfl rfl rfl rfl rfl hnt (hcn) (lex (T := tab) tOk hnt rfl ?_ (Lex.nil _)))) ?_
  · (dsimp only [AllP]; (repeat' first | exact trivial | assumption | exact Nat.le_of_ble_eq_true rfl | apply And.intro | exact eCells_len1 _ _ ‹_› | exact eCells_isByte _ _ ‹_› | (intro hh_; have hg_ := hh_; (try simp only [condT_ff, condF_tt, notE_t, notE_f, Bool.and_eq_true, ne_eq, decide_eq_true_eq, decide_eq_false_iff_not] at hg_)) | intro _ | exact rfl | omega))
    all_goals trace_state
  · (dsimp only [AllP]; (repeat' first | exact trivial | assumption | exact Nat.le_of_ble_eq_true rfl | apply And.intro | exact eCells_len1 _ _ ‹_› | exact eCells_isByte _ _ ‹_› | (intro hh_; have hg_ := hh_; (try simp only [condT_ff, condF_tt, notE_t, notE_f, Bool.and_eq_true, ne_eq, decide_eq_true_eq, decide_eq_false_iff_not] at hg_)) | intro _ | exact rfl | omega))
    all_goals trace_state
  repeat' (first | refine tr_seq ?_ | refine tr_block ?_ | refine tr_skip ?_)
  refine tr_cond rfl (fun hc => ?_) (fun hc => ?_)
  · simp only [condT_tt, condT_ff, condF_tt, condF_ff, notE_t, notE_f, decide_eq_true_eq, decide_eq_false_iff_not] at hc
    have hs0 : smB o = false := hsc.2 (by omega)
    rw [cvr_no mode k l hs0]
    have hr := rootOf_fn mode k l hk hl
    generalize hT mode k (digL mode l) = d at *
    repeat' (first | refine tr_seq ?_ | refine tr_block ?_ | refine tr_skip ?_)
    refine tr_region (lex (T := tab) tOk hnt rfl ?_ (call rfl rfl rfl rfl rfl rfl rfl hnt (hr) (lex (T := tab) tOk hnt rfl ?_ (Lex.nil _)))) ?_
    · (dsimp only [AllP]; (repeat' first | exact trivial | assumption | exact Nat.le_of_ble_eq_true rfl | apply And.intro | exact eCells_len1 _ _ ‹_› | exact eCells_isByte _ _ ‹_› | (intro hh_; have hg_ := hh_; (try simp only [condT_ff, condF_tt, notE_t, notE_f, Bool.and_eq_true, ne_eq, decide_eq_true_eq, decide_eq_false_iff_not] at hg_)) | intro _ | exact rfl | omega))
      all_goals trace_state
    · (dsimp only [AllP]; (repeat' first | exact trivial | assumption | exact Nat.le_of_ble_eq_true rfl | apply And.intro | exact eCells_len1 _ _ ‹_› | exact eCells_isByte _ _ ‹_› | (intro hh_; have hg_ := hh_; (try simp only [condT_ff, condF_tt, notE_t, notE_f, Bool.and_eq_true, ne_eq, decide_eq_true_eq, decide_eq_false_iff_not] at hg_)) | intro _ | exact rfl | omega))
      all_goals trace_state
    refine tr_le (le_rn 16 3001 rfl rfl) ?_
    repeat' (first | refine tr_seq ?_ | refine tr_block ?_ | refine tr_skip ?_)
    exact tr_ret ⟨.inr rfl, _, _, _, rfl, by (repeat' first | exact trivial | exact Nat.le_of_ble_eq_true rfl | apply And.intro), rfl, fun X => le_of (ad := [3000]) ⟨⟨⟨rfl, rfl⟩, ⟨rfl, rfl, rfl, rfl⟩, trivial⟩, trivial⟩ (memOk_new rfl (by decide) (memOk_row rfl rfl rfl trivial))⟩
  simp only [condT_tt, condT_ff, condF_tt, condF_ff, notE_t, notE_f, decide_eq_true_eq, decide_eq_false_iff_not] at hc
  have hs1 : ¬ smB o = false := fun h => hc (by have := hsc.1 h; omega)
  repeat' (first | refine tr_seq ?_ | refine reg (T := tab) tOk hnt rfl ?_ ?_ | refine regD (T := tab) tOk mixedR hnt rfl (by first | decide +kernel | kernel_rfl) ?_ ?_ | refine tr_block ?_ | refine tr_skip ?_)
  · (dsimp only [AllP]; (repeat' first | exact trivial | assumption | exact Nat.le_of_ble_eq_true rfl | apply And.intro | decide | intro _ | exact rfl))
  repeat' (first | refine tr_seq ?_ | refine tr_block ?_ | refine tr_skip ?_)
  refine tr_cond rfl (fun hc => ?_) (fun hc => ?_)
  · simp only [condT_tt, condT_ff, condF_tt, condF_ff, notE_t, notE_f, decide_eq_true_eq, decide_eq_false_iff_not] at hc
    (try simp only [hlL] at hc)
    (try simp only [condT_tt, condT_ff, condF_tt, condF_ff, notE_t, notE_f, decide_eq_true_eq, decide_eq_false_iff_not] at hc)
    have hk0 : k = 0 := by
      cases k with
      | zero => rfl
      | succ k => rw [Nat.pow_succ] at hl; have := Nat.one_le_two_pow (n := k); omega
    subst hk0
    rw [cvr_0 mode l hs1]
    obtain ⟨x, rfl⟩ : ∃ x, l = [x] := by
      match l, hl with
      | [x], _ => exact ⟨x, rfl⟩
    have hlk := leaf_ok (he x (List.mem_cons_self ..))
    have hcp := slotCopy_fn x hlk.1 hlk.2
    repeat' (first | refine tr_seq ?_ | refine tr_block ?_ | refine tr_skip ?_)
    refine tr_region (lex (T := tab) tOk hnt rfl ?_ (call rfl rfl rfl rfl rfl rfl rfl hnt (hcp) (lex (T := tab) tOk hnt rfl ?_ (Lex.nil _)))) ?_
    · (dsimp only [AllP]; (repeat' first | exact trivial | assumption | exact Nat.le_of_ble_eq_true rfl | apply And.intro | exact eCells_len1 _ _ ‹_› | exact eCells_isByte _ _ ‹_› | (intro hh_; have hg_ := hh_; (try simp only [condT_ff, condF_tt, notE_t, notE_f, Bool.and_eq_true, ne_eq, decide_eq_true_eq, decide_eq_false_iff_not] at hg_)) | intro _ | exact rfl | omega))
      all_goals first | exact (show (0 : Int) < ((1 : Nat) : Int) by decide) | trace_state
    · (dsimp only [AllP]; (repeat' first | exact trivial | assumption | exact Nat.le_of_ble_eq_true rfl | apply And.intro | exact eCells_len1 _ _ ‹_› | exact eCells_isByte _ _ ‹_› | (intro hh_; have hg_ := hh_; (try simp only [condT_ff, condF_tt, notE_t, notE_f, Bool.and_eq_true, ne_eq, decide_eq_true_eq, decide_eq_false_iff_not] at hg_)) | intro _ | exact rfl | omega))
      all_goals trace_state
    refine tr_le (le_rn 25 3000 rfl rfl) ?_
    repeat' (first | refine tr_seq ?_ | refine tr_block ?_ | refine tr_skip ?_)
    exact tr_ret ⟨.inr rfl, _, _, _, rfl, by (repeat' first | exact trivial | exact Nat.le_of_ble_eq_true rfl | apply And.intro), rfl, fun X => le_of (ad := [3001]) ⟨⟨⟨rfl, rfl, rfl, rfl⟩, ⟨rfl, rfl⟩, trivial⟩, trivial⟩ (memOk_row rfl rfl rfl (memOk_new rfl (by decide) trivial))⟩
  simp only [condT_tt, condT_ff, condF_tt, condF_ff, notE_t, notE_f, decide_eq_true_eq, decide_eq_false_iff_not] at hc
  (try simp only [hlL] at hc)
  (try simp only [condT_tt, condT_ff, condF_tt, condF_ff, notE_t, notE_f, decide_eq_true_eq, decide_eq_false_iff_not] at hc)
  obtain ⟨j, rfl⟩ : ∃ j, k = j + 1 := by
    cases k with
    | zero => exact absurd hl (by omega)
    | succ j => exact ⟨j, rfl⟩
  rw [cvr_s mode j l hs1]
  have hp : 2 ^ (j + 1) = 2 ^ j + 2 ^ j := by rw [Nat.pow_succ]; omega
  have hp64 : 2 ^ (j + 1) ≤ 64 := Nat.le_trans (Nat.pow_le_pow_right (by decide) hk) (by decide)
  have l1 : (l.take (2 ^ j)).length = 2 ^ j := by rw [List.length_take, hl, hp]; omega
  have l2 : (l.drop (2 ^ j)).length = 2 ^ j := by rw [List.length_drop, hl, hp]; omega
  have i1 := ih j rfl (l.take (2 ^ j)) (o.take (2 ^ j)) (fun x hx => he x (List.mem_of_mem_take hx)) l1 (by rw [List.length_take, ho, hp]; omega)
  have i2 := ih j rfl (l.drop (2 ^ j)) (o.drop (2 ^ j)) (fun x hx => he x (List.mem_of_mem_drop hx)) l2 (by rw [List.length_drop, ho, hp]; omega)
  clear ih
  have n1 := cvr_len mode j (l.take (2 ^ j)) (o.take (2 ^ j)) l1
  have n2 := cvr_len mode j (l.drop (2 ^ j)) (o.drop (2 ^ j)) l2
  generalize cvr mode j (l.take (2 ^ j)) (o.take (2 ^ j)) = A at *
  generalize cvr mode j (l.drop (2 ^ j)) (o.drop (2 ^ j)) = B at *
  obtain ⟨A1, A2⟩ := A
  obtain ⟨B1, B2⟩ := B
  dsimp only at n1 n2 ⊢
  have hq : IntKind.i64.wrap (Int.tdiv ((l.map eS).length : Int) 2) = ((2 ^ j : Nat) : Int) := by
    rw [hlL, hl, hp, show ((2 ^ j + 2 ^ j : Nat) : Int) = 2 * ((2 ^ j : Nat) : Int) by omega, Int.mul_tdiv_cancel_left _ (by decide), wrap64_id (by omega) (by omega)]
  have e1 : E.sl (List.take (Int.toNat ((2 ^ j : Nat) : Int) - Int.toNat 0) (List.drop (Int.toNat 0) (l.map eS))) = eSlots (l.take (2 ^ j)) := by
    rw [Int.toNat_natCast]
    unfold eSlots
    rw [List.map_take]
    rfl
  have e2 : E.sl (List.take (Int.toNat ((2 ^ j : Nat) : Int) - Int.toNat 0) (List.drop (Int.toNat 0) (o.map eBo1))) = eBools (o.take (2 ^ j)) := by
    rw [Int.toNat_natCast]
    unfold eBools
    rw [List.map_take]
    rfl
  have e3 : E.sl (List.take (Int.toNat (((l.map eS).length : Nat) : Int) - Int.toNat ((2 ^ j : Nat) : Int)) (List.drop (Int.toNat ((2 ^ j : Nat) : Int)) (l.map eS))) = eSlots (l.drop (2 ^ j)) := by
    rw [Int.toNat_natCast, Int.toNat_natCast]
    unfold eSlots
    rw [List.map_drop, List.take_of_length_le (by rw [List.length_drop]; exact Nat.le_refl _)]
  have e4 : E.sl (List.take (Int.toNat (((o.map eBo1).length : Nat) : Int) - Int.toNat ((2 ^ j : Nat) : Int)) (List.drop (Int.toNat ((2 ^ j : Nat) : Int)) (o.map eBo1))) = eBools (o.drop (2 ^ j)) := by
    rw [Int.toNat_natCast, Int.toNat_natCast]
    unfold eBools
    rw [List.map_drop, List.take_of_length_le (by rw [List.length_drop]; exact Nat.le_refl _)]
  rw [← e1, ← e2] at i1
  rw [← e3, ← e4] at i2
  have c1 : (0 : Int) ≤ ((2 ^ j : Nat) : Int) := Int.natCast_nonneg _
  have c2 : ((2 ^ j : Nat) : Int) ≤ ((l.map eS).length : Int) := by rw [hlL]; omega
  have c3 : ((2 ^ j : Nat) : Int) ≤ ((o.map eBo1).length : Int) := by rw [hoL]; omega
  have c4 : ∀ cs ∈ l.map eS, cs.length = 3 := fun cs hc => by obtain ⟨p, _, rfl⟩ := List.mem_map.1 hc; rfl
  have c5 : ∀ cs ∈ o.map eBo1, cs.length = 1 := fun cs hc => by obtain ⟨p, _, rfl⟩ := List.mem_map.1 hc; rfl
  repeat' (first | refine tr_seq ?_ | refine reg (T := tab) tOk hnt rfl ?_ ?_ | refine regD (T := tab) tOk mixedR hnt rfl (by first | decide +kernel | kernel_rfl) ?_ ?_ | refine tr_block ?_ | refine tr_skip ?_)
  · (dsimp only [AllP]; (repeat' first | exact trivial | assumption | exact Nat.le_of_ble_eq_true rfl | apply And.intro | decide | intro _ | exact rfl))
  rw [hq]
  repeat' (first | refine tr_seq ?_ | refine tr_block ?_ | refine tr_skip ?_)
  refine tr_draw (T := tab) tOk hnt mixedR (lexD (T := tab) rfl ?_ (callHD [] [] [(3000, 3000), (3001, 3001)] rfl rfl rfl rfl (i1) (by repeat' first | exact .nil | refine .lent rfl rfl rfl ?_ | refine .data rfl ?_) rfl rfl rfl rfl rfl (by repeat' first | exact trivial | rfl | apply And.intro) (by repeat' first | exact trivial | rfl | apply And.intro) (lexD (T := tab) rfl ?_ (callHD [] [] [(3000, 3002), (3001, 3003)] rfl rfl rfl rfl (i2) (by repeat' first | exact .nil | refine .lent rfl rfl rfl ?_ | refine .data rfl ?_) rfl rfl rfl rfl rfl (by repeat' first | exact trivial | rfl | apply And.intro) (by repeat' first | exact trivial | rfl | apply And.intro) (lexD (T := tab) rfl ?_ (.nil _)))))) (by first | decide +kernel | kernel_rfl) ?_
  · (dsimp only [AllP]; (repeat' first | exact trivial | assumption | exact Nat.le_of_ble_eq_true rfl | apply And.intro | exact eCells_len1 _ _ ‹_› | exact eCells_isByte _ _ ‹_› | (intro hh_; have hg_ := hh_; (try simp only [condT_ff, condF_tt, notE_t, notE_f, Bool.and_eq_true, ne_eq, decide_eq_true_eq, decide_eq_false_iff_not] at hg_)) | intro _ | exact rfl | omega))
    all_goals first | exact c4 _ ‹_› | exact c5 _ ‹_› | trace_state
  · (dsimp only [AllP]; (repeat' first | exact trivial | assumption | exact Nat.le_of_ble_eq_true rfl | apply And.intro | exact eCells_len1 _ _ ‹_› | exact eCells_isByte _ _ ‹_› | (intro hh_; have hg_ := hh_; (try simp only [condT_ff, condF_tt, notE_t, notE_f, Bool.and_eq_true, ne_eq, decide_eq_true_eq, decide_eq_false_iff_not] at hg_)) | intro _ | exact rfl | omega))
    all_goals first | exact c4 _ ‹_› | exact c5 _ ‹_› | trace_state
  · (dsimp only [AllP]; (repeat' first | exact trivial | assumption | exact Nat.le_of_ble_eq_true rfl | apply And.intro | exact eCells_len1 _ _ ‹_› | exact eCells_isByte _ _ ‹_› | (intro hh_; have hg_ := hh_; (try simp only [condT_ff, condF_tt, notE_t, notE_f, Bool.and_eq_true, ne_eq, decide_eq_true_eq, decide_eq_false_iff_not] at hg_)) | intro _ | exact rfl | omega))
    all_goals trace_state
  have m1 : (A1.map eS).length ≤ 64 := by rw [List.length_map]; omega
  have m2 : (eLs1 A2).length ≤ 64 := by unfold eLs1; rw [List.length_map]; omega
  have m3 : (A1.map eS).length + (B1.map eS).length ≤ 64 := by rw [List.length_map, List.length_map]; omega
  have m4 : (eLs1 A2).length + (eLs1 B2).length ≤ 64 := by unfold eLs1; rw [List.length_map, List.length_map]; omega
  have m5 : (A1.map eS).length + (B1.map eS).length ≤ maxLen := Nat.le_trans m3 (by decide)
  have m6 : (eLs1 A2).length + (eLs1 B2).length ≤ maxLen := Nat.le_trans m4 (by decide)
  have m7 : ((A1.map eS).length + (B1.map eS).length) * 56 ≤ 140737488355328 := by omega
  have m8 : ((eLs1 A2).length + (eLs1 B2).length) * 24 ≤ 140737488355328 := by omega
  refine tr_le (s' := St.of [(6, .one (.ptr 6 0 0)), (8, .one (.ptr 8 0 0)), (9, .one (.ptr 9 0 0))] [(6, ⟨0, .box (.ds [.nil, .nil]), 0⟩), (8, ⟨0, .box (.ds [.own 3000 0, .own 3001 0]), 0⟩), (9, ⟨0, .box (.ds [.own 3002 0, .own 3003 0]), 0⟩), (3000, ⟨0, .row 3 (A1.map eS), 0⟩), (3001, ⟨0, .row 1 (eLs1 A2), 0⟩), (3002, ⟨0, .row 3 (B1.map eS), 0⟩), (3003, ⟨0, .row 1 (eLs1 B2), 0⟩)]) (le_of (ad := []) (by refine ⟨?_, ?_, ?_, trivial⟩ <;> first | exact trivial | rfl | exact ⟨rfl, rfl⟩ | exact ⟨rfl, rfl, rfl⟩ | exact ⟨rfl, rfl, rfl, rfl⟩ | exact ⟨rfl, rfl, rfl, rfl, rfl⟩ | exact congrArg (fun z : Int => E.v (.int .i64 z)) (wrap64_id (by omega) (by omega)) | exact congrArg (fun z : Int => E.v (.int .u8 z)) (by assumption) | exact congrArg (fun z : ByteArray => E.v (.string z)) (by assumption) | (refine ⟨rfl, ?_⟩; repeat' first | exact trivial | rfl | apply And.intro)) (memOk_box rfl rfl ⟨trivial, trivial, trivial⟩ (memOk_box rfl rfl ⟨⟨rfl, rfl, rfl, rfl⟩, ⟨rfl, rfl, rfl, rfl⟩, trivial⟩ (memOk_box rfl rfl ⟨⟨rfl, rfl, rfl, rfl⟩, ⟨rfl, rfl, rfl, rfl⟩, trivial⟩ (memOk_row rfl rfl rfl (memOk_row rfl rfl rfl (memOk_row rfl rfl rfl (memOk_row rfl rfl rfl trivial)))))))) ?_
  repeat' (first | refine tr_seq ?_ | refine tr_block ?_ | refine tr_skip ?_)
  first | refine reg (T := tab) tOk hnt rfl ?_ ?_ | refine regD (T := tab) tOk mixedR hnt rfl (by first | decide +kernel | kernel_rfl) ?_ ?_
  · (dsimp only [AllP]; (repeat' first | exact trivial | assumption | exact Nat.le_of_ble_eq_true rfl | apply And.intro | exact eCells_len1 _ _ ‹_› | exact eCells_isByte _ _ ‹_› | (intro hh_; have hg_ := hh_; (try simp only [condT_ff, condF_tt, notE_t, notE_f, Bool.and_eq_true, ne_eq, decide_eq_true_eq, decide_eq_false_iff_not] at hg_)) | intro _ | exact rfl | omega))
    all_goals trace_state
  have k1 : A1.map eS ++ B1.map eS = (A1 ++ B1).map eS := (List.map_append).symm
  have k2 : eLs1 A2 ++ eLs1 B2 = eLs1 (A2 ++ B2) := (List.map_append).symm
  exact tr_ret ⟨.inr rfl, _, _, _, rfl, by (repeat' first | exact trivial | exact Nat.le_of_ble_eq_true rfl | apply And.intro), rfl, fun X => le_of (ad := []) ⟨⟨⟨rfl, rfl, rfl, rfl⟩, ⟨rfl, rfl, rfl, rfl⟩, trivial⟩, trivial⟩ (memOk_row rfl rfl k1 (memOk_row rfl rfl k2 trivial))⟩
end Go.Proofs.YtphaholcndhonaaDoor
namespace Go.Proofs.YtphaholcndhonaaDoor
open Go Go.RowKit Go.Proofs.YtphaholcndhonaaDoor.Ab
set_option linter.unusedSimpArgs false
set_option linter.unusedVariables false

theorem covered_fn (mode : Int) : ∀ (k : Nat), k ≤ 6 → ∀ (l : List SlotT) (o : List Bool), (∀ x ∈ l, (lfX mode x).2 = 0) → l.length = 2 ^ k → o.length = 2 ^ k → FnH Tryd.prog 41 [] [] [.one (.e (eI mode)), .one (.e (eSlots l)), .one (.e (eBools o))] (.agg (.ds [.own 3000 0, .own 3001 0])) (msR (cvr mode k l o))
  | 0, hk, l, o, he, hl, ho => covered_step mode 0 hk (fun j e => by cases e) l o he hl ho
  | k + 1, hk, l, o, he, hl, ho => covered_step mode (k + 1) hk (fun j e => by cases e; exact covered_fn mode k (by omega)) l o he hl ho
set_option maxRecDepth 10000 in
set_option maxHeartbeats 2000000 in
theorem CovOf_fn (mode : Int) (l : List SlotT) (o : List Bool) : FnD Tryd.prog 14 [.one (.e (eI mode)), .one (.e (eSlots l)), .one (.e (eBools o))] (rCv (covF mode l o)) := by
  refine fn_intro (T := tab) tOk Tryd.func14 rfl (by kernel_rfl) (by simp [Tryd.ntmps14]) ?_
  intro X hX
  have hnt : X.nt = 26 := hX
  clear hX
  have h1 := slFault_fn mode l
  have hoL : (o.map eBo1).length = o.length := List.length_map ..
  have hlL : (l.map eS).length = l.length := List.length_map ..
  repeat' (first | refine tr_seq ?_ | refine reg (T := tab) tOk hnt rfl ?_ ?_ | refine regD (T := tab) tOk mixedR hnt rfl (by first | decide +kernel | kernel_rfl) ?_ ?_ | refine tr_block ?_ | refine tr_skip ?_)
  · (dsimp only [AllP]; (repeat' first | exact trivial | assumption | exact Nat.le_of_ble_eq_true rfl | apply And.intro | decide | intro _ | exact rfl))
  repeat' (first | refine tr_seq ?_ | refine tr_block ?_ | refine tr_skip ?_)
  refine tr_region (lex (T := tab) tOk hnt rfl ?_ (call rfl rfl rfl rfl rfl rfl rfl hnt (h1) (lex (T := tab) tOk hnt rfl ?_ (Lex.nil _)))) ?_
  · (dsimp only [AllP]; (repeat' first | exact trivial | assumption | exact Nat.le_of_ble_eq_true rfl | apply And.intro | exact eCells_len1 _ _ ‹_› | exact eCells_isByte _ _ ‹_› | (intro hh_; have hg_ := hh_; (try simp only [condT_ff, condF_tt, notE_t, notE_f, Bool.and_eq_true, ne_eq, decide_eq_true_eq, decide_eq_false_iff_not] at hg_)) | intro _ | exact rfl | omega))
    all_goals trace_state
  · (dsimp only [AllP]; (repeat' first | exact trivial | assumption | exact Nat.le_of_ble_eq_true rfl | apply And.intro | exact eCells_len1 _ _ ‹_› | exact eCells_isByte _ _ ‹_› | (intro hh_; have hg_ := hh_; (try simp only [condT_ff, condF_tt, notE_t, notE_f, Bool.and_eq_true, ne_eq, decide_eq_true_eq, decide_eq_false_iff_not] at hg_)) | intro _ | exact rfl | omega))
    all_goals trace_state
  repeat' (first | refine tr_seq ?_ | refine reg (T := tab) tOk hnt rfl ?_ ?_ | refine regD (T := tab) tOk mixedR hnt rfl (by first | decide +kernel | kernel_rfl) ?_ ?_ | refine tr_block ?_ | refine tr_skip ?_)
  · (dsimp only [AllP]; (repeat' first | exact trivial | assumption | exact Nat.le_of_ble_eq_true rfl | apply And.intro | decide | intro _ | exact rfl))
  repeat' (first | refine tr_seq ?_ | refine tr_block ?_ | refine tr_skip ?_)
  refine tr_cond rfl (fun hc => ?_) (fun hc => ?_)
  · simp only [condT_tt, condT_ff, condF_tt, condF_ff, notE_t, notE_f, decide_eq_true_eq, decide_eq_false_iff_not] at hc
    have hc : slFault mode l ≠ 0 := hc
    rw [cov_bad o hc]
    repeat' (first | refine tr_seq ?_ | refine reg (T := tab) tOk hnt rfl ?_ ?_ | refine regD (T := tab) tOk mixedR hnt rfl (by first | decide +kernel | kernel_rfl) ?_ ?_ | refine tr_block ?_ | refine tr_skip ?_)
    · (dsimp only [AllP]; (repeat' first | exact trivial | assumption | exact Nat.le_of_ble_eq_true rfl | apply And.intro | decide | intro _ | exact rfl))
    refine tr_ret ⟨.inr rfl, _, _, rfl, by (repeat' first | exact trivial | exact Nat.le_of_ble_eq_true rfl | apply And.intro), ?_⟩
    exact rfl
  simp only [condT_tt, condT_ff, condF_tt, condF_ff, notE_t, notE_f, decide_eq_true_eq, decide_eq_false_iff_not] at hc
  have hsf : slFault mode l = 0 := hc
  repeat' (first | refine tr_seq ?_ | refine reg (T := tab) tOk hnt rfl ?_ ?_ | refine regD (T := tab) tOk mixedR hnt rfl (by first | decide +kernel | kernel_rfl) ?_ ?_ | refine tr_block ?_ | refine tr_skip ?_)
  · (dsimp only [AllP]; (repeat' first | exact trivial | assumption | exact Nat.le_of_ble_eq_true rfl | apply And.intro | decide | intro _ | exact rfl))
  repeat' (first | refine tr_seq ?_ | refine tr_block ?_ | refine tr_skip ?_)
  refine tr_cond rfl (fun hc => ?_) (fun hc => ?_)
  · simp only [condT_tt, condT_ff, condF_tt, condF_ff, notE_t, notE_f, decide_eq_true_eq, decide_eq_false_iff_not] at hc
    (try simp only [hoL, hlL] at hc)
    (try simp only [condT_tt, condT_ff, condF_tt, condF_ff, notE_t, notE_f, decide_eq_true_eq, decide_eq_false_iff_not] at hc)
    rw [cov_size hsf (by omega)]
    repeat' (first | refine tr_seq ?_ | refine reg (T := tab) tOk hnt rfl ?_ ?_ | refine regD (T := tab) tOk mixedR hnt rfl (by first | decide +kernel | kernel_rfl) ?_ ?_ | refine tr_block ?_ | refine tr_skip ?_)
    · (dsimp only [AllP]; (repeat' first | exact trivial | assumption | exact Nat.le_of_ble_eq_true rfl | apply And.intro | decide | intro _ | exact rfl))
    refine tr_ret ⟨.inr rfl, _, _, rfl, by (repeat' first | exact trivial | exact Nat.le_of_ble_eq_true rfl | apply And.intro), ?_⟩
    exact rfl
  simp only [condT_tt, condT_ff, condF_tt, condF_ff, notE_t, notE_f, decide_eq_true_eq, decide_eq_false_iff_not] at hc
  (try simp only [hoL, hlL] at hc)
  (try simp only [condT_tt, condT_ff, condF_tt, condF_ff, notE_t, notE_f, decide_eq_true_eq, decide_eq_false_iff_not] at hc)
  have hol : o.length = l.length := by omega
  obtain ⟨hm, he, k, hk, hk2⟩ := fault_good hsf
  have hcv := covered_fn mode k hk l o he hk2 (hol.trans hk2)
  rw [cov_fit hsf hol, hk2, log_pow]
  generalize cvr mode k l o = A at *
  obtain ⟨A1, A2⟩ := A
  repeat' (first | refine tr_seq ?_ | refine tr_block ?_ | refine tr_skip ?_)
  refine tr_region (lex (T := tab) tOk hnt rfl ?_ (callH (us := []) [] [] [(3000, 3000), (3001, 3001)] rfl rfl rfl rfl (hcv) (by repeat' first | exact .nil | refine .lent rfl rfl rfl ?_ | refine .data rfl ?_) (fun _ => rfl) rfl rfl hnt rfl rfl (by repeat' first | exact trivial | rfl | apply And.intro) (by repeat' first | exact trivial | rfl | apply And.intro) (lex (T := tab) tOk hnt rfl ?_ (Lex.nil _)))) ?_
  · (dsimp only [AllP]; (repeat' first | exact trivial | assumption | exact Nat.le_of_ble_eq_true rfl | apply And.intro | exact eCells_len1 _ _ ‹_› | exact eCells_isByte _ _ ‹_› | (intro hh_; have hg_ := hh_; (try simp only [condT_ff, condF_tt, notE_t, notE_f, Bool.and_eq_true, ne_eq, decide_eq_true_eq, decide_eq_false_iff_not] at hg_)) | intro _ | exact rfl | omega))
    all_goals trace_state
  · (dsimp only [AllP]; (repeat' first | exact trivial | assumption | exact Nat.le_of_ble_eq_true rfl | apply And.intro | exact eCells_len1 _ _ ‹_› | exact eCells_isByte _ _ ‹_› | (intro hh_; have hg_ := hh_; (try simp only [condT_ff, condF_tt, notE_t, notE_f, Bool.and_eq_true, ne_eq, decide_eq_true_eq, decide_eq_false_iff_not] at hg_)) | intro _ | exact rfl | omega))
    all_goals trace_state
  refine tr_ret ⟨.inr rfl, _, _, rfl, by (repeat' first | exact trivial | exact Nat.le_of_ble_eq_true rfl | apply And.intro), ?_⟩
  exact rfl
set_option maxRecDepth 10000 in
set_option maxHeartbeats 2000000 in
theorem sameSlot_fn (x : SlotT) : FnD Tryd.prog 42 [.agg (.es (eS x)), .agg (.es (eS x))] (.v (.bool true)) := by
  refine fn_intro (T := tab) tOk Tryd.func42 rfl (by kernel_rfl) (by simp [Tryd.ntmps42]) ?_
  intro X hX
  have hnt : X.nt = 24 := hX
  clear hX
  obtain ⟨f, s, d, u⟩ := x
  have h1 := sameB_fn s
  have h2 := sameB_fn d
  repeat' (first | refine tr_seq ?_ | refine reg (T := tab) tOk hnt rfl ?_ ?_ | refine regD (T := tab) tOk mixedR hnt rfl (by first | decide +kernel | kernel_rfl) ?_ ?_ | refine tr_block ?_ | refine tr_skip ?_)
  · (dsimp only [AllP]; (repeat' first | exact trivial | assumption | exact Nat.le_of_ble_eq_true rfl | apply And.intro | decide | intro _ | exact rfl))
  repeat' (first | refine tr_seq ?_ | refine tr_block ?_ | refine tr_skip ?_)
  refine tr_region (lex (T := tab) tOk hnt rfl ?_ (callG rfl rfl rfl rfl rfl rfl hnt rfl (fun hq => ?_) (fun hq => h1) (lex (T := tab) tOk hnt rfl ?_ (callG rfl rfl rfl rfl rfl rfl hnt rfl (fun hq => ?_) (fun hq => h2) (lex (T := tab) tOk hnt rfl ?_ (Lex.nil _)))))) ?_
  · (dsimp only [AllP]; (repeat' first | exact trivial | assumption | exact Nat.le_of_ble_eq_true rfl | apply And.intro | exact eCells_len1 _ _ ‹_› | exact eCells_isByte _ _ ‹_› | (intro hh_; have hg_ := hh_; (try simp only [condT_ff, condF_tt, notE_t, notE_f, Bool.and_eq_true, ne_eq, decide_eq_true_eq, decide_eq_false_iff_not] at hg_)) | intro _ | exact rfl | omega))
    all_goals trace_state
  · exact ⟨hq, hq⟩
  · (dsimp only [AllP]; (repeat' first | exact trivial | assumption | exact Nat.le_of_ble_eq_true rfl | apply And.intro | exact eCells_len1 _ _ ‹_› | exact eCells_isByte _ _ ‹_› | (intro hh_; have hg_ := hh_; (try simp only [condT_ff, condF_tt, notE_t, notE_f, Bool.and_eq_true, ne_eq, decide_eq_true_eq, decide_eq_false_iff_not] at hg_)) | intro _ | exact rfl | omega))
    all_goals trace_state
  · exact ⟨hq, hq⟩
  · (dsimp only [AllP]; (repeat' first | exact trivial | assumption | exact Nat.le_of_ble_eq_true rfl | apply And.intro | exact eCells_len1 _ _ ‹_› | exact eCells_isByte _ _ ‹_› | (intro hh_; have hg_ := hh_; (try simp only [condT_ff, condF_tt, notE_t, notE_f, Bool.and_eq_true, ne_eq, decide_eq_true_eq, decide_eq_false_iff_not] at hg_)) | intro _ | exact rfl | omega))
    all_goals trace_state
  refine tr_ret ⟨.inr rfl, _, _, rfl, by (repeat' first | exact trivial | exact Nat.le_of_ble_eq_true rfl | apply And.intro), ?_⟩
  show D.v (.bool (bif (bif f == f then true else false) then true else false)) = _
  cases f <;> rfl
set_option maxRecDepth 10000 in
set_option maxHeartbeats 2000000 in
theorem sameCover_fn (op : List SlotT) (rs : LL) (h1 : op.length ≤ 64) (h2 : rs.length ≤ 64) : FnD Tryd.prog 15 [.agg (.es (cvE op rs)), .agg (.es (cvE op rs))] (.v (.bool true)) := by
  refine fn_intro (T := tab) tOk Tryd.func15 rfl (by kernel_rfl) (by simp [Tryd.ntmps15]) ?_
  intro X hX
  have hnt : X.nt = 37 := hX
  clear hX
  have hml : (op.map eS).length = op.length := List.length_map ..
  have hmx : ((cvE op rs).getD (0 + 0) E.dflt).xs.length = op.length := hml
  have f2 : 0 + 2 ≤ (Cs.es (cvE op rs)).len := Nat.le_refl 2
  repeat' (first | refine tr_seq ?_ | refine reg (T := tab) tOk hnt rfl ?_ ?_ | refine regD (T := tab) tOk mixedR hnt rfl (by first | decide +kernel | kernel_rfl) ?_ ?_ | refine tr_block ?_ | refine tr_skip ?_)
  · (dsimp only [AllP]; (repeat' first | exact trivial | assumption | exact Nat.le_of_ble_eq_true rfl | apply And.intro | decide | intro _ | exact rfl))
  · (dsimp only [AllP]; (repeat' first | exact trivial | assumption | exact Nat.le_of_ble_eq_true rfl | apply And.intro | decide | intro _ | exact rfl))
  repeat' (first | refine tr_seq ?_ | refine tr_block ?_ | refine tr_skip ?_)
  refine tr_cond rfl (fun hc => ?_) (fun hc => ?_)
  · simp only [condT_tt, condT_ff, condF_tt, condF_ff, notE_t, notE_f, decide_eq_true_eq, decide_eq_false_iff_not] at hc
    (try simp only [hmx] at hc)
    (try simp only [condT_tt, condT_ff, condF_tt, condF_ff, notE_t, notE_f, decide_eq_true_eq, decide_eq_false_iff_not] at hc)
    exact (hc trivial).elim
  simp only [condT_tt, condT_ff, condF_tt, condF_ff, notE_t, notE_f, decide_eq_true_eq, decide_eq_false_iff_not] at hc
  (try simp only [hmx] at hc)
  (try simp only [condT_tt, condT_ff, condF_tt, condF_ff, notE_t, notE_f, decide_eq_true_eq, decide_eq_false_iff_not] at hc)
  repeat' (first | refine tr_seq ?_ | refine reg (T := tab) tOk hnt rfl ?_ ?_ | refine regD (T := tab) tOk mixedR hnt rfl (by first | decide +kernel | kernel_rfl) ?_ ?_ | refine tr_block ?_ | refine tr_skip ?_)
  · (dsimp only [AllP]; (repeat' first | exact trivial | assumption | exact Nat.le_of_ble_eq_true rfl | apply And.intro | decide | intro _ | exact rfl))
  repeat' (first | refine tr_seq ?_ | refine tr_block ?_ | refine tr_skip ?_)
  refine tr_loop (σ := Nat) (fun i => St.of [(2, .one (.ptr 2 0 0)), (3, .one (.ptr 3 0 0)), (15, .one (.e (eI ((op.map eS).length : Int)))), (16, .one (.e (eI (i : Int))))] [(2, ⟨0, .box (.es (cvE op rs)), 0⟩), (3, ⟨0, .box (.es (cvE op rs)), 0⟩)]) (fun i => i ≤ op.length) (fun i => op.length - i) (0) (le_of (ad := []) (by refine ⟨?_, ?_, ?_, ?_, trivial⟩ <;> first | exact trivial | rfl | exact ⟨rfl, rfl⟩ | exact ⟨rfl, rfl, rfl⟩ | exact ⟨rfl, rfl, rfl, rfl⟩ | exact ⟨rfl, rfl, rfl, rfl, rfl⟩ | exact congrArg (fun z : Int => E.v (.int .i64 z)) (wrap64_id (by omega) (by omega)) | exact congrArg (fun z : Int => E.v (.int .u8 z)) (by assumption) | exact congrArg (fun z : ByteArray => E.v (.string z)) (by assumption) | (refine ⟨rfl, ?_⟩; repeat' first | exact trivial | rfl | apply And.intro)) (memOk_box rfl rfl rfl (memOk_box rfl rfl rfl trivial))) (Nat.zero_le _) ?_
  rintro i il
  repeat' (first | refine tr_seq ?_ | refine reg (T := tab) tOk hnt rfl ?_ ?_ | refine regD (T := tab) tOk mixedR hnt rfl (by first | decide +kernel | kernel_rfl) ?_ ?_ | refine tr_block ?_ | refine tr_skip ?_)
  · (dsimp only [AllP]; (repeat' first | exact trivial | assumption | exact Nat.le_of_ble_eq_true rfl | apply And.intro | decide | intro _ | exact rfl))
  repeat' (first | refine tr_seq ?_ | refine tr_block ?_ | refine tr_skip ?_)
  refine tr_cond rfl (fun hc => ?_) (fun hc => ?_)
  · simp only [condT_tt, condT_ff, condF_tt, condF_ff, notE_t, notE_f, decide_eq_true_eq, decide_eq_false_iff_not] at hc
    (try simp only [hml] at hc)
    (try simp only [condT_tt, condT_ff, condF_tt, condF_ff, notE_t, notE_f, decide_eq_true_eq, decide_eq_false_iff_not] at hc)
    have hlt : i < op.length := by omega
    have hg : ((cvE op rs).getD (0 + 0) E.dflt).xs.getD i [] = eS op[i] := slGet op hlt
    have hsm := sameSlot_fn op[i]
    generalize op[i] = x at *
    have t3 : List.take 3 (List.drop 0 (eS x)) = eS x := rfl
    rw [← t3, ← hg] at hsm
    have hiz : Int.toNat (i : Int) = i := Int.toNat_natCast i
    rw [← hiz] at hsm
    repeat' (first | refine tr_seq ?_ | refine reg (T := tab) tOk hnt rfl ?_ ?_ | refine regD (T := tab) tOk mixedR hnt rfl (by first | decide +kernel | kernel_rfl) ?_ ?_ | refine tr_block ?_ | refine tr_skip ?_)
    · (dsimp only [AllP]; (repeat' first | exact trivial | assumption | exact Nat.le_of_ble_eq_true rfl | apply And.intro | decide | intro _ | exact rfl))
    repeat' (first | refine tr_seq ?_ | refine tr_block ?_ | refine tr_skip ?_)
    refine tr_draw (T := tab) tOk hnt mixedR (lexD (T := tab) rfl ?_ (callD rfl rfl rfl rfl rfl rfl rfl rfl (hsm) (lexD (T := tab) rfl ?_ (.nil _)))) (by first | decide +kernel | kernel_rfl) ?_
    · rw [hiz, hg, hmx]
      (dsimp only [AllP]; (repeat' first | exact trivial | assumption | exact Nat.le_of_ble_eq_true rfl | apply And.intro | exact eCells_len1 _ _ ‹_› | exact eCells_isByte _ _ ‹_› | (intro hh_; have hg_ := hh_; (try simp only [condT_ff, condF_tt, notE_t, notE_f, Bool.and_eq_true, ne_eq, decide_eq_true_eq, decide_eq_false_iff_not] at hg_)) | intro _ | exact rfl | omega))
      all_goals trace_state
    · (dsimp only [AllP]; (repeat' first | exact trivial | assumption | exact Nat.le_of_ble_eq_true rfl | apply And.intro | exact eCells_len1 _ _ ‹_› | exact eCells_isByte _ _ ‹_› | (intro hh_; have hg_ := hh_; (try simp only [condT_ff, condF_tt, notE_t, notE_f, Bool.and_eq_true, ne_eq, decide_eq_true_eq, decide_eq_false_iff_not] at hg_)) | intro _ | exact rfl | omega))
      all_goals trace_state
    repeat' (first | refine tr_seq ?_ | refine tr_block ?_ | refine tr_skip ?_)
    refine tr_cond rfl (fun hc => ?_) (fun hc => ?_)
    · exact absurd hc (by decide)
    repeat' (first | refine tr_seq ?_ | refine reg (T := tab) tOk hnt rfl ?_ ?_ | refine regD (T := tab) tOk mixedR hnt rfl (by first | decide +kernel | kernel_rfl) ?_ ?_ | refine tr_block ?_ | refine tr_skip ?_)
    · (dsimp only [AllP]; (repeat' first | exact trivial | assumption | exact Nat.le_of_ble_eq_true rfl | apply And.intro | decide | intro _ | exact rfl))
    refine ⟨i + 1, (by omega), by omega, le_of (ad := []) (by refine ⟨?_, ?_, ?_, ?_, trivial⟩ <;> first | exact trivial | rfl | exact ⟨rfl, rfl⟩ | exact ⟨rfl, rfl, rfl⟩ | exact ⟨rfl, rfl, rfl, rfl⟩ | exact ⟨rfl, rfl, rfl, rfl, rfl⟩ | exact congrArg (fun z : Int => E.v (.int .i64 z)) (wrap64_id (by omega) (by omega)) | exact congrArg (fun z : Int => E.v (.int .u8 z)) (by assumption) | exact congrArg (fun z : ByteArray => E.v (.string z)) (by assumption) | (refine ⟨rfl, ?_⟩; repeat' first | exact trivial | rfl | apply And.intro)) (memOk_box rfl rfl rfl (memOk_box rfl rfl rfl trivial))⟩
  simp only [condT_tt, condT_ff, condF_tt, condF_ff, notE_t, notE_f, decide_eq_true_eq, decide_eq_false_iff_not] at hc
  (try simp only [hml] at hc)
  (try simp only [condT_tt, condT_ff, condF_tt, condF_ff, notE_t, notE_f, decide_eq_true_eq, decide_eq_false_iff_not] at hc)
  refine tr_exit ?_
  have h3 := sameLs_fn rs (by omega)
  repeat' (first | refine tr_seq ?_ | refine tr_block ?_ | refine tr_skip ?_)
  refine tr_region (lex (T := tab) tOk hnt rfl ?_ (call rfl rfl rfl rfl rfl rfl rfl hnt (h3) (lex (T := tab) tOk hnt rfl ?_ (Lex.nil _)))) ?_
  · (dsimp only [AllP]; (repeat' first | exact trivial | assumption | exact Nat.le_of_ble_eq_true rfl | apply And.intro | exact eCells_len1 _ _ ‹_› | exact eCells_isByte _ _ ‹_› | (intro hh_; have hg_ := hh_; (try simp only [condT_ff, condF_tt, notE_t, notE_f, Bool.and_eq_true, ne_eq, decide_eq_true_eq, decide_eq_false_iff_not] at hg_)) | intro _ | exact rfl | omega))
    all_goals trace_state
  · (dsimp only [AllP]; (repeat' first | exact trivial | assumption | exact Nat.le_of_ble_eq_true rfl | apply And.intro | exact eCells_len1 _ _ ‹_› | exact eCells_isByte _ _ ‹_› | (intro hh_; have hg_ := hh_; (try simp only [condT_ff, condF_tt, notE_t, notE_f, Bool.and_eq_true, ne_eq, decide_eq_true_eq, decide_eq_false_iff_not] at hg_)) | intro _ | exact rfl | omega))
    all_goals trace_state
  exact tr_ret ⟨.inr rfl, _, _, rfl, trivial, rfl⟩
theorem cov_len (mode : Int) (l : List SlotT) (o : List Bool) : (covF mode l o).1.1.length ≤ 64 ∧ (covF mode l o).1.2.length ≤ 64 := by
  by_cases h : slFault mode l = 0
  · by_cases h1 : o.length = l.length
    · obtain ⟨_, _, k, hk, hk2⟩ := fault_good h
      rw [cov_fit h h1, hk2, log_pow]
      have := cvr_len mode k l o hk2
      have h64 : 2 ^ k ≤ 64 := Nat.le_trans (Nat.pow_le_pow_right (by decide) hk) (by decide)
      exact ⟨by dsimp only; omega, by dsimp only; omega⟩
    · rw [cov_size h h1]; exact ⟨Nat.zero_le _, Nat.zero_le _⟩
  · rw [cov_bad o h]; exact ⟨Nat.zero_le _, Nat.zero_le _⟩
set_option maxRecDepth 10000 in
set_option maxHeartbeats 2000000 in
theorem slotsCovers_fn (mode : Int) (l : List SlotT) (o : List Bool) : FnG Tryd.prog 4 gK [.one (.e (eI mode)), .one (.e (eSlots l)), .one (.e (eBools o))] (.v (.bool true)) := by
  refine fn_introG (T := tab) tOk Tryd.func4 rfl (by kernel_rfl) (by simp [Tryd.ntmps4]) ?_
  intro X hX
  have hnt : X.nt = 33 := hX
  clear hX
  have h1 := CoverOf_fn mode l o
  have h2 := CovOf_fn mode l o
  have h3 := cov_len mode l o
  generalize covF mode l o = q at *
  obtain ⟨⟨op, rs⟩, e⟩ := q
  have h4 := sameCover_fn op rs h3.1 h3.2
  repeat' (first | refine tr_seq ?_ | refine reg (T := tab) tOk hnt rfl ?_ ?_ | refine regD (T := tab) tOk mixedR hnt rfl (by first | decide +kernel | kernel_rfl) ?_ ?_ | refine tr_block ?_ | refine tr_skip ?_)
  · (dsimp only [AllP]; (repeat' first | exact trivial | assumption | exact Nat.le_of_ble_eq_true rfl | apply And.intro | decide | intro _ | exact rfl))
  repeat' (first | refine tr_seq ?_ | refine tr_block ?_ | refine tr_skip ?_)
  refine tr_region (lex (T := tab) tOk hnt rfl ?_ (callV rfl rfl rfl rfl rfl rfl rfl hnt rfl (h1) (lex (T := tab) tOk hnt rfl ?_ (Lex.nil _)))) ?_
  · (dsimp only [AllP]; (repeat' first | exact trivial | assumption | exact Nat.le_of_ble_eq_true rfl | apply And.intro | exact eCells_len1 _ _ ‹_› | exact eCells_isByte _ _ ‹_› | (intro hh_; have hg_ := hh_; (try simp only [condT_ff, condF_tt, notE_t, notE_f, Bool.and_eq_true, ne_eq, decide_eq_true_eq, decide_eq_false_iff_not] at hg_)) | intro _ | exact rfl | omega))
    all_goals trace_state
  · (dsimp only [AllP]; (repeat' first | exact trivial | assumption | exact Nat.le_of_ble_eq_true rfl | apply And.intro | exact eCells_len1 _ _ ‹_› | exact eCells_isByte _ _ ‹_› | (intro hh_; have hg_ := hh_; (try simp only [condT_ff, condF_tt, notE_t, notE_f, Bool.and_eq_true, ne_eq, decide_eq_true_eq, decide_eq_false_iff_not] at hg_)) | intro _ | exact rfl | omega))
    all_goals trace_state
  repeat' (first | refine tr_seq ?_ | refine tr_block ?_ | refine tr_skip ?_)
  refine tr_region (lex (T := tab) tOk hnt rfl ?_ (call rfl rfl rfl rfl rfl rfl rfl hnt (h2) (lex (T := tab) tOk hnt rfl ?_ (Lex.nil _)))) ?_
  · (dsimp only [AllP]; (repeat' first | exact trivial | assumption | exact Nat.le_of_ble_eq_true rfl | apply And.intro | exact eCells_len1 _ _ ‹_› | exact eCells_isByte _ _ ‹_› | (intro hh_; have hg_ := hh_; (try simp only [condT_ff, condF_tt, notE_t, notE_f, Bool.and_eq_true, ne_eq, decide_eq_true_eq, decide_eq_false_iff_not] at hg_)) | intro _ | exact rfl | omega))
    all_goals trace_state
  · (dsimp only [AllP]; (repeat' first | exact trivial | assumption | exact Nat.le_of_ble_eq_true rfl | apply And.intro | exact eCells_len1 _ _ ‹_› | exact eCells_isByte _ _ ‹_› | (intro hh_; have hg_ := hh_; (try simp only [condT_ff, condF_tt, notE_t, notE_f, Bool.and_eq_true, ne_eq, decide_eq_true_eq, decide_eq_false_iff_not] at hg_)) | intro _ | exact rfl | omega))
    all_goals trace_state
  repeat' (first | refine tr_seq ?_ | refine tr_block ?_ | refine tr_skip ?_)
  refine tr_region (lex (T := tab) tOk hnt rfl ?_ (callG rfl rfl rfl rfl rfl rfl hnt rfl (fun hq => ?_) (fun hq => h4) (lex (T := tab) tOk hnt rfl ?_ (Lex.nil _)))) ?_
  · (dsimp only [AllP]; (repeat' first | exact trivial | assumption | exact Nat.le_of_ble_eq_true rfl | apply And.intro | exact eCells_len1 _ _ ‹_› | exact eCells_isByte _ _ ‹_› | (intro hh_; have hg_ := hh_; (try simp only [condT_ff, condF_tt, notE_t, notE_f, Bool.and_eq_true, ne_eq, decide_eq_true_eq, decide_eq_false_iff_not] at hg_)) | intro _ | exact rfl | omega))
    all_goals trace_state
  · exact ⟨hq, hq⟩
  · (dsimp only [AllP]; (repeat' first | exact trivial | assumption | exact Nat.le_of_ble_eq_true rfl | apply And.intro | exact eCells_len1 _ _ ‹_› | exact eCells_isByte _ _ ‹_› | (intro hh_; have hg_ := hh_; (try simp only [condT_ff, condF_tt, notE_t, notE_f, Bool.and_eq_true, ne_eq, decide_eq_true_eq, decide_eq_false_iff_not] at hg_)) | intro _ | exact rfl | omega))
    all_goals trace_state
  refine tr_ret ⟨.inr rfl, _, _, rfl, by trivial, ?_⟩
  simp
  rfl
end Go.Proofs.YtphaholcndhonaaDoor
