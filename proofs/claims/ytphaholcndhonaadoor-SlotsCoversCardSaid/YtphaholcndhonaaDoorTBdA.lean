/- slots.Rooted: build. No condition. -/
import Derived.Test.YtphaholcndhonaaDoorTSlC
import Derived.Test.YtphaholcndhonaaDoorAbI
namespace Go.Proofs.YtphaholcndhonaaDoor
open Go Go.RowKit Go.Proofs.YtphaholcndhonaaDoor.Ab
set_option linter.unusedSimpArgs false
set_option linter.unusedVariables false

def eBo1 (b : Bool) : List E := [.v (.bool b)]
def eBools (o : List Bool) : E := .sl (o.map eBo1)
theorem boGet (l : List Bool) (i : Nat) (h : i < l.length) : (l.map eBo1).getD i [] = eBo1 (l.getD i false) := by
  rw [List.getD_eq_getElem?_getD, List.getElem?_map, List.getElem?_eq_getElem h, List.getD_eq_getElem?_getD, List.getElem?_eq_getElem h]
  rfl
theorem dropB {α : Type} {l : List α} {i : Nat} {d : α} (h : i < l.length) : l.drop i = l.getD i d :: l.drop (i + 1) := by
  rw [List.drop_eq_getElem_cons h, List.getD_eq_getElem?_getD, List.getElem?_eq_getElem h]
  rfl
def smB (o : List Bool) : Bool := o.any id
set_option maxRecDepth 10000 in
set_option maxHeartbeats 2000000 in
theorem some_fn (o : List Bool) : FnD Tryd.prog 38 [.one (.e (eBools o))] (.v (.bool (smB o))) := by
  refine FnD.len ⟨_, _, Tryd.func38, rfl, by kernel_rfl⟩ 0 rfl fun hl0 => ?_
  refine fn_intro (T := tab) tOk Tryd.func38 rfl (by kernel_rfl) (by simp [Tryd.ntmps38]) ?_
  intro X hX
  have hnt : X.nt = 13 := hX
  clear hX
  have hl : o.length ≤ maxLen := by have h := hl0; rwa [List.length_map] at h
  have hll : (o.map eBo1).length = o.length := List.length_map ..
  unfold maxLen at hl
  repeat' (first | refine tr_seq ?_ | refine reg (T := tab) tOk hnt rfl ?_ ?_ | refine regD (T := tab) tOk mixedR hnt rfl (by decide +kernel) ?_ ?_ | refine tr_block ?_ | refine tr_skip ?_)
  · (dsimp only [AllP]; (repeat' first | exact trivial | assumption | exact Nat.le_of_ble_eq_true rfl | apply And.intro | decide | intro _ | exact rfl))
  · (dsimp only [AllP]; (repeat' first | exact trivial | assumption | exact Nat.le_of_ble_eq_true rfl | apply And.intro | decide | intro _ | exact rfl))
  repeat' (first | refine tr_seq ?_ | refine tr_block ?_ | refine tr_skip ?_)
  refine tr_loop (σ := Nat) (fun i => St.of [(5, .one (.e (eBools o))), (6, .one (.e (eI ((o.map eBo1).length : Int)))), (7, .one (.e (eI (i : Int))))] []) (fun i => smB (o.drop i) = smB o ∧ i ≤ o.length) (fun i => o.length - i) (0) (le_of (ad := []) (by refine ⟨?_, ?_, ?_, trivial⟩ <;> first | exact trivial | rfl | exact ⟨rfl, rfl⟩ | exact ⟨rfl, rfl, rfl⟩ | exact ⟨rfl, rfl, rfl, rfl⟩ | exact ⟨rfl, rfl, rfl, rfl, rfl⟩ | exact congrArg (fun z : Int => E.v (.int .i64 z)) (wrap64_id (by omega) (by omega)) | (refine ⟨rfl, ?_⟩; repeat' first | exact trivial | rfl | apply And.intro)) trivial) ⟨rfl, Nat.zero_le _⟩ ?_
  rintro i ⟨hb, il⟩
  repeat' (first | refine tr_seq ?_ | refine reg (T := tab) tOk hnt rfl ?_ ?_ | refine regD (T := tab) tOk mixedR hnt rfl (by decide +kernel) ?_ ?_ | refine tr_block ?_ | refine tr_skip ?_)
  · (dsimp only [AllP]; (repeat' first | exact trivial | assumption | exact Nat.le_of_ble_eq_true rfl | apply And.intro | decide | intro _ | exact rfl))
  repeat' (first | refine tr_seq ?_ | refine tr_block ?_ | refine tr_skip ?_)
  refine tr_cond rfl (fun hc => ?_) (fun hc => ?_)
  · have hc : (i : Int) < ((o.map eBo1).length : Int) := of_decide_eq_true hc
    have hlt : i < o.length := by omega
    have hg := boGet o i hlt
    have hb : (o.getD i false || smB (o.drop (i + 1))) = smB o := by
      rw [← hb, dropB (d := false) hlt]
      unfold smB
      rw [List.any_cons]
      rfl
    have h64 : IntKind.i64.wrap ((i : Int) + 1) = ((i + 1 : Nat) : Int) := wrap64_id (by omega) (by omega)
    repeat' (first | refine tr_seq ?_ | refine tr_block ?_ | refine tr_skip ?_)
    first | refine reg (T := tab) tOk hnt rfl ?_ ?_ | refine regD (T := tab) tOk mixedR hnt rfl (by decide +kernel) ?_ ?_
    · rw [Int.toNat_natCast, hg]
      (dsimp only [AllP]; (repeat' first | exact trivial | assumption | exact Nat.le_of_ble_eq_true rfl | apply And.intro | exact eCells_len1 _ _ ‹_› | exact eCells_isByte _ _ ‹_› | (intro hh_; have hg_ := hh_; (try simp only [condT_ff, condF_tt, notE_t, notE_f, Bool.and_eq_true, ne_eq, decide_eq_true_eq, decide_eq_false_iff_not] at hg_)) | intro _ | exact rfl | omega))
    rw [Int.toNat_natCast, hg]
    generalize o.getD i false = b at *
    repeat' (first | refine tr_seq ?_ | refine reg (T := tab) tOk hnt rfl ?_ ?_ | refine regD (T := tab) tOk mixedR hnt rfl (by decide +kernel) ?_ ?_ | refine tr_block ?_ | refine tr_skip ?_)
    · (dsimp only [AllP]; (repeat' first | exact trivial | assumption | exact Nat.le_of_ble_eq_true rfl | apply And.intro | decide | intro _ | exact rfl))
    repeat' (first | refine tr_seq ?_ | refine tr_block ?_ | refine tr_skip ?_)
    refine tr_cond rfl (fun hc => ?_) (fun hc => ?_)
    · have hc : b = true := hc
      rw [hc, Bool.true_or] at hb
      rw [← hb]
      repeat' (first | refine tr_seq ?_ | refine reg (T := tab) tOk hnt rfl ?_ ?_ | refine regD (T := tab) tOk mixedR hnt rfl (by decide +kernel) ?_ ?_ | refine tr_block ?_ | refine tr_skip ?_)
      · (dsimp only [AllP]; (repeat' first | exact trivial | assumption | exact Nat.le_of_ble_eq_true rfl | apply And.intro | decide | intro _ | exact rfl))
      exact tr_ret ⟨.inr rfl, _, _, rfl, trivial, rfl⟩
    have hc : b = false := hc
    rw [hc, Bool.false_or] at hb
    repeat' (first | refine tr_seq ?_ | refine reg (T := tab) tOk hnt rfl ?_ ?_ | refine regD (T := tab) tOk mixedR hnt rfl (by decide +kernel) ?_ ?_ | refine tr_block ?_ | refine tr_skip ?_)
    · (dsimp only [AllP]; (repeat' first | exact trivial | assumption | exact Nat.le_of_ble_eq_true rfl | apply And.intro | decide | intro _ | exact rfl))
    rw [h64]
    refine ⟨(i + 1), ⟨hb, by omega⟩, by omega, le_of (ad := []) (by refine ⟨?_, ?_, ?_, trivial⟩ <;> first | exact trivial | rfl | exact ⟨rfl, rfl⟩ | exact ⟨rfl, rfl, rfl⟩ | exact ⟨rfl, rfl, rfl, rfl⟩ | exact ⟨rfl, rfl, rfl, rfl, rfl⟩ | exact congrArg (fun z : Int => E.v (.int .i64 z)) (wrap64_id (by omega) (by omega)) | (refine ⟨rfl, ?_⟩; repeat' first | exact trivial | rfl | apply And.intro)) trivial⟩
  have hc : ¬ (i : Int) < ((o.map eBo1).length : Int) := of_decide_eq_false hc
  refine tr_exit ?_
  rw [List.drop_eq_nil_of_le (by omega)] at hb
  rw [← hb]
  repeat' (first | refine tr_seq ?_ | refine reg (T := tab) tOk hnt rfl ?_ ?_ | refine regD (T := tab) tOk mixedR hnt rfl (by decide +kernel) ?_ ?_ | refine tr_block ?_ | refine tr_skip ?_)
  · (dsimp only [AllP]; (repeat' first | exact trivial | assumption | exact Nat.le_of_ble_eq_true rfl | apply And.intro | decide | intro _ | exact rfl))
  exact tr_ret ⟨.inr rfl, _, _, rfl, trivial, rfl⟩
abbrev LL := List (List UInt8)
def bldF (m : Int) : Nat → List Bool → List SlotT → LL → (List UInt8 × Bool) × List SlotT × LL
  | 0, o, op, rs =>
    if smB o = false then (match rs with | [] => (([], false), op, []) | d :: r => ((d, true), op, r)) else
    match op with
    | [] => (([], false), [], rs)
    | s :: r => (((lfX m s).1, decide ((lfX m s).2 = 0)), r, rs)
  | k + 1, o, op, rs =>
    if smB o = false then (match rs with | [] => (([], false), op, []) | d :: r => ((d, true), op, r)) else
    let a := bldF m k (o.take (2 ^ k)) op rs
    if a.1.2 = false then (([], false), a.2) else
    let b := bldF m k (o.drop (2 ^ k)) a.2.1 a.2.2
    if b.1.2 = false then (([], false), b.2) else
    (((ndF m a.1.1 b.1.1).1, decide ((ndF m a.1.1 b.1.1).2 = 0)), b.2)
theorem bld_no (m : Int) (k : Nat) {o : List Bool} (op : List SlotT) (rs : LL) (h : smB o = false) : bldF m k o op rs = match rs with | [] => (([], false), op, []) | d :: r => ((d, true), op, r) := by
  cases k with
  | zero =>
    show (if smB o = false then _ else _) = _
    rw [if_pos h]
  | succ k =>
    show (if smB o = false then _ else _) = _
    rw [if_pos h]
theorem bld_0 (m : Int) {o : List Bool} (op : List SlotT) (rs : LL) (h : ¬ smB o = false) : bldF m 0 o op rs = match op with | [] => (([], false), [], rs) | s :: r => (((lfX m s).1, decide ((lfX m s).2 = 0)), r, rs) := by
  show (if smB o = false then _ else _) = _
  rw [if_neg h]
theorem bld_s (m : Int) (k : Nat) {o : List Bool} (op : List SlotT) (rs : LL) (h : ¬ smB o = false) : bldF m (k + 1) o op rs =
    if (bldF m k (o.take (2 ^ k)) op rs).1.2 = false then (([], false), (bldF m k (o.take (2 ^ k)) op rs).2) else
    if (bldF m k (o.drop (2 ^ k)) (bldF m k (o.take (2 ^ k)) op rs).2.1 (bldF m k (o.take (2 ^ k)) op rs).2.2).1.2 = false then (([], false), (bldF m k (o.drop (2 ^ k)) (bldF m k (o.take (2 ^ k)) op rs).2.1 (bldF m k (o.take (2 ^ k)) op rs).2.2).2) else
    (((ndF m (bldF m k (o.take (2 ^ k)) op rs).1.1 (bldF m k (o.drop (2 ^ k)) (bldF m k (o.take (2 ^ k)) op rs).2.1 (bldF m k (o.take (2 ^ k)) op rs).2.2).1.1).1, decide ((ndF m (bldF m k (o.take (2 ^ k)) op rs).1.1 (bldF m k (o.drop (2 ^ k)) (bldF m k (o.take (2 ^ k)) op rs).2.1 (bldF m k (o.take (2 ^ k)) op rs).2.2).1.1).2 = 0)), (bldF m k (o.drop (2 ^ k)) (bldF m k (o.take (2 ^ k)) op rs).2.1 (bldF m k (o.take (2 ^ k)) op rs).2.2).2) := by
  show (if smB o = false then _ else _) = _
  rw [if_neg h]
def cvE (op : List SlotT) (rs : LL) : List E := [eSlots op, eLists rs]
def msC (op : List SlotT) (rs : LL) : List (Nat × Blk) := [(900000, ⟨0, .box (.es (cvE op rs)), 0⟩)]
theorem cv0 (op : List SlotT) (rs : LL) : ((cvE op rs).getD (0 + 0) E.dflt).xs = op.map eS := rfl
theorem cv1 (op : List SlotT) (rs : LL) : ((cvE op rs).getD (0 + 1) E.dflt).xs = rs.map fun p => [eBytes p] := rfl
set_option maxRecDepth 10000 in
set_option maxHeartbeats 2000000 in
theorem build_step (mode : Int) (k : Nat) (hk : k ≤ 6) (ih : ∀ j, k = j + 1 → ∀ o op rs, o.length = 2 ^ j → FnH Tryd.prog 30 gK (msC op rs) [.one (.e (eI mode)), .one (.e (eBools o)), .one (.ptr 900000 0 0)] (rBB (bldF mode j o op rs).1) (msC (bldF mode j o op rs).2.1 (bldF mode j o op rs).2.2)) (o : List Bool) (op : List SlotT) (rs : LL) (ho : o.length = 2 ^ k) : FnH Tryd.prog 30 ((gK)) (msC op rs) [.one (.e (eI mode)), .one (.e (eBools o)), .one (.ptr 900000 0 0)] (rBB (bldF mode k o op rs).1) (msC (bldF mode k o op rs).2.1 (bldF mode k o op rs).2.2) := by
  refine fn_introH (T := tab) tOk Tryd.func30 rfl (by kernel_rfl) (by simp [Tryd.ntmps30]) rfl rfl ?_
  intro X hX
  have hnt : X.nt = 109 := hX
  clear hX
  have hs := some_fn o
  have hll : (o.map eBo1).length = o.length := List.length_map ..
  have h64 : 2 ^ k ≤ 2 ^ 6 := Nat.pow_le_pow_right (by decide) hk
  have h64 : 2 ^ k ≤ 64 := h64
  repeat' (first | refine tr_seq ?_ | refine reg (T := tab) tOk hnt rfl ?_ ?_ | refine regD (T := tab) tOk mixedR hnt rfl (by decide +kernel) ?_ ?_ | refine tr_block ?_ | refine tr_skip ?_)
  · (dsimp only [AllP]; (repeat' first | exact trivial | assumption | exact Nat.le_of_ble_eq_true rfl | apply And.intro | decide | intro _ | exact rfl))
  repeat' (first | refine tr_seq ?_ | refine tr_block ?_ | refine tr_skip ?_)
  refine tr_region (lex (T := tab) tOk hnt rfl ?_ (call rfl rfl rfl rfl rfl rfl rfl hnt (hs) (lex (T := tab) tOk hnt rfl ?_ (Lex.nil _)))) ?_
  · (dsimp only [AllP]; (repeat' first | exact trivial | assumption | exact Nat.le_of_ble_eq_true rfl | apply And.intro | exact eCells_len1 _ _ ‹_› | exact eCells_isByte _ _ ‹_› | (intro hh_; have hg_ := hh_; (try simp only [condT_ff, condF_tt, notE_t, notE_f, Bool.and_eq_true, ne_eq, decide_eq_true_eq, decide_eq_false_iff_not] at hg_)) | intro _ | exact rfl | omega))
  · (dsimp only [AllP]; (repeat' first | exact trivial | assumption | exact Nat.le_of_ble_eq_true rfl | apply And.intro | exact eCells_len1 _ _ ‹_› | exact eCells_isByte _ _ ‹_› | (intro hh_; have hg_ := hh_; (try simp only [condT_ff, condF_tt, notE_t, notE_f, Bool.and_eq_true, ne_eq, decide_eq_true_eq, decide_eq_false_iff_not] at hg_)) | intro _ | exact rfl | omega))
  repeat' (first | refine tr_seq ?_ | refine tr_block ?_ | refine tr_skip ?_)
  refine tr_cond rfl (fun hc => ?_) (fun hc => ?_)
  · have hc : (!smB o) = true := hc
    rw [Bool.not_eq_true'] at hc
    rw [bld_no mode k op rs hc]
    cases rs with
    | nil =>
      repeat' (first | refine tr_seq ?_ | refine reg (T := tab) tOk hnt rfl ?_ ?_ | refine regD (T := tab) tOk mixedR hnt rfl (by decide +kernel) ?_ ?_ | refine tr_block ?_ | refine tr_skip ?_)
      · (dsimp only [AllP]; (repeat' first | exact trivial | assumption | exact Nat.le_of_ble_eq_true rfl | apply And.intro | decide | intro _ | exact rfl))
      repeat' (first | refine tr_seq ?_ | refine tr_block ?_ | refine tr_skip ?_)
      refine tr_cond rfl (fun hc => ?_) (fun hc => ?_)
      · repeat' (first | refine tr_seq ?_ | refine reg (T := tab) tOk hnt rfl ?_ ?_ | refine regD (T := tab) tOk mixedR hnt rfl (by decide +kernel) ?_ ?_ | refine tr_block ?_ | refine tr_skip ?_)
        · (dsimp only [AllP]; (repeat' first | exact trivial | assumption | exact Nat.le_of_ble_eq_true rfl | apply And.intro | decide | intro _ | exact rfl))
        refine tr_ret ⟨.inr rfl, _, _, _, rfl, by (repeat' first | exact trivial | exact Nat.le_of_ble_eq_true rfl | apply And.intro), rfl, fun X => le_of (ad := []) ⟨⟨⟨rfl, ?_⟩, ⟨rfl, ?_⟩, trivial⟩, ⟨rfl, rfl, rfl, rfl, rfl⟩, trivial⟩ (memOk_box rfl rfl ?_ trivial)⟩
        all_goals first | rfl | exact ⟨rfl, trivial⟩
      exact absurd (show decide (((0 : Nat) : Int) = 0) = false from hc) (by decide)
    | cons d r =>
      have hrl : ((d :: r).map fun p => [eBytes p]).length = r.length + 1 := List.length_map ..
      repeat' (first | refine tr_seq ?_ | refine reg (T := tab) tOk hnt rfl ?_ ?_ | refine regD (T := tab) tOk mixedR hnt rfl (by decide +kernel) ?_ ?_ | refine tr_block ?_ | refine tr_skip ?_)
      · (dsimp only [AllP]; (repeat' first | exact trivial | assumption | exact Nat.le_of_ble_eq_true rfl | apply And.intro | decide | intro _ | exact rfl))
      repeat' (first | refine tr_seq ?_ | refine tr_block ?_ | refine tr_skip ?_)
      refine tr_cond rfl (fun hc => ?_) (fun hc => ?_)
      · have hc := of_decide_eq_true hc
        have hc : ((((d :: r).map fun p => [eBytes p]).length : Nat) : Int) = 0 := hc
        omega
      have h1l : ∀ cs ∈ (d :: r).map fun p => [eBytes p], cs.length = 1 := fun cs hc => by
        obtain ⟨p, _, rfl⟩ := List.mem_map.1 hc
        rfl
      have hdr : List.take (Int.toNat ((((d :: r).map fun p => [eBytes p]).length : Nat) : Int) - Int.toNat 1) (List.drop (Int.toNat 1) ((d :: r).map fun p => [eBytes p])) = r.map fun p => [eBytes p] := by
        rw [hrl]
        show List.take (r.length + 1 - 1) (r.map fun p => [eBytes p]) = _
        exact List.take_of_length_le (by rw [List.length_map]; omega)
      repeat' (first | refine tr_seq ?_ | refine tr_block ?_ | refine tr_skip ?_)
      first | refine reg (T := tab) tOk hnt rfl ?_ ?_ | refine regD (T := tab) tOk mixedR hnt rfl (by decide +kernel) ?_ ?_
      · rw [cv1, hrl]
        (dsimp only [AllP]; (repeat' first | exact trivial | assumption | exact Nat.le_of_ble_eq_true rfl | apply And.intro | exact eCells_len1 _ _ ‹_› | exact eCells_isByte _ _ ‹_› | (intro hh_; have hg_ := hh_; (try simp only [condT_ff, condF_tt, notE_t, notE_f, Bool.and_eq_true, ne_eq, decide_eq_true_eq, decide_eq_false_iff_not] at hg_)) | intro _ | exact rfl | omega))
      repeat' (first | refine tr_seq ?_ | refine tr_block ?_ | refine tr_skip ?_)
      first | refine reg (T := tab) tOk hnt rfl ?_ ?_ | refine regD (T := tab) tOk mixedR hnt rfl (by decide +kernel) ?_ ?_
      · rw [cv1, hrl]
        (dsimp only [AllP]; (repeat' first | exact trivial | assumption | exact Nat.le_of_ble_eq_true rfl | apply And.intro | exact eCells_len1 _ _ ‹_› | exact eCells_isByte _ _ ‹_› | (intro hh_; have hg_ := hh_; (try simp only [condT_ff, condF_tt, notE_t, notE_f, Bool.and_eq_true, ne_eq, decide_eq_true_eq, decide_eq_false_iff_not] at hg_)) | intro _ | exact rfl | omega))
        all_goals exact h1l _ ‹_›
      repeat' (first | refine tr_seq ?_ | refine reg (T := tab) tOk hnt rfl ?_ ?_ | refine regD (T := tab) tOk mixedR hnt rfl (by decide +kernel) ?_ ?_ | refine tr_block ?_ | refine tr_skip ?_)
      · (dsimp only [AllP]; (repeat' first | exact trivial | assumption | exact Nat.le_of_ble_eq_true rfl | apply And.intro | decide | intro _ | exact rfl))
      refine tr_ret ⟨.inr rfl, _, _, _, rfl, by (repeat' first | exact trivial | exact Nat.le_of_ble_eq_true rfl | apply And.intro), rfl, fun X => le_of (ad := []) ⟨⟨⟨rfl, ?_⟩, ⟨rfl, ?_⟩, trivial⟩, ⟨rfl, rfl, rfl, rfl, rfl⟩, trivial⟩ (memOk_box rfl rfl ?_ trivial)⟩
      all_goals first | rfl | exact ⟨rfl, trivial⟩ | exact congrArg (fun z => [eSlots op, E.sl z]) hdr | trace_state
  have hc : (!smB o) = false := hc
  rw [Bool.not_eq_false'] at hc
  have hsm : ¬ smB o = false := by rw [hc]; decide
  repeat' (first | refine tr_seq ?_ | refine tr_block ?_ | refine tr_skip ?_)
  first | refine reg (T := tab) tOk hnt rfl ?_ ?_ | refine regD (T := tab) tOk mixedR hnt rfl (by decide +kernel) ?_ ?_
  · (dsimp only [AllP]; (repeat' first | exact trivial | assumption | exact Nat.le_of_ble_eq_true rfl | apply And.intro | exact eCells_len1 _ _ ‹_› | exact eCells_isByte _ _ ‹_› | (intro hh_; have hg_ := hh_; (try simp only [condT_ff, condF_tt, notE_t, notE_f, Bool.and_eq_true, ne_eq, decide_eq_true_eq, decide_eq_false_iff_not] at hg_)) | intro _ | exact rfl | omega))
  repeat' (first | refine tr_seq ?_ | refine tr_block ?_ | refine tr_skip ?_)
  refine tr_cond rfl (fun hc => ?_) (fun hc => ?_)
  · have hc : ((o.map eBo1).length : Int) = 1 := of_decide_eq_true hc
    have hk0 : k = 0 := by
      cases k with
      | zero => rfl
      | succ k => rw [Nat.pow_succ] at ho; have := Nat.one_le_two_pow (n := k); omega
    subst hk0
    rw [bld_0 mode op rs hsm]
    cases op with
    | nil =>
      repeat' (first | refine tr_seq ?_ | refine reg (T := tab) tOk hnt rfl ?_ ?_ | refine regD (T := tab) tOk mixedR hnt rfl (by decide +kernel) ?_ ?_ | refine tr_block ?_ | refine tr_skip ?_)
      · (dsimp only [AllP]; (repeat' first | exact trivial | assumption | exact Nat.le_of_ble_eq_true rfl | apply And.intro | decide | intro _ | exact rfl))
      repeat' (first | refine tr_seq ?_ | refine tr_block ?_ | refine tr_skip ?_)
      refine tr_cond rfl (fun hc => ?_) (fun hc => ?_)
      · repeat' (first | refine tr_seq ?_ | refine reg (T := tab) tOk hnt rfl ?_ ?_ | refine regD (T := tab) tOk mixedR hnt rfl (by decide +kernel) ?_ ?_ | refine tr_block ?_ | refine tr_skip ?_)
        · (dsimp only [AllP]; (repeat' first | exact trivial | assumption | exact Nat.le_of_ble_eq_true rfl | apply And.intro | decide | intro _ | exact rfl))
        refine tr_ret ⟨.inr rfl, _, _, _, rfl, by (repeat' first | exact trivial | exact Nat.le_of_ble_eq_true rfl | apply And.intro), rfl, fun X => le_of (ad := []) ⟨⟨⟨rfl, ?_⟩, ⟨rfl, ?_⟩, trivial⟩, ⟨rfl, rfl, rfl, rfl, rfl⟩, trivial⟩ (memOk_box rfl rfl ?_ trivial)⟩
        all_goals first | rfl | exact ⟨rfl, trivial⟩
      exact absurd (show decide (((0 : Nat) : Int) = 0) = false from hc) (by decide)
    | cons x r =>
      have hrl : ((x :: r).map eS).length = r.length + 1 := List.length_map ..
      repeat' (first | refine tr_seq ?_ | refine reg (T := tab) tOk hnt rfl ?_ ?_ | refine regD (T := tab) tOk mixedR hnt rfl (by decide +kernel) ?_ ?_ | refine tr_block ?_ | refine tr_skip ?_)
      · (dsimp only [AllP]; (repeat' first | exact trivial | assumption | exact Nat.le_of_ble_eq_true rfl | apply And.intro | decide | intro _ | exact rfl))
      repeat' (first | refine tr_seq ?_ | refine tr_block ?_ | refine tr_skip ?_)
      refine tr_cond rfl (fun hc => ?_) (fun hc => ?_)
      · have hc := of_decide_eq_true hc
        have hc : ((((x :: r).map eS).length : Nat) : Int) = 0 := hc
        omega
      have h1l : ∀ cs ∈ (x :: r).map eS, cs.length = 3 := fun cs hc => by
        obtain ⟨p, _, rfl⟩ := List.mem_map.1 hc
        rfl
      have hdr : List.take (Int.toNat ((((x :: r).map eS).length : Nat) : Int) - Int.toNat 1) (List.drop (Int.toNat 1) ((x :: r).map eS)) = r.map eS := by
        rw [hrl]
        show List.take (r.length + 1 - 1) (r.map eS) = _
        exact List.take_of_length_le (by rw [List.length_map]; omega)
      repeat' (first | refine tr_seq ?_ | refine tr_block ?_ | refine tr_skip ?_)
      first | refine reg (T := tab) tOk hnt rfl ?_ ?_ | refine regD (T := tab) tOk mixedR hnt rfl (by decide +kernel) ?_ ?_
      · rw [cv0, hrl]
        (dsimp only [AllP]; (repeat' first | exact trivial | assumption | exact Nat.le_of_ble_eq_true rfl | apply And.intro | exact eCells_len1 _ _ ‹_› | exact eCells_isByte _ _ ‹_› | (intro hh_; have hg_ := hh_; (try simp only [condT_ff, condF_tt, notE_t, notE_f, Bool.and_eq_true, ne_eq, decide_eq_true_eq, decide_eq_false_iff_not] at hg_)) | intro _ | exact rfl | omega))
      repeat' (first | refine tr_seq ?_ | refine tr_block ?_ | refine tr_skip ?_)
      first | refine reg (T := tab) tOk hnt rfl ?_ ?_ | refine regD (T := tab) tOk mixedR hnt rfl (by decide +kernel) ?_ ?_
      · rw [cv0, hrl]
        (dsimp only [AllP]; (repeat' first | exact trivial | assumption | exact Nat.le_of_ble_eq_true rfl | apply And.intro | exact eCells_len1 _ _ ‹_› | exact eCells_isByte _ _ ‹_› | (intro hh_; have hg_ := hh_; (try simp only [condT_ff, condF_tt, notE_t, notE_f, Bool.and_eq_true, ne_eq, decide_eq_true_eq, decide_eq_false_iff_not] at hg_)) | intro _ | exact rfl | omega))
        all_goals exact h1l _ ‹_›
      refine tr_le (s' := St.of [(0, .one (.e (eI mode))), (9, .one (.ptr 9 0 0)), (900000, .one (.ptr 900000 0 0)), ((1000000 + 4), .one (.eptr kE))] [(900000, ⟨0, .box (.es (cvE r rs)), 0⟩), (9, ⟨0, .box (.es (eS x)), 0⟩)]) (le_of (ad := []) (by refine ⟨?_, ?_, ?_, ?_, trivial⟩ <;> first | exact trivial | rfl | exact ⟨rfl, rfl⟩ | exact ⟨rfl, rfl, rfl⟩ | exact ⟨rfl, rfl, rfl, rfl⟩ | exact ⟨rfl, rfl, rfl, rfl, rfl⟩ | exact congrArg (fun z : Int => E.v (.int .i64 z)) (wrap64_id (by omega) (by omega)) | (refine ⟨rfl, ?_⟩; repeat' first | exact trivial | rfl | apply And.intro)) (memOk_box rfl rfl (congrArg (fun z => [E.sl z, eLists rs]) hdr) (memOk_box rfl rfl rfl trivial))) ?_
      have hf := Leaf_fn mode x.1 x.2.1 x.2.2.1
      rw [show leafF mode x.1 x.2.1 x.2.2.1 = lfX mode x from rfl] at hf
      repeat' (first | refine tr_seq ?_ | refine tr_block ?_ | refine tr_skip ?_)
      refine tr_region (lex (T := tab) tOk hnt rfl ?_ (callV rfl rfl rfl rfl rfl rfl rfl hnt rfl (hf) (lex (T := tab) tOk hnt rfl ?_ (Lex.nil _)))) ?_
      · (dsimp only [AllP]; (repeat' first | exact trivial | assumption | exact Nat.le_of_ble_eq_true rfl | apply And.intro | exact eCells_len1 _ _ ‹_› | exact eCells_isByte _ _ ‹_› | (intro hh_; have hg_ := hh_; (try simp only [condT_ff, condF_tt, notE_t, notE_f, Bool.and_eq_true, ne_eq, decide_eq_true_eq, decide_eq_false_iff_not] at hg_)) | intro _ | exact rfl | omega))
      · (dsimp only [AllP]; (repeat' first | exact trivial | assumption | exact Nat.le_of_ble_eq_true rfl | apply And.intro | exact eCells_len1 _ _ ‹_› | exact eCells_isByte _ _ ‹_› | (intro hh_; have hg_ := hh_; (try simp only [condT_ff, condF_tt, notE_t, notE_f, Bool.and_eq_true, ne_eq, decide_eq_true_eq, decide_eq_false_iff_not] at hg_)) | intro _ | exact rfl | omega))
      repeat' (first | refine tr_seq ?_ | refine reg (T := tab) tOk hnt rfl ?_ ?_ | refine regD (T := tab) tOk mixedR hnt rfl (by decide +kernel) ?_ ?_ | refine tr_block ?_ | refine tr_skip ?_)
      · (dsimp only [AllP]; (repeat' first | exact trivial | assumption | exact Nat.le_of_ble_eq_true rfl | apply And.intro | decide | intro _ | exact rfl))
      refine tr_ret ⟨.inr rfl, _, _, _, rfl, by (repeat' first | exact trivial | exact Nat.le_of_ble_eq_true rfl | apply And.intro), rfl, fun X => le_of (ad := []) ⟨⟨⟨rfl, ?_⟩, ⟨rfl, ?_⟩, trivial⟩, ⟨rfl, rfl, rfl, rfl, rfl⟩, trivial⟩ (memOk_box rfl rfl ?_ trivial)⟩
      all_goals first | rfl | exact ⟨rfl, trivial⟩ | trace_state
  have hc : ¬ ((o.map eBo1).length : Int) = 1 := of_decide_eq_false hc
  obtain ⟨j, rfl⟩ : ∃ j, k = j + 1 := by
    cases k with
    | zero => rw [hll, ho] at hc; exact absurd rfl hc
    | succ j => exact ⟨j, rfl⟩
  rw [bld_s mode j op rs hsm]
  have hp : 2 ^ (j + 1) = 2 ^ j + 2 ^ j := by rw [Nat.pow_succ]; omega
  have hp1 : 1 ≤ 2 ^ j := Nat.one_le_two_pow
  have i1 := ih j rfl (o.take (2 ^ j)) op rs (by rw [List.length_take, ho, hp]; omega)
  have i2 := fun op rs => ih j rfl (o.drop (2 ^ j)) op rs (by rw [List.length_drop, ho, hp]; omega)
  clear ih
  have hq : IntKind.i64.wrap (Int.tdiv ((o.map eBo1).length : Int) 2) = ((2 ^ j : Nat) : Int) := by
    rw [hll, ho, hp, show ((2 ^ j + 2 ^ j : Nat) : Int) = 2 * ((2 ^ j : Nat) : Int) by omega, Int.mul_tdiv_cancel_left _ (by decide), wrap64_id (by omega) (by omega)]
  have hs1 : E.sl (List.take (Int.toNat (IntKind.i64.wrap (Int.tdiv ((o.map eBo1).length : Int) 2)) - Int.toNat 0) (List.drop (Int.toNat 0) (o.map eBo1))) = eBools (o.take (2 ^ j)) := by
    rw [hq, Int.toNat_natCast]
    unfold eBools
    rw [List.map_take]
    rfl
  have hs2 : E.sl (List.take (Int.toNat (((o.map eBo1).length : Nat) : Int) - Int.toNat (IntKind.i64.wrap (Int.tdiv ((o.map eBo1).length : Int) 2))) (List.drop (Int.toNat (IntKind.i64.wrap (Int.tdiv ((o.map eBo1).length : Int) 2))) (o.map eBo1))) = eBools (o.drop (2 ^ j)) := by
    rw [hq, Int.toNat_natCast, Int.toNat_natCast]
    unfold eBools
    rw [List.map_drop, List.take_of_length_le (by rw [List.length_drop]; exact Nat.le_refl _)]
  rw [← hs1] at i1
  simp only [← hs2] at i2
  have h1l : ∀ cs ∈ o.map eBo1, cs.length = 1 := fun cs hc => by
    obtain ⟨p, _, rfl⟩ := List.mem_map.1 hc
    rfl
  generalize bldF mode j (o.take (2 ^ j)) op rs = A at *
  obtain ⟨⟨a, ok⟩, op1, rs1⟩ := A
  dsimp only at i1 ⊢
  have i2 := i2 op1 rs1
  generalize bldF mode j (o.drop (2 ^ j)) op1 rs1 = B at *
  obtain ⟨⟨b, ok2⟩, op2, rs2⟩ := B
  dsimp only at i2 ⊢
  have hL : IntKind.i64.wrap (Int.tdiv ((o.map eBo1).length : Int) 2) ≤ ((o.map eBo1).length : Int) ∧ 0 ≤ IntKind.i64.wrap (Int.tdiv ((o.map eBo1).length : Int) 2) := by rw [hq]; omega
  repeat' (first | refine tr_seq ?_ | refine tr_block ?_ | refine tr_skip ?_)
  refine tr_region (lex (T := tab) tOk hnt rfl ?_ (callH (us := []) [(900000, 900000)] [] [] rfl rfl rfl rfl (i1) (by repeat' first | exact .nil | refine .lent rfl rfl rfl ?_ | refine .data rfl ?_) (fun _ => rfl) rfl rfl hnt rfl rfl (by repeat' first | exact trivial | rfl | apply And.intro) (by repeat' first | exact trivial | rfl | apply And.intro) (lex (T := tab) tOk hnt rfl ?_ (Lex.nil _)))) ?_
  · (dsimp only [AllP]; (repeat' first | exact trivial | assumption | exact Nat.le_of_ble_eq_true rfl | apply And.intro | exact eCells_len1 _ _ ‹_› | exact eCells_isByte _ _ ‹_› | (intro hh_; have hg_ := hh_; (try simp only [condT_ff, condF_tt, notE_t, notE_f, Bool.and_eq_true, ne_eq, decide_eq_true_eq, decide_eq_false_iff_not] at hg_)) | intro _ | exact rfl | omega))
    all_goals trace_state
  · (dsimp only [AllP]; (repeat' first | exact trivial | assumption | exact Nat.le_of_ble_eq_true rfl | apply And.intro | exact eCells_len1 _ _ ‹_› | exact eCells_isByte _ _ ‹_› | (intro hh_; have hg_ := hh_; (try simp only [condT_ff, condF_tt, notE_t, notE_f, Bool.and_eq_true, ne_eq, decide_eq_true_eq, decide_eq_false_iff_not] at hg_)) | intro _ | exact rfl | omega))
  refine tr_le (s' := St.of [(0, .one (.e (eI mode))), (1, .one (.e (eBools o))), (2, .one (.ptr 900000 0 0)), (12, .one (.e (eBytes a))), (13, .v (.bool ok)), (900000, .one (.ptr 900000 0 0)), ((1000000 + 4), .one (.eptr kE))] [(900000, ⟨0, .box (.es (cvE op1 rs1)), 0⟩)]) (le_of (ad := []) (by refine ⟨?_, ?_, ?_, ?_, ?_, ?_, ?_, trivial⟩ <;> first | exact trivial | rfl | exact ⟨rfl, rfl⟩ | exact ⟨rfl, rfl, rfl⟩ | exact ⟨rfl, rfl, rfl, rfl⟩ | exact ⟨rfl, rfl, rfl, rfl, rfl⟩ | exact congrArg (fun z : Int => E.v (.int .i64 z)) (wrap64_id (by omega) (by omega)) | (refine ⟨rfl, ?_⟩; repeat' first | exact trivial | rfl | apply And.intro)) (memOk_box rfl rfl rfl trivial)) ?_
  cases ok with
  | false =>
    rw [if_pos rfl]
    repeat' (first | refine tr_seq ?_ | refine reg (T := tab) tOk hnt rfl ?_ ?_ | refine regD (T := tab) tOk mixedR hnt rfl (by decide +kernel) ?_ ?_ | refine tr_block ?_ | refine tr_skip ?_)
    · (dsimp only [AllP]; (repeat' first | exact trivial | assumption | exact Nat.le_of_ble_eq_true rfl | apply And.intro | decide | intro _ | exact rfl))
    repeat' (first | refine tr_seq ?_ | refine tr_block ?_ | refine tr_skip ?_)
    refine tr_cond rfl (fun hc => ?_) (fun hc => ?_)
    · repeat' (first | refine tr_seq ?_ | refine reg (T := tab) tOk hnt rfl ?_ ?_ | refine regD (T := tab) tOk mixedR hnt rfl (by decide +kernel) ?_ ?_ | refine tr_block ?_ | refine tr_skip ?_)
      · (dsimp only [AllP]; (repeat' first | exact trivial | assumption | exact Nat.le_of_ble_eq_true rfl | apply And.intro | decide | intro _ | exact rfl))
      refine tr_ret ⟨.inr rfl, _, _, _, rfl, by (repeat' first | exact trivial | exact Nat.le_of_ble_eq_true rfl | apply And.intro), rfl, fun X => le_of (ad := []) ⟨⟨⟨rfl, ?_⟩, ⟨rfl, ?_⟩, trivial⟩, ⟨rfl, rfl, rfl, rfl, rfl⟩, trivial⟩ (memOk_box rfl rfl ?_ trivial)⟩
      all_goals first | rfl | exact ⟨rfl, trivial⟩
    exact absurd (show (!false) = false from hc) (by decide)
  | true =>
    rw [if_neg (by decide)]
    repeat' (first | refine tr_seq ?_ | refine reg (T := tab) tOk hnt rfl ?_ ?_ | refine regD (T := tab) tOk mixedR hnt rfl (by decide +kernel) ?_ ?_ | refine tr_block ?_ | refine tr_skip ?_)
    · (dsimp only [AllP]; (repeat' first | exact trivial | assumption | exact Nat.le_of_ble_eq_true rfl | apply And.intro | decide | intro _ | exact rfl))
    repeat' (first | refine tr_seq ?_ | refine tr_block ?_ | refine tr_skip ?_)
    refine tr_cond rfl (fun hc => ?_) (fun hc => ?_)
    · exact absurd (show (!true) = true from hc) (by decide)
    repeat' (first | refine tr_seq ?_ | refine tr_block ?_ | refine tr_skip ?_)
    refine tr_region (lex (T := tab) tOk hnt rfl ?_ (callH (us := []) [(900000, 900000)] [] [] rfl rfl rfl rfl (i2) (by repeat' first | exact .nil | refine .lent rfl rfl rfl ?_ | refine .data rfl ?_) (fun _ => rfl) rfl rfl hnt rfl rfl (by repeat' first | exact trivial | rfl | apply And.intro) (by repeat' first | exact trivial | rfl | apply And.intro) (lex (T := tab) tOk hnt rfl ?_ (Lex.nil _)))) ?_
    · (dsimp only [AllP]; (repeat' first | exact trivial | assumption | exact Nat.le_of_ble_eq_true rfl | apply And.intro | exact eCells_len1 _ _ ‹_› | exact eCells_isByte _ _ ‹_› | (intro hh_; have hg_ := hh_; (try simp only [condT_ff, condF_tt, notE_t, notE_f, Bool.and_eq_true, ne_eq, decide_eq_true_eq, decide_eq_false_iff_not] at hg_)) | intro _ | exact rfl | omega))
      all_goals trace_state
    · (dsimp only [AllP]; (repeat' first | exact trivial | assumption | exact Nat.le_of_ble_eq_true rfl | apply And.intro | exact eCells_len1 _ _ ‹_› | exact eCells_isByte _ _ ‹_› | (intro hh_; have hg_ := hh_; (try simp only [condT_ff, condF_tt, notE_t, notE_f, Bool.and_eq_true, ne_eq, decide_eq_true_eq, decide_eq_false_iff_not] at hg_)) | intro _ | exact rfl | omega))
    refine tr_le (s' := St.of [(0, .one (.e (eI mode))), (12, .one (.e (eBytes a))), (13, .v (.bool ok2)), (14, .one (.e (eBytes b))), (900000, .one (.ptr 900000 0 0)), ((1000000 + 4), .one (.eptr kE))] [(900000, ⟨0, .box (.es (cvE op2 rs2)), 0⟩)]) (le_of (ad := []) (by refine ⟨?_, ?_, ?_, ?_, ?_, ?_, trivial⟩ <;> first | exact trivial | rfl | exact ⟨rfl, rfl⟩ | exact ⟨rfl, rfl, rfl⟩ | exact ⟨rfl, rfl, rfl, rfl⟩ | exact ⟨rfl, rfl, rfl, rfl, rfl⟩ | exact congrArg (fun z : Int => E.v (.int .i64 z)) (wrap64_id (by omega) (by omega)) | (refine ⟨rfl, ?_⟩; repeat' first | exact trivial | rfl | apply And.intro)) (memOk_box rfl rfl rfl trivial)) ?_
    cases ok2 with
    | false =>
      rw [if_pos rfl]
      repeat' (first | refine tr_seq ?_ | refine reg (T := tab) tOk hnt rfl ?_ ?_ | refine regD (T := tab) tOk mixedR hnt rfl (by decide +kernel) ?_ ?_ | refine tr_block ?_ | refine tr_skip ?_)
      · (dsimp only [AllP]; (repeat' first | exact trivial | assumption | exact Nat.le_of_ble_eq_true rfl | apply And.intro | decide | intro _ | exact rfl))
      repeat' (first | refine tr_seq ?_ | refine tr_block ?_ | refine tr_skip ?_)
      refine tr_cond rfl (fun hc => ?_) (fun hc => ?_)
      · repeat' (first | refine tr_seq ?_ | refine reg (T := tab) tOk hnt rfl ?_ ?_ | refine regD (T := tab) tOk mixedR hnt rfl (by decide +kernel) ?_ ?_ | refine tr_block ?_ | refine tr_skip ?_)
        · (dsimp only [AllP]; (repeat' first | exact trivial | assumption | exact Nat.le_of_ble_eq_true rfl | apply And.intro | decide | intro _ | exact rfl))
        refine tr_ret ⟨.inr rfl, _, _, _, rfl, by (repeat' first | exact trivial | exact Nat.le_of_ble_eq_true rfl | apply And.intro), rfl, fun X => le_of (ad := []) ⟨⟨⟨rfl, ?_⟩, ⟨rfl, ?_⟩, trivial⟩, ⟨rfl, rfl, rfl, rfl, rfl⟩, trivial⟩ (memOk_box rfl rfl ?_ trivial)⟩
        all_goals first | rfl | exact ⟨rfl, trivial⟩
      exact absurd (show (!false) = false from hc) (by decide)
    | true =>
      rw [if_neg (by decide)]
      repeat' (first | refine tr_seq ?_ | refine reg (T := tab) tOk hnt rfl ?_ ?_ | refine regD (T := tab) tOk mixedR hnt rfl (by decide +kernel) ?_ ?_ | refine tr_block ?_ | refine tr_skip ?_)
      · (dsimp only [AllP]; (repeat' first | exact trivial | assumption | exact Nat.le_of_ble_eq_true rfl | apply And.intro | decide | intro _ | exact rfl))
      repeat' (first | refine tr_seq ?_ | refine tr_block ?_ | refine tr_skip ?_)
      refine tr_cond rfl (fun hc => ?_) (fun hc => ?_)
      · exact absurd (show (!true) = true from hc) (by decide)
      have hn := node_fn mode a b
      repeat' (first | refine tr_seq ?_ | refine tr_block ?_ | refine tr_skip ?_)
      refine tr_region (lex (T := tab) tOk hnt rfl ?_ (callV rfl rfl rfl rfl rfl rfl rfl hnt rfl (hn) (lex (T := tab) tOk hnt rfl ?_ (Lex.nil _)))) ?_
      · (dsimp only [AllP]; (repeat' first | exact trivial | assumption | exact Nat.le_of_ble_eq_true rfl | apply And.intro | exact eCells_len1 _ _ ‹_› | exact eCells_isByte _ _ ‹_› | (intro hh_; have hg_ := hh_; (try simp only [condT_ff, condF_tt, notE_t, notE_f, Bool.and_eq_true, ne_eq, decide_eq_true_eq, decide_eq_false_iff_not] at hg_)) | intro _ | exact rfl | omega))
      · (dsimp only [AllP]; (repeat' first | exact trivial | assumption | exact Nat.le_of_ble_eq_true rfl | apply And.intro | exact eCells_len1 _ _ ‹_› | exact eCells_isByte _ _ ‹_› | (intro hh_; have hg_ := hh_; (try simp only [condT_ff, condF_tt, notE_t, notE_f, Bool.and_eq_true, ne_eq, decide_eq_true_eq, decide_eq_false_iff_not] at hg_)) | intro _ | exact rfl | omega))
      repeat' (first | refine tr_seq ?_ | refine reg (T := tab) tOk hnt rfl ?_ ?_ | refine regD (T := tab) tOk mixedR hnt rfl (by decide +kernel) ?_ ?_ | refine tr_block ?_ | refine tr_skip ?_)
      · (dsimp only [AllP]; (repeat' first | exact trivial | assumption | exact Nat.le_of_ble_eq_true rfl | apply And.intro | decide | intro _ | exact rfl))
      refine tr_ret ⟨.inr rfl, _, _, _, rfl, by (repeat' first | exact trivial | exact Nat.le_of_ble_eq_true rfl | apply And.intro), rfl, fun X => le_of (ad := []) ⟨⟨⟨rfl, ?_⟩, ⟨rfl, ?_⟩, trivial⟩, ⟨rfl, rfl, rfl, rfl, rfl⟩, trivial⟩ (memOk_box rfl rfl ?_ trivial)⟩
      all_goals first | rfl | exact ⟨rfl, trivial⟩ | trace_state
theorem build_fn (mode : Int) : ∀ (k : Nat), k ≤ 6 → ∀ (o : List Bool) (op : List SlotT) (rs : LL), o.length = 2 ^ k → FnH Tryd.prog 30 gK (msC op rs) [.one (.e (eI mode)), .one (.e (eBools o)), .one (.ptr 900000 0 0)] (rBB (bldF mode k o op rs).1) (msC (bldF mode k o op rs).2.1 (bldF mode k o op rs).2.2)
  | 0, hk, o, op, rs, ho => build_step mode 0 hk (fun j e => by cases e) o op rs ho
  | k + 1, hk, o, op, rs, ho => build_step mode (k + 1) hk (fun j e => by cases e; exact build_fn mode k (by omega)) o op rs ho
end Go.Proofs.YtphaholcndhonaaDoor
namespace Go.Proofs.YtphaholcndhonaaDoor
open Go Go.RowKit Go.Proofs.YtphaholcndhonaaDoor.Ab
set_option linter.unusedSimpArgs false
set_option linter.unusedVariables false

theorem dg16 (mode tag : Int) (ps : LL) : (dgF mode tag ps).1.length ≤ 16777216 := by
  unfold dgF
  split
  · exact Nat.zero_le _
  split
  · exact frameF_len tag ps
  · rw [sumF_len]; decide
theorem lf16 (mode : Int) (x : SlotT) : (lfX mode x).1.length ≤ 16777216 := by
  have := leaf_len mode x
  omega
def smallL (rs : LL) : Prop := ∀ r ∈ rs, r.length ≤ 16777216
theorem bld_small (m : Int) : ∀ (k : Nat) (o : List Bool) (op : List SlotT) (rs : LL), smallL rs → (bldF m k o op rs).1.1.length ≤ 16777216 ∧ smallL (bldF m k o op rs).2.2
  | k, o, op, rs, h => by
    by_cases hs : smB o = false
    · rw [bld_no m k op rs hs]
      cases rs with
      | nil => exact ⟨Nat.zero_le _, h⟩
      | cons d r => exact ⟨h d (List.mem_cons_self ..), fun x hx => h x (List.mem_cons_of_mem _ hx)⟩
    cases k with
    | zero =>
      rw [bld_0 m op rs hs]
      cases op with
      | nil => exact ⟨Nat.zero_le _, h⟩
      | cons x r => exact ⟨lf16 m x, h⟩
    | succ k =>
      rw [bld_s m k op rs hs]
      have h1 := bld_small m k (o.take (2 ^ k)) op rs h
      have h2 := bld_small m k (o.drop (2 ^ k)) (bldF m k (o.take (2 ^ k)) op rs).2.1 (bldF m k (o.take (2 ^ k)) op rs).2.2 h1.2
      split
      · exact ⟨Nat.zero_le _, h1.2⟩
      split
      · exact ⟨Nat.zero_le _, h2.2⟩
      · exact ⟨dg16 m 2 _, h2.2⟩
/-- the order of a length that is a power of two -/
def rtF (m : Int) (o : List Bool) (op : List SlotT) (rs : LL) : List UInt8 × Int :=
  if m ≠ 1 ∧ m ≠ 2 then ([], 2) else if powF o.length = false then ([], 1) else
  if ((bldF m (Nat.log2 o.length) o op rs).1.2 = false ∨ (bldF m (Nat.log2 o.length) o op rs).2.1.length ≠ 0) ∨ (bldF m (Nat.log2 o.length) o op rs).2.2.length ≠ 0 then ([], 10) else ((bldF m (Nat.log2 o.length) o op rs).1.1, 0)
set_option maxRecDepth 10000 in
set_option maxHeartbeats 2000000 in
theorem Rooted_fn (mode : Int) (o : List Bool) (op : List SlotT) (rs : LL) (h : smallL rs) : FnG Tryd.prog 10 gK [.one (.e (eI mode)), .one (.e (eBools o)), .agg (.es (cvE op rs))] (rBE (rtF mode o op rs)) := by
  refine fn_introG (T := tab) tOk Tryd.func10 rfl (by kernel_rfl) (by simp [Tryd.ntmps10]) ?_
  intro X hX
  have hnt : X.nt = 40 := hX
  clear hX
  have hm := modes_fn mode
  have hll : (o.map eBo1).length = o.length := List.length_map ..
  have hpw := power_fn (o.length : Int)
  rw [← hll] at hpw
  have f2 : 0 + 2 ≤ (Cs.es (cvE op rs)).len := Nat.le_refl 2
  unfold rtF
  repeat' (first | refine tr_seq ?_ | refine tr_block ?_ | refine tr_skip ?_)
  first | refine reg (T := tab) tOk hnt rfl ?_ ?_ | refine regD (T := tab) tOk mixedR hnt rfl (by decide +kernel) ?_ ?_
  · (dsimp only [AllP]; (repeat' first | exact trivial | assumption | exact Nat.le_of_ble_eq_true rfl | apply And.intro | exact eCells_len1 _ _ ‹_› | exact eCells_isByte _ _ ‹_› | (intro hh_; have hg_ := hh_; (try simp only [condT_ff, condF_tt, notE_t, notE_f, Bool.and_eq_true, ne_eq, decide_eq_true_eq, decide_eq_false_iff_not] at hg_)) | intro _ | exact rfl | omega))
  repeat' (first | refine tr_seq ?_ | refine tr_block ?_ | refine tr_skip ?_)
  refine tr_region (lex (T := tab) tOk hnt rfl ?_ (call rfl rfl rfl rfl rfl rfl rfl hnt (hm) (lex (T := tab) tOk hnt rfl ?_ (Lex.nil _)))) ?_
  · (dsimp only [AllP]; (repeat' first | exact trivial | assumption | exact Nat.le_of_ble_eq_true rfl | apply And.intro | exact eCells_len1 _ _ ‹_› | exact eCells_isByte _ _ ‹_› | (intro hh_; have hg_ := hh_; (try simp only [condT_ff, condF_tt, notE_t, notE_f, Bool.and_eq_true, ne_eq, decide_eq_true_eq, decide_eq_false_iff_not] at hg_)) | intro _ | exact rfl | omega))
  · (dsimp only [AllP]; (repeat' first | exact trivial | assumption | exact Nat.le_of_ble_eq_true rfl | apply And.intro | exact eCells_len1 _ _ ‹_› | exact eCells_isByte _ _ ‹_› | (intro hh_; have hg_ := hh_; (try simp only [condT_ff, condF_tt, notE_t, notE_f, Bool.and_eq_true, ne_eq, decide_eq_true_eq, decide_eq_false_iff_not] at hg_)) | intro _ | exact rfl | omega))
  repeat' (first | refine tr_seq ?_ | refine tr_block ?_ | refine tr_skip ?_)
  refine tr_cond rfl (fun hc => ?_) (fun hc => ?_)
  · have hc : (!(!decide (mode ≠ 1 ∧ mode ≠ 2))) = true := hc
    rw [Bool.not_not] at hc
    have hc := of_decide_eq_true hc
    rw [if_pos hc]
    repeat' (first | refine tr_seq ?_ | refine reg (T := tab) tOk hnt rfl ?_ ?_ | refine regD (T := tab) tOk mixedR hnt rfl (by decide +kernel) ?_ ?_ | refine tr_block ?_ | refine tr_skip ?_)
    · (dsimp only [AllP]; (repeat' first | exact trivial | assumption | exact Nat.le_of_ble_eq_true rfl | apply And.intro | decide | intro _ | exact rfl))
    refine tr_ret ⟨.inr rfl, _, _, rfl, by (repeat' first | exact trivial | exact Nat.le_of_ble_eq_true rfl | apply And.intro), ?_⟩
    exact rfl
  have hc : (!(!decide (mode ≠ 1 ∧ mode ≠ 2))) = false := hc
  rw [Bool.not_not] at hc
  have hc := of_decide_eq_false hc
  rw [if_neg hc]
  repeat' (first | refine tr_seq ?_ | refine tr_block ?_ | refine tr_skip ?_)
  refine tr_region (lex (T := tab) tOk hnt rfl ?_ (call rfl rfl rfl rfl rfl rfl rfl hnt (hpw) (lex (T := tab) tOk hnt rfl ?_ (Lex.nil _)))) ?_
  · (dsimp only [AllP]; (repeat' first | exact trivial | assumption | exact Nat.le_of_ble_eq_true rfl | apply And.intro | exact eCells_len1 _ _ ‹_› | exact eCells_isByte _ _ ‹_› | (intro hh_; have hg_ := hh_; (try simp only [condT_ff, condF_tt, notE_t, notE_f, Bool.and_eq_true, ne_eq, decide_eq_true_eq, decide_eq_false_iff_not] at hg_)) | intro _ | exact rfl | omega))
  · (dsimp only [AllP]; (repeat' first | exact trivial | assumption | exact Nat.le_of_ble_eq_true rfl | apply And.intro | exact eCells_len1 _ _ ‹_› | exact eCells_isByte _ _ ‹_› | (intro hh_; have hg_ := hh_; (try simp only [condT_ff, condF_tt, notE_t, notE_f, Bool.and_eq_true, ne_eq, decide_eq_true_eq, decide_eq_false_iff_not] at hg_)) | intro _ | exact rfl | omega))
  rw [hll]
  repeat' (first | refine tr_seq ?_ | refine tr_block ?_ | refine tr_skip ?_)
  refine tr_cond rfl (fun hc => ?_) (fun hc => ?_)
  · have hc : (!powF (o.length : Int)) = true := hc
    rw [Bool.not_eq_true'] at hc
    rw [if_pos hc]
    repeat' (first | refine tr_seq ?_ | refine reg (T := tab) tOk hnt rfl ?_ ?_ | refine regD (T := tab) tOk mixedR hnt rfl (by decide +kernel) ?_ ?_ | refine tr_block ?_ | refine tr_skip ?_)
    · (dsimp only [AllP]; (repeat' first | exact trivial | assumption | exact Nat.le_of_ble_eq_true rfl | apply And.intro | decide | intro _ | exact rfl))
    refine tr_ret ⟨.inr rfl, _, _, rfl, by (repeat' first | exact trivial | exact Nat.le_of_ble_eq_true rfl | apply And.intro), ?_⟩
    exact rfl
  have hc : (!powF (o.length : Int)) = false := hc
  rw [Bool.not_eq_false'] at hc
  rw [if_neg (by rw [hc]; decide)]
  obtain ⟨k, hk, ho⟩ := pow_two o.length hc
  have hlg : Nat.log2 o.length = k := by rw [ho, Nat.log2_two_pow]
  rw [hlg]
  have hb := build_fn mode k hk o op rs ho
  have hsm := bld_small mode k o op rs h
  generalize bldF mode k o op rs = B at *
  obtain ⟨⟨d, ok⟩, op1, rs1⟩ := B
  dsimp only at hb hsm ⊢
  repeat' (first | refine tr_seq ?_ | refine tr_block ?_ | refine tr_skip ?_)
  refine tr_region (lex (T := tab) tOk hnt rfl ?_ (callH (us := []) [(900000, 5)] [] [] rfl rfl rfl rfl (hb) (by repeat' first | exact .nil | refine .lent rfl rfl rfl ?_ | refine .data rfl ?_) (fun _ => rfl) rfl rfl hnt rfl rfl (by repeat' first | exact trivial | rfl | apply And.intro) (by repeat' first | exact trivial | rfl | apply And.intro) (lex (T := tab) tOk hnt rfl ?_ (Lex.nil _)))) ?_
  · (dsimp only [AllP]; (repeat' first | exact trivial | assumption | exact Nat.le_of_ble_eq_true rfl | apply And.intro | exact eCells_len1 _ _ ‹_› | exact eCells_isByte _ _ ‹_› | (intro hh_; have hg_ := hh_; (try simp only [condT_ff, condF_tt, notE_t, notE_f, Bool.and_eq_true, ne_eq, decide_eq_true_eq, decide_eq_false_iff_not] at hg_)) | intro _ | exact rfl | omega))
  · (dsimp only [AllP]; (repeat' first | exact trivial | assumption | exact Nat.le_of_ble_eq_true rfl | apply And.intro | exact eCells_len1 _ _ ‹_› | exact eCells_isByte _ _ ‹_› | (intro hh_; have hg_ := hh_; (try simp only [condT_ff, condF_tt, notE_t, notE_f, Bool.and_eq_true, ne_eq, decide_eq_true_eq, decide_eq_false_iff_not] at hg_)) | intro _ | exact rfl | omega))
  refine tr_le (s' := St.of [(5, .one (.ptr 5 0 0)), (8, .one (.e (eBytes d))), (9, .v (.bool ok)), ((1000000 + 4), .one (.eptr kE))] [(5, ⟨0, .box (.es (cvE op1 rs1)), 0⟩)]) (le_of (ad := []) (by refine ⟨?_, ?_, ?_, ?_, trivial⟩ <;> first | exact trivial | rfl | exact ⟨rfl, rfl⟩ | exact ⟨rfl, rfl, rfl⟩ | exact ⟨rfl, rfl, rfl, rfl⟩ | exact ⟨rfl, rfl, rfl, rfl, rfl⟩ | exact congrArg (fun z : Int => E.v (.int .i64 z)) (wrap64_id (by omega) (by omega)) | (refine ⟨rfl, ?_⟩; repeat' first | exact trivial | rfl | apply And.intro)) (memOk_box rfl rfl rfl trivial)) ?_
  have n1 : (op1.map eS).length = op1.length := List.length_map ..
  have n2 : (rs1.map fun p => [eBytes p]).length = rs1.length := List.length_map ..
  have hF : (bif bif !ok then true else decide (0 < ((op1.map eS).length : Int)) then true else decide (0 < ((rs1.map fun p => [eBytes p]).length : Int))) = decide ((ok = false ∨ op1.length ≠ 0) ∨ rs1.length ≠ 0) := by
    rw [n1, n2]
    cases ok
    · simp
    · by_cases h1 : op1.length = 0 <;> by_cases h2 : rs1.length = 0 <;> simp [h1, h2] <;> omega
  repeat' (first | refine tr_seq ?_ | refine tr_block ?_ | refine tr_skip ?_)
  first | refine reg (T := tab) tOk hnt rfl ?_ ?_ | refine regD (T := tab) tOk mixedR hnt rfl (by decide +kernel) ?_ ?_
  · (dsimp only [AllP]; (repeat' first | exact trivial | assumption | exact Nat.le_of_ble_eq_true rfl | apply And.intro | exact eCells_len1 _ _ ‹_› | exact eCells_isByte _ _ ‹_› | (intro hh_; have hg_ := hh_; (try simp only [condT_ff, condF_tt, notE_t, notE_f, Bool.and_eq_true, ne_eq, decide_eq_true_eq, decide_eq_false_iff_not] at hg_)) | intro _ | exact rfl | omega))
  repeat' (first | refine tr_seq ?_ | refine tr_block ?_ | refine tr_skip ?_)
  refine tr_cond rfl (fun hc => ?_) (fun hc => ?_)
  · have hc : (bif bif !ok then true else decide (0 < ((op1.map eS).length : Int)) then true else decide (0 < ((rs1.map fun p => [eBytes p]).length : Int))) = true := hc
    rw [hF] at hc
    have hc := of_decide_eq_true hc
    rw [if_pos hc]
    repeat' (first | refine tr_seq ?_ | refine reg (T := tab) tOk hnt rfl ?_ ?_ | refine regD (T := tab) tOk mixedR hnt rfl (by decide +kernel) ?_ ?_ | refine tr_block ?_ | refine tr_skip ?_)
    · (dsimp only [AllP]; (repeat' first | exact trivial | assumption | exact Nat.le_of_ble_eq_true rfl | apply And.intro | decide | intro _ | exact rfl))
    refine tr_ret ⟨.inr rfl, _, _, rfl, by (repeat' first | exact trivial | exact Nat.le_of_ble_eq_true rfl | apply And.intro), ?_⟩
    exact rfl
  have hc : (bif bif !ok then true else decide (0 < ((op1.map eS).length : Int)) then true else decide (0 < ((rs1.map fun p => [eBytes p]).length : Int))) = false := hc
  rw [hF] at hc
  have hc := of_decide_eq_false hc
  rw [if_neg hc]
  have hdl := eCells_length d
  have hd1 := eCells_len1 d
  have m1 : ([] : List (List E)).length + (eCells d).length ≤ maxLen := by rw [hdl]; show 0 + d.length ≤ maxLen; unfold maxLen; omega
  have m2 : (([] : List (List E)).length + (eCells d).length) * 1 ≤ 140737488355328 := by rw [hdl]; show (0 + d.length) * 1 ≤ _; omega
  repeat' (first | refine tr_seq ?_ | refine tr_block ?_ | refine tr_skip ?_)
  first | refine reg (T := tab) tOk hnt rfl ?_ ?_ | refine regD (T := tab) tOk mixedR hnt rfl (by decide +kernel) ?_ ?_
  · (dsimp only [AllP]; (repeat' first | exact trivial | assumption | exact Nat.le_of_ble_eq_true rfl | apply And.intro | exact eCells_len1 _ _ ‹_› | exact eCells_isByte _ _ ‹_› | (intro hh_; have hg_ := hh_; (try simp only [condT_ff, condF_tt, notE_t, notE_f, Bool.and_eq_true, ne_eq, decide_eq_true_eq, decide_eq_false_iff_not] at hg_)) | intro _ | exact rfl | omega))
    all_goals trace_state
  refine tr_ret ⟨.inr rfl, _, _, rfl, by (repeat' first | exact trivial | exact Nat.le_of_ble_eq_true rfl | apply And.intro), ?_⟩
  exact rfl
def cntN (o : List Bool) : Nat := o.countP id
set_option maxRecDepth 10000 in
set_option maxHeartbeats 2000000 in
theorem count_fn (o : List Bool) : FnD Tryd.prog 33 [.one (.e (eBools o))] (.one (.e (eI (cntN o : Int)))) := by
  refine FnD.len ⟨_, _, Tryd.func33, rfl, by kernel_rfl⟩ 0 rfl fun hl0 => ?_
  refine fn_intro (T := tab) tOk Tryd.func33 rfl (by kernel_rfl) (by simp [Tryd.ntmps33]) ?_
  intro X hX
  have hnt : X.nt = 17 := hX
  clear hX
  have hl : o.length ≤ maxLen := by have h := hl0; rwa [List.length_map] at h
  have hll : (o.map eBo1).length = o.length := List.length_map ..
  unfold maxLen at hl
  repeat' (first | refine tr_seq ?_ | refine reg (T := tab) tOk hnt rfl ?_ ?_ | refine regD (T := tab) tOk mixedR hnt rfl (by decide +kernel) ?_ ?_ | refine tr_block ?_ | refine tr_skip ?_)
  · (dsimp only [AllP]; (repeat' first | exact trivial | assumption | exact Nat.le_of_ble_eq_true rfl | apply And.intro | decide | intro _ | exact rfl))
  · (dsimp only [AllP]; (repeat' first | exact trivial | assumption | exact Nat.le_of_ble_eq_true rfl | apply And.intro | decide | intro _ | exact rfl))
  · (dsimp only [AllP]; (repeat' first | exact trivial | assumption | exact Nat.le_of_ble_eq_true rfl | apply And.intro | decide | intro _ | exact rfl))
  repeat' (first | refine tr_seq ?_ | refine tr_block ?_ | refine tr_skip ?_)
  refine tr_loop (σ := Nat × Nat) (fun y => St.of [(3, .one (.e (eI (y.2 : Int)))), (6, .one (.e (eBools o))), (7, .one (.e (eI ((o.map eBo1).length : Int)))), (8, .one (.e (eI (y.1 : Int))))] []) (fun y => y.2 + cntN (o.drop y.1) = cntN o ∧ y.2 ≤ y.1 ∧ y.1 ≤ o.length) (fun y => o.length - y.1) ((0, 0)) (le_of (ad := []) (by refine ⟨?_, ?_, ?_, ?_, trivial⟩ <;> first | exact trivial | rfl | exact ⟨rfl, rfl⟩ | exact ⟨rfl, rfl, rfl⟩ | exact ⟨rfl, rfl, rfl, rfl⟩ | exact ⟨rfl, rfl, rfl, rfl, rfl⟩ | exact congrArg (fun z : Int => E.v (.int .i64 z)) (wrap64_id (by omega) (by omega)) | (refine ⟨rfl, ?_⟩; repeat' first | exact trivial | rfl | apply And.intro)) trivial) ⟨Nat.zero_add _, Nat.le_refl _, Nat.zero_le _⟩ ?_
  rintro ⟨i, n⟩ ⟨hb, hn, il⟩
  dsimp only at hb hn il ⊢
  repeat' (first | refine tr_seq ?_ | refine reg (T := tab) tOk hnt rfl ?_ ?_ | refine regD (T := tab) tOk mixedR hnt rfl (by decide +kernel) ?_ ?_ | refine tr_block ?_ | refine tr_skip ?_)
  · (dsimp only [AllP]; (repeat' first | exact trivial | assumption | exact Nat.le_of_ble_eq_true rfl | apply And.intro | decide | intro _ | exact rfl))
  repeat' (first | refine tr_seq ?_ | refine tr_block ?_ | refine tr_skip ?_)
  refine tr_cond rfl (fun hc => ?_) (fun hc => ?_)
  · have hc : (i : Int) < ((o.map eBo1).length : Int) := of_decide_eq_true hc
    have hlt : i < o.length := by omega
    have hg := boGet o i hlt
    rw [dropB (d := false) hlt] at hb
    have h64 : IntKind.i64.wrap ((i : Int) + 1) = ((i + 1 : Nat) : Int) := wrap64_id (by omega) (by omega)
    have h65 : IntKind.i64.wrap ((n : Int) + 1) = ((n + 1 : Nat) : Int) := wrap64_id (by omega) (by omega)
    repeat' (first | refine tr_seq ?_ | refine tr_block ?_ | refine tr_skip ?_)
    first | refine reg (T := tab) tOk hnt rfl ?_ ?_ | refine regD (T := tab) tOk mixedR hnt rfl (by decide +kernel) ?_ ?_
    · rw [Int.toNat_natCast, hg]
      (dsimp only [AllP]; (repeat' first | exact trivial | assumption | exact Nat.le_of_ble_eq_true rfl | apply And.intro | exact eCells_len1 _ _ ‹_› | exact eCells_isByte _ _ ‹_› | (intro hh_; have hg_ := hh_; (try simp only [condT_ff, condF_tt, notE_t, notE_f, Bool.and_eq_true, ne_eq, decide_eq_true_eq, decide_eq_false_iff_not] at hg_)) | intro _ | exact rfl | omega))
    rw [Int.toNat_natCast, hg]
    generalize o.getD i false = b at *
    repeat' (first | refine tr_seq ?_ | refine reg (T := tab) tOk hnt rfl ?_ ?_ | refine regD (T := tab) tOk mixedR hnt rfl (by decide +kernel) ?_ ?_ | refine tr_block ?_ | refine tr_skip ?_)
    · (dsimp only [AllP]; (repeat' first | exact trivial | assumption | exact Nat.le_of_ble_eq_true rfl | apply And.intro | decide | intro _ | exact rfl))
    repeat' (first | refine tr_seq ?_ | refine tr_block ?_ | refine tr_skip ?_)
    refine tr_cond rfl (fun hc => ?_) (fun hc => ?_)
    · have hc : b = true := hc
      subst hc
      repeat' (first | refine tr_seq ?_ | refine reg (T := tab) tOk hnt rfl ?_ ?_ | refine regD (T := tab) tOk mixedR hnt rfl (by decide +kernel) ?_ ?_ | refine tr_block ?_ | refine tr_skip ?_)
      · (dsimp only [AllP]; (repeat' first | exact trivial | assumption | exact Nat.le_of_ble_eq_true rfl | apply And.intro | decide | intro _ | exact rfl))
      · (dsimp only [AllP]; (repeat' first | exact trivial | assumption | exact Nat.le_of_ble_eq_true rfl | apply And.intro | decide | intro _ | exact rfl))
      rw [h64, h65]
      refine ⟨(i + 1, n + 1), ⟨by rw [← hb]; unfold cntN; rw [List.countP_cons]; simp; omega, by dsimp only; omega, by dsimp only; omega⟩, by dsimp only; omega, le_of (ad := []) (by refine ⟨?_, ?_, ?_, ?_, trivial⟩ <;> first | exact trivial | rfl | exact ⟨rfl, rfl⟩ | exact ⟨rfl, rfl, rfl⟩ | exact ⟨rfl, rfl, rfl, rfl⟩ | exact ⟨rfl, rfl, rfl, rfl, rfl⟩ | exact congrArg (fun z : Int => E.v (.int .i64 z)) (wrap64_id (by omega) (by omega)) | (refine ⟨rfl, ?_⟩; repeat' first | exact trivial | rfl | apply And.intro)) trivial⟩
    have hc : b = false := hc
    subst hc
    repeat' (first | refine tr_seq ?_ | refine reg (T := tab) tOk hnt rfl ?_ ?_ | refine regD (T := tab) tOk mixedR hnt rfl (by decide +kernel) ?_ ?_ | refine tr_block ?_ | refine tr_skip ?_)
    · (dsimp only [AllP]; (repeat' first | exact trivial | assumption | exact Nat.le_of_ble_eq_true rfl | apply And.intro | decide | intro _ | exact rfl))
    rw [h64]
    refine ⟨(i + 1, n), ⟨by rw [← hb]; unfold cntN; rw [List.countP_cons]; simp, by dsimp only; omega, by dsimp only; omega⟩, by dsimp only; omega, le_of (ad := []) (by refine ⟨?_, ?_, ?_, ?_, trivial⟩ <;> first | exact trivial | rfl | exact ⟨rfl, rfl⟩ | exact ⟨rfl, rfl, rfl⟩ | exact ⟨rfl, rfl, rfl, rfl⟩ | exact ⟨rfl, rfl, rfl, rfl, rfl⟩ | exact congrArg (fun z : Int => E.v (.int .i64 z)) (wrap64_id (by omega) (by omega)) | (refine ⟨rfl, ?_⟩; repeat' first | exact trivial | rfl | apply And.intro)) trivial⟩
  have hc : ¬ (i : Int) < ((o.map eBo1).length : Int) := of_decide_eq_false hc
  refine tr_exit ?_
  rw [List.drop_eq_nil_of_le (by omega)] at hb
  have hb : n = cntN o := hb
  rw [← hb]
  repeat' (first | refine tr_seq ?_ | refine reg (T := tab) tOk hnt rfl ?_ ?_ | refine regD (T := tab) tOk mixedR hnt rfl (by decide +kernel) ?_ ?_ | refine tr_block ?_ | refine tr_skip ?_)
  · (dsimp only [AllP]; (repeat' first | exact trivial | assumption | exact Nat.le_of_ble_eq_true rfl | apply And.intro | decide | intro _ | exact rfl))
  exact tr_ret ⟨.inr rfl, _, _, rfl, trivial, rfl⟩
end Go.Proofs.YtphaholcndhonaaDoor
namespace Go.Proofs.YtphaholcndhonaaDoor
open Go Go.RowKit Go.Proofs.YtphaholcndhonaaDoor.Ab
set_option linter.unusedSimpArgs false
set_option linter.unusedVariables false

def rsN : Nat → List Bool → Nat
  | 0, o => if cntN o = 0 then 1 else 0
  | k + 1, o => if cntN o = 0 then 1 else rsN k (o.take (2 ^ k)) + rsN k (o.drop (2 ^ k))
theorem rs_no {k : Nat} {o : List Bool} (h : cntN o = 0) : rsN k o = 1 := by
  cases k with
  | zero => exact if_pos h
  | succ k => exact if_pos h
theorem rs_0 {o : List Bool} (h : ¬ cntN o = 0) : rsN 0 o = 0 := if_neg h
theorem rs_s {k : Nat} {o : List Bool} (h : ¬ cntN o = 0) : rsN (k + 1) o = rsN k (o.take (2 ^ k)) + rsN k (o.drop (2 ^ k)) := if_neg h
theorem rs_le : ∀ (k : Nat) (o : List Bool), rsN k o ≤ 2 ^ k
  | 0, o => by
    show (if cntN o = 0 then 1 else 0) ≤ 1
    split <;> omega
  | k + 1, o => by
    have h1 := rs_le k (o.take (2 ^ k))
    have h2 := rs_le k (o.drop (2 ^ k))
    show (if cntN o = 0 then 1 else rsN k (o.take (2 ^ k)) + rsN k (o.drop (2 ^ k))) ≤ _
    rw [Nat.pow_succ]
    have := Nat.one_le_two_pow (n := k)
    split <;> omega
theorem cnt_le (o : List Bool) : cntN o ≤ o.length := List.countP_le_length
set_option maxRecDepth 10000 in
set_option maxHeartbeats 2000000 in
theorem rests_step (k : Nat) (hk : k ≤ 6) (ih : ∀ j, k = j + 1 → ∀ o : List Bool, o.length = 2 ^ j → FnD Tryd.prog 34 [.one (.e (eBools o))] (.one (.e (eI (rsN j o : Int))))) (o : List Bool) (ho : o.length = 2 ^ k) : FnD Tryd.prog 34 [.one (.e (eBools o))] (.one (.e (eI (rsN k o : Int)))) := by
  refine fn_intro (T := tab) tOk Tryd.func34 rfl (by kernel_rfl) (by simp [Tryd.ntmps34]) ?_
  intro X hX
  have hnt : X.nt = 22 := hX
  clear hX
  have hs := count_fn o
  have hll : (o.map eBo1).length = o.length := List.length_map ..
  have h64 : 2 ^ k ≤ 2 ^ 6 := Nat.pow_le_pow_right (by decide) hk
  have h64 : 2 ^ k ≤ 64 := h64
  repeat' (first | refine tr_seq ?_ | refine reg (T := tab) tOk hnt rfl ?_ ?_ | refine regD (T := tab) tOk mixedR hnt rfl (by decide +kernel) ?_ ?_ | refine tr_block ?_ | refine tr_skip ?_)
  · (dsimp only [AllP]; (repeat' first | exact trivial | assumption | exact Nat.le_of_ble_eq_true rfl | apply And.intro | decide | intro _ | exact rfl))
  repeat' (first | refine tr_seq ?_ | refine tr_block ?_ | refine tr_skip ?_)
  refine tr_region (lex (T := tab) tOk hnt rfl ?_ (call rfl rfl rfl rfl rfl rfl rfl hnt (hs) (lex (T := tab) tOk hnt rfl ?_ (Lex.nil _)))) ?_
  · (dsimp only [AllP]; (repeat' first | exact trivial | assumption | exact Nat.le_of_ble_eq_true rfl | apply And.intro | exact eCells_len1 _ _ ‹_› | exact eCells_isByte _ _ ‹_› | (intro hh_; have hg_ := hh_; (try simp only [condT_ff, condF_tt, notE_t, notE_f, Bool.and_eq_true, ne_eq, decide_eq_true_eq, decide_eq_false_iff_not] at hg_)) | intro _ | exact rfl | omega))
  · (dsimp only [AllP]; (repeat' first | exact trivial | assumption | exact Nat.le_of_ble_eq_true rfl | apply And.intro | exact eCells_len1 _ _ ‹_› | exact eCells_isByte _ _ ‹_› | (intro hh_; have hg_ := hh_; (try simp only [condT_ff, condF_tt, notE_t, notE_f, Bool.and_eq_true, ne_eq, decide_eq_true_eq, decide_eq_false_iff_not] at hg_)) | intro _ | exact rfl | omega))
  repeat' (first | refine tr_seq ?_ | refine tr_block ?_ | refine tr_skip ?_)
  refine tr_cond rfl (fun hc => ?_) (fun hc => ?_)
  · have hc : (cntN o : Int) = 0 := of_decide_eq_true hc
    rw [rs_no (by omega)]
    repeat' (first | refine tr_seq ?_ | refine reg (T := tab) tOk hnt rfl ?_ ?_ | refine regD (T := tab) tOk mixedR hnt rfl (by decide +kernel) ?_ ?_ | refine tr_block ?_ | refine tr_skip ?_)
    · (dsimp only [AllP]; (repeat' first | exact trivial | assumption | exact Nat.le_of_ble_eq_true rfl | apply And.intro | decide | intro _ | exact rfl))
    exact tr_ret ⟨.inr rfl, _, _, rfl, trivial, rfl⟩
  have hc : ¬ (cntN o : Int) = 0 := of_decide_eq_false hc
  have hz : ¬ cntN o = 0 := by omega
  repeat' (first | refine tr_seq ?_ | refine tr_block ?_ | refine tr_skip ?_)
  first | refine reg (T := tab) tOk hnt rfl ?_ ?_ | refine regD (T := tab) tOk mixedR hnt rfl (by decide +kernel) ?_ ?_
  · (dsimp only [AllP]; (repeat' first | exact trivial | assumption | exact Nat.le_of_ble_eq_true rfl | apply And.intro | exact eCells_len1 _ _ ‹_› | exact eCells_isByte _ _ ‹_› | (intro hh_; have hg_ := hh_; (try simp only [condT_ff, condF_tt, notE_t, notE_f, Bool.and_eq_true, ne_eq, decide_eq_true_eq, decide_eq_false_iff_not] at hg_)) | intro _ | exact rfl | omega))
  repeat' (first | refine tr_seq ?_ | refine tr_block ?_ | refine tr_skip ?_)
  refine tr_cond rfl (fun hc => ?_) (fun hc => ?_)
  · have hc : ((o.map eBo1).length : Int) = 1 := of_decide_eq_true hc
    have hk0 : k = 0 := by
      cases k with
      | zero => rfl
      | succ k => rw [Nat.pow_succ] at ho; have := Nat.one_le_two_pow (n := k); omega
    subst hk0
    rw [rs_0 hz]
    repeat' (first | refine tr_seq ?_ | refine reg (T := tab) tOk hnt rfl ?_ ?_ | refine regD (T := tab) tOk mixedR hnt rfl (by decide +kernel) ?_ ?_ | refine tr_block ?_ | refine tr_skip ?_)
    · (dsimp only [AllP]; (repeat' first | exact trivial | assumption | exact Nat.le_of_ble_eq_true rfl | apply And.intro | decide | intro _ | exact rfl))
    exact tr_ret ⟨.inr rfl, _, _, rfl, trivial, rfl⟩
  have hc : ¬ ((o.map eBo1).length : Int) = 1 := of_decide_eq_false hc
  obtain ⟨j, rfl⟩ : ∃ j, k = j + 1 := by
    cases k with
    | zero => rw [hll, ho] at hc; exact absurd rfl hc
    | succ j => exact ⟨j, rfl⟩
  rw [rs_s hz]
  have hp : 2 ^ (j + 1) = 2 ^ j + 2 ^ j := by rw [Nat.pow_succ]; omega
  have hp1 : 1 ≤ 2 ^ j := Nat.one_le_two_pow
  have hq : IntKind.i64.wrap (Int.tdiv ((o.map eBo1).length : Int) 2) = ((2 ^ j : Nat) : Int) := by
    rw [hll, ho, hp, show ((2 ^ j + 2 ^ j : Nat) : Int) = 2 * ((2 ^ j : Nat) : Int) by omega, Int.mul_tdiv_cancel_left _ (by decide), wrap64_id (by omega) (by omega)]
  have hs1 : E.sl (List.take (Int.toNat ((2 ^ j : Nat) : Int) - Int.toNat 0) (List.drop (Int.toNat 0) (o.map eBo1))) = eBools (o.take (2 ^ j)) := by
    rw [Int.toNat_natCast]
    unfold eBools
    rw [List.map_take]
    rfl
  have hs2 : E.sl (List.take (Int.toNat (((o.map eBo1).length : Nat) : Int) - Int.toNat ((2 ^ j : Nat) : Int)) (List.drop (Int.toNat ((2 ^ j : Nat) : Int)) (o.map eBo1))) = eBools (o.drop (2 ^ j)) := by
    rw [Int.toNat_natCast, Int.toNat_natCast]
    unfold eBools
    rw [List.map_drop, List.take_of_length_le (by rw [List.length_drop]; exact Nat.le_refl _)]
  have h1l : ∀ cs ∈ o.map eBo1, cs.length = 1 := fun cs hc => by
    obtain ⟨p, _, rfl⟩ := List.mem_map.1 hc
    rfl
  have hL : ((2 ^ j : Nat) : Int) ≤ ((o.map eBo1).length : Int) ∧ 0 ≤ ((2 ^ j : Nat) : Int) := by omega
  have i1 := ih j rfl (o.take (2 ^ j)) (by rw [List.length_take, ho, hp]; omega)
  have i2 := ih j rfl (o.drop (2 ^ j)) (by rw [List.length_drop, ho, hp]; omega)
  have b1 := rs_le j (o.take (2 ^ j))
  have b2 := rs_le j (o.drop (2 ^ j))
  rw [← hs1] at i1
  rw [← hs2] at i2
  generalize rsN j (o.take (2 ^ j)) = a at *
  generalize rsN j (o.drop (2 ^ j)) = b at *
  have hab : IntKind.i64.wrap ((a : Int) + (b : Int)) = ((a + b : Nat) : Int) := wrap64_id (by omega) (by omega)
  repeat' (first | refine tr_seq ?_ | refine tr_block ?_ | refine tr_skip ?_)
  first | refine reg (T := tab) tOk hnt rfl ?_ ?_ | refine regD (T := tab) tOk mixedR hnt rfl (by decide +kernel) ?_ ?_
  · (dsimp only [AllP]; (repeat' first | exact trivial | assumption | exact Nat.le_of_ble_eq_true rfl | apply And.intro | exact eCells_len1 _ _ ‹_› | exact eCells_isByte _ _ ‹_› | (intro hh_; have hg_ := hh_; (try simp only [condT_ff, condF_tt, notE_t, notE_f, Bool.and_eq_true, ne_eq, decide_eq_true_eq, decide_eq_false_iff_not] at hg_)) | intro _ | exact rfl | omega))
  rw [hq]
  repeat' (first | refine tr_seq ?_ | refine tr_block ?_ | refine tr_skip ?_)
  refine tr_draw (T := tab) tOk hnt mixedR (lexD (T := tab) rfl ?_ (callD rfl rfl rfl rfl rfl rfl rfl rfl (i1) (lexD (T := tab) rfl ?_ (callD rfl rfl rfl rfl rfl rfl rfl rfl (i2) (lexD (T := tab) rfl ?_ (.nil _)))))) (by decide +kernel) ?_
  · (dsimp only [AllP]; (repeat' first | exact trivial | assumption | exact Nat.le_of_ble_eq_true rfl | apply And.intro | exact eCells_len1 _ _ ‹_› | exact eCells_isByte _ _ ‹_› | (intro hh_; have hg_ := hh_; (try simp only [condT_ff, condF_tt, notE_t, notE_f, Bool.and_eq_true, ne_eq, decide_eq_true_eq, decide_eq_false_iff_not] at hg_)) | intro _ | exact rfl | omega))
    all_goals trace_state
  · (dsimp only [AllP]; (repeat' first | exact trivial | assumption | exact Nat.le_of_ble_eq_true rfl | apply And.intro | exact eCells_len1 _ _ ‹_› | exact eCells_isByte _ _ ‹_› | (intro hh_; have hg_ := hh_; (try simp only [condT_ff, condF_tt, notE_t, notE_f, Bool.and_eq_true, ne_eq, decide_eq_true_eq, decide_eq_false_iff_not] at hg_)) | intro _ | exact rfl | omega))
    all_goals trace_state
  · (dsimp only [AllP]; (repeat' first | exact trivial | assumption | exact Nat.le_of_ble_eq_true rfl | apply And.intro | exact eCells_len1 _ _ ‹_› | exact eCells_isByte _ _ ‹_› | (intro hh_; have hg_ := hh_; (try simp only [condT_ff, condF_tt, notE_t, notE_f, Bool.and_eq_true, ne_eq, decide_eq_true_eq, decide_eq_false_iff_not] at hg_)) | intro _ | exact rfl | omega))
  repeat' (first | refine tr_seq ?_ | refine tr_block ?_ | refine tr_skip ?_)
  refine tr_ret ⟨.inr rfl, _, _, rfl, trivial, ?_⟩
  exact congrArg (fun z => D.one (.e (eI z))) hab
theorem rests_fn : ∀ (k : Nat), k ≤ 6 → ∀ o : List Bool, o.length = 2 ^ k → FnD Tryd.prog 34 [.one (.e (eBools o))] (.one (.e (eI (rsN k o : Int))))
  | 0, hk, o, ho => rests_step 0 hk (fun j e => by cases e) o ho
  | k + 1, hk, o, ho => rests_step (k + 1) hk (fun j e => by cases e; exact rests_fn k (by omega)) o ho
def sl0 : SlotT := (false, [], [], ())
def uncF (m : Int) : Nat → List Bool → List SlotT → LL → List UInt8 × Bool
  | 0, o, op, rs => if cntN o = 0 then (rs.getD 0 [], true) else ((lfX m (op.getD 0 sl0)).1, decide ((lfX m (op.getD 0 sl0)).2 = 0))
  | k + 1, o, op, rs => if cntN o = 0 then (rs.getD 0 [], true) else
    if (uncF m k (o.take (2 ^ k)) (op.take (cntN (o.take (2 ^ k)))) (rs.take (rsN k (o.take (2 ^ k))))).2 = false ∨ (uncF m k (o.drop (2 ^ k)) (op.drop (cntN (o.take (2 ^ k)))) (rs.drop (rsN k (o.take (2 ^ k))))).2 = false then ([], false) else
    ((ndF m (uncF m k (o.take (2 ^ k)) (op.take (cntN (o.take (2 ^ k)))) (rs.take (rsN k (o.take (2 ^ k))))).1 (uncF m k (o.drop (2 ^ k)) (op.drop (cntN (o.take (2 ^ k)))) (rs.drop (rsN k (o.take (2 ^ k))))).1).1,
      decide ((ndF m (uncF m k (o.take (2 ^ k)) (op.take (cntN (o.take (2 ^ k)))) (rs.take (rsN k (o.take (2 ^ k))))).1 (uncF m k (o.drop (2 ^ k)) (op.drop (cntN (o.take (2 ^ k)))) (rs.drop (rsN k (o.take (2 ^ k))))).1).2 = 0))
theorem unc_no {m : Int} {k : Nat} {o : List Bool} (op : List SlotT) (rs : LL) (h : cntN o = 0) : uncF m k o op rs = (rs.getD 0 [], true) := by
  cases k with
  | zero => exact if_pos h
  | succ k => exact if_pos h
theorem unc_0 {m : Int} {o : List Bool} (op : List SlotT) (rs : LL) (h : ¬ cntN o = 0) : uncF m 0 o op rs = ((lfX m (op.getD 0 sl0)).1, decide ((lfX m (op.getD 0 sl0)).2 = 0)) := if_neg h
theorem unc_s {m : Int} {k : Nat} {o : List Bool} (op : List SlotT) (rs : LL) (h : ¬ cntN o = 0) : uncF m (k + 1) o op rs =
    if (uncF m k (o.take (2 ^ k)) (op.take (cntN (o.take (2 ^ k)))) (rs.take (rsN k (o.take (2 ^ k))))).2 = false ∨ (uncF m k (o.drop (2 ^ k)) (op.drop (cntN (o.take (2 ^ k)))) (rs.drop (rsN k (o.take (2 ^ k))))).2 = false then ([], false) else
    ((ndF m (uncF m k (o.take (2 ^ k)) (op.take (cntN (o.take (2 ^ k)))) (rs.take (rsN k (o.take (2 ^ k))))).1 (uncF m k (o.drop (2 ^ k)) (op.drop (cntN (o.take (2 ^ k)))) (rs.drop (rsN k (o.take (2 ^ k))))).1).1,
      decide ((ndF m (uncF m k (o.take (2 ^ k)) (op.take (cntN (o.take (2 ^ k)))) (rs.take (rsN k (o.take (2 ^ k))))).1 (uncF m k (o.drop (2 ^ k)) (op.drop (cntN (o.take (2 ^ k)))) (rs.drop (rsN k (o.take (2 ^ k))))).1).2 = 0)) := if_neg h
theorem cnt_two (o : List Bool) (n : Nat) : cntN (o.take n) + cntN (o.drop n) = cntN o := by
  unfold cntN
  rw [← List.countP_append, List.take_append_drop]
theorem sm_cnt (o : List Bool) : smB o = false ↔ cntN o = 0 := by
  unfold smB cntN
  rw [List.any_eq_false, List.countP_eq_zero]
/-- build and uncovered -/
theorem bld_unc (m : Int) : ∀ (k : Nat) (o : List Bool) (op : List SlotT) (rs : LL), o.length = 2 ^ k →
    ((bldF m k o op rs).1.2 = true → cntN o ≤ op.length ∧ rsN k o ≤ rs.length ∧ (bldF m k o op rs).2 = (op.drop (cntN o), rs.drop (rsN k o)) ∧ uncF m k o (op.take (cntN o)) (rs.take (rsN k o)) = ((bldF m k o op rs).1.1, true)) ∧
    (cntN o ≤ op.length → rsN k o ≤ rs.length → (uncF m k o (op.take (cntN o)) (rs.take (rsN k o))).2 = true → (bldF m k o op rs).1.2 = true)
  | k, o, op, rs, ho => by
    by_cases hz : cntN o = 0
    · rw [bld_no m k op rs ((sm_cnt o).2 hz), unc_no _ _ hz, hz, rs_no hz]
      cases rs with
      | nil => exact ⟨fun h => absurd h Bool.false_ne_true, fun _ h => absurd h (by simp)⟩
      | cons d r => exact ⟨fun _ => ⟨Nat.zero_le _, by simp, rfl, rfl⟩, fun _ _ _ => rfl⟩
    have hs : ¬ smB o = false := fun h => hz ((sm_cnt o).1 h)
    cases k with
    | zero =>
      have h1 : cntN o = 1 := by have := cnt_le o; rw [ho] at this; omega
      rw [bld_0 m op rs hs, unc_0 _ _ hz, rs_0 hz, h1]
      cases op with
      | nil => exact ⟨fun h => absurd h Bool.false_ne_true, fun h => absurd h (by simp)⟩
      | cons x r =>
        refine ⟨fun h => ⟨by simp, Nat.zero_le _, rfl, ?_⟩, fun _ _ h => h⟩
        have h : decide ((lfX m x).2 = 0) = true := h
        show ((lfX m x).1, decide ((lfX m x).2 = 0)) = ((lfX m x).1, true)
        rw [h]
    | succ k =>
      have hp : 2 ^ (k + 1) = 2 ^ k + 2 ^ k := by rw [Nat.pow_succ]; omega
      have hn := cnt_two o (2 ^ k)
      obtain ⟨a1, a2⟩ := bld_unc m k (o.take (2 ^ k)) op rs (by rw [List.length_take, ho, hp]; omega)
      have hb := fun op rs => bld_unc m k (o.drop (2 ^ k)) op rs (by rw [List.length_drop, ho, hp]; omega)
      rw [bld_s m k op rs hs, unc_s _ _ hz, rs_s hz, ← hn]
      generalize hA : bldF m k (o.take (2 ^ k)) op rs = A at *
      obtain ⟨⟨a, ok⟩, op1, rs1⟩ := A
      dsimp only at a1 a2 ⊢
      rw [List.take_take, List.take_take, Nat.min_eq_left (Nat.le_add_right ..), Nat.min_eq_left (Nat.le_add_right ..), List.drop_take, List.drop_take, Nat.add_sub_cancel_left, Nat.add_sub_cancel_left]
      generalize cntN (o.take (2 ^ k)) = c1 at *
      generalize cntN (o.drop (2 ^ k)) = c2 at *
      generalize rsN k (o.take (2 ^ k)) = r1 at *
      generalize rsN k (o.drop (2 ^ k)) = r2 at *
      cases ok with
      | false =>
        rw [if_pos rfl]
        refine ⟨fun h => absurd h Bool.false_ne_true, fun h1 h2 h3 => ?_⟩
        have h4 : (uncF m k (o.take (2 ^ k)) (op.take c1) (rs.take r1)).2 = true := by
          cases h : (uncF m k (o.take (2 ^ k)) (op.take c1) (rs.take r1)).2 with
          | true => rfl
          | false => rw [if_pos (.inl h)] at h3; exact h3
        exact absurd (a2 (by omega) (by omega) h4) Bool.false_ne_true
      | true =>
        rw [if_neg (by decide)]
        obtain ⟨e1, e2, e3, e4⟩ := a1 rfl
        cases e3
        obtain ⟨b1, b2⟩ := hb (op.drop c1) (rs.drop r1)
        rw [e4]
        generalize hB : bldF m k (o.drop (2 ^ k)) (op.drop c1) (rs.drop r1) = B at *
        obtain ⟨⟨b, ok2⟩, op2, rs2⟩ := B
        dsimp only at b1 b2 ⊢
        rw [List.length_drop, List.length_drop] at b1 b2
        cases ok2 with
        | false =>
          rw [if_pos rfl]
          refine ⟨fun h => absurd h Bool.false_ne_true, fun h1 h2 h3 => ?_⟩
          have h4 : (uncF m k (o.drop (2 ^ k)) ((op.drop c1).take c2) ((rs.drop r1).take r2)).2 = true := by
            cases h : (uncF m k (o.drop (2 ^ k)) ((op.drop c1).take c2) ((rs.drop r1).take r2)).2 with
            | true => rfl
            | false => rw [if_pos (.inr h)] at h3; exact h3
          exact absurd (b2 (by omega) (by omega) h4) Bool.false_ne_true
        | true =>
          obtain ⟨f1, f2, f3, f4⟩ := b1 rfl
          cases f3
          rw [if_neg (by decide), f4, if_neg (by simp)]
          refine ⟨fun h => ⟨by omega, by omega, by rw [List.drop_drop, List.drop_drop], ?_⟩, fun _ _ h => h⟩
          dsimp only at h ⊢
          rw [h]
/-- what the document answers -/
def rdF (m : Int) (o : List Bool) (op : List SlotT) (rs : LL) : List UInt8 × Int :=
  if m ≠ 1 ∧ m ≠ 2 then ([], 2) else if powF o.length = false then ([], 1) else
  if op.length ≠ cntN o ∨ rs.length ≠ rsN (Nat.log2 o.length) o then ([], 10) else
  if (uncF m (Nat.log2 o.length) o op rs).2 = false then ([], 10) else ((uncF m (Nat.log2 o.length) o op rs).1, 0)
theorem rt_rd (m : Int) (o : List Bool) (op : List SlotT) (rs : LL) : rtF m o op rs = rdF m o op rs := by
  unfold rtF rdF
  split
  · rfl
  split
  · rfl
  rename_i hp
  obtain ⟨k, hk, ho⟩ := pow_two o.length (by cases h : powF (o.length : Int) with | true => rfl | false => exact absurd h hp)
  have hlg : Nat.log2 o.length = k := by rw [ho, Nat.log2_two_pow]
  rw [hlg]
  obtain ⟨h1, h2⟩ := bld_unc m k o op rs ho
  by_cases hl : op.length ≠ cntN o ∨ rs.length ≠ rsN k o
  · rw [if_pos hl]
    refine if_pos (Classical.byContradiction fun hn => ?_)
    have hok : (bldF m k o op rs).1.2 = true := by
      cases h : (bldF m k o op rs).1.2 with
      | true => rfl
      | false => exact absurd (.inl (.inl h)) hn
    obtain ⟨e1, e2, e3, e4⟩ := h1 hok
    rw [e3] at hn
    simp only [List.length_drop] at hn
    omega
  rw [if_neg hl]
  have hl : op.length = cntN o ∧ rs.length = rsN k o := by omega
  rw [List.take_of_length_le (by omega), List.take_of_length_le (by omega)] at h1 h2
  cases hu : (uncF m k o op rs).2 with
  | false =>
    rw [if_pos rfl]
    refine if_pos (.inl (.inl ?_))
    cases h : (bldF m k o op rs).1.2 with
    | false => rfl
    | true =>
      have := (h1 h).2.2.2
      rw [this] at hu
      exact absurd hu (fun h => nomatch h)
  | true =>
    have hok := h2 (by omega) (by omega) hu
    obtain ⟨e1, e2, e3, e4⟩ := h1 hok
    have hL : ¬ (((bldF m k o op rs).1.2 = false ∨ (bldF m k o op rs).2.1.length ≠ 0) ∨ (bldF m k o op rs).2.2.length ≠ 0) := by
      rw [hok, e3]
      simp only [List.length_drop, Bool.true_eq_false, false_or]
      omega
    rw [if_neg hL, e4, if_neg (by simp)]
set_option maxRecDepth 10000 in
set_option maxHeartbeats 2000000 in
theorem unc_step (mode : Int) (k : Nat) (hk : k ≤ 6) (ih : ∀ j, k = j + 1 → ∀ (o : List Bool) (op : List SlotT) (rs : LL), o.length = 2 ^ j → op.length = cntN o → rs.length = rsN j o → FnD Tryd.prog 35 [.one (.e (eI mode)), .one (.e (eBools o)), .agg (.es (cvE op rs))] (rBB (uncF mode j o op rs))) (o : List Bool) (op : List SlotT) (rs : LL) (ho : o.length = 2 ^ k) (hop : op.length = cntN o) (hrs : rs.length = rsN k o) : FnD Tryd.prog 35 [.one (.e (eI mode)), .one (.e (eBools o)), .agg (.es (cvE op rs))] (rBB (uncF mode k o op rs)) := by
  refine fn_intro (T := tab) tOk Tryd.func35 rfl (by kernel_rfl) (by simp [Tryd.ntmps35]) ?_
  intro X hX
  have hnt : X.nt = 103 := hX
  clear hX
  have hs := count_fn o
  have hll : (o.map eBo1).length = o.length := List.length_map ..
  have h64 : 2 ^ k ≤ 2 ^ 6 := Nat.pow_le_pow_right (by decide) hk
  have h64 : 2 ^ k ≤ 64 := h64
  have f2 : 0 + 2 ≤ (Cs.es (cvE op rs)).len := Nat.le_refl 2
  have n1 : (op.map eS).length = op.length := List.length_map ..
  have n2 : (rs.map fun p => [eBytes p]).length = rs.length := List.length_map ..
  repeat' (first | refine tr_seq ?_ | refine tr_block ?_ | refine tr_skip ?_)
  first | refine reg (T := tab) tOk hnt rfl ?_ ?_ | refine regD (T := tab) tOk mixedR hnt rfl (by decide +kernel) ?_ ?_
  · (dsimp only [AllP]; (repeat' first | exact trivial | assumption | exact Nat.le_of_ble_eq_true rfl | apply And.intro | exact eCells_len1 _ _ ‹_› | exact eCells_isByte _ _ ‹_› | (intro hh_; have hg_ := hh_; (try simp only [condT_ff, condF_tt, notE_t, notE_f, Bool.and_eq_true, ne_eq, decide_eq_true_eq, decide_eq_false_iff_not] at hg_)) | intro _ | exact rfl | omega))
  repeat' (first | refine tr_seq ?_ | refine tr_block ?_ | refine tr_skip ?_)
  refine tr_region (lex (T := tab) tOk hnt rfl ?_ (call rfl rfl rfl rfl rfl rfl rfl hnt (hs) (lex (T := tab) tOk hnt rfl ?_ (Lex.nil _)))) ?_
  · (dsimp only [AllP]; (repeat' first | exact trivial | assumption | exact Nat.le_of_ble_eq_true rfl | apply And.intro | exact eCells_len1 _ _ ‹_› | exact eCells_isByte _ _ ‹_› | (intro hh_; have hg_ := hh_; (try simp only [condT_ff, condF_tt, notE_t, notE_f, Bool.and_eq_true, ne_eq, decide_eq_true_eq, decide_eq_false_iff_not] at hg_)) | intro _ | exact rfl | omega))
  · (dsimp only [AllP]; (repeat' first | exact trivial | assumption | exact Nat.le_of_ble_eq_true rfl | apply And.intro | exact eCells_len1 _ _ ‹_› | exact eCells_isByte _ _ ‹_› | (intro hh_; have hg_ := hh_; (try simp only [condT_ff, condF_tt, notE_t, notE_f, Bool.and_eq_true, ne_eq, decide_eq_true_eq, decide_eq_false_iff_not] at hg_)) | intro _ | exact rfl | omega))
  repeat' (first | refine tr_seq ?_ | refine tr_block ?_ | refine tr_skip ?_)
  refine tr_cond rfl (fun hc => ?_) (fun hc => ?_)
  · have hc : (cntN o : Int) = 0 := of_decide_eq_true hc
    have hz : cntN o = 0 := by omega
    rw [unc_no _ _ hz]
    rw [rs_no hz] at hrs
    obtain ⟨d, rfl⟩ : ∃ d, rs = [d] := by
      match rs, hrs with
      | [d], _ => exact ⟨d, rfl⟩
    repeat' (first | refine tr_seq ?_ | refine tr_block ?_ | refine tr_skip ?_)
    first | refine reg (T := tab) tOk hnt rfl ?_ ?_ | refine regD (T := tab) tOk mixedR hnt rfl (by decide +kernel) ?_ ?_
    · (dsimp only [AllP]; (repeat' first | exact trivial | assumption | exact Nat.le_of_ble_eq_true rfl | apply And.intro | exact eCells_len1 _ _ ‹_› | exact eCells_isByte _ _ ‹_› | (intro hh_; have hg_ := hh_; (try simp only [condT_ff, condF_tt, notE_t, notE_f, Bool.and_eq_true, ne_eq, decide_eq_true_eq, decide_eq_false_iff_not] at hg_)) | intro _ | exact rfl | omega))
      all_goals first | exact (show (0 : Int) < ((1 : Nat) : Int) by decide) | trace_state
    refine tr_ret ⟨.inr rfl, _, _, rfl, by (repeat' first | exact trivial | exact Nat.le_of_ble_eq_true rfl | apply And.intro), ?_⟩
    exact rfl
  have hc : ¬ (cntN o : Int) = 0 := of_decide_eq_false hc
  have hz : ¬ cntN o = 0 := by omega
  repeat' (first | refine tr_seq ?_ | refine tr_block ?_ | refine tr_skip ?_)
  first | refine reg (T := tab) tOk hnt rfl ?_ ?_ | refine regD (T := tab) tOk mixedR hnt rfl (by decide +kernel) ?_ ?_
  · (dsimp only [AllP]; (repeat' first | exact trivial | assumption | exact Nat.le_of_ble_eq_true rfl | apply And.intro | exact eCells_len1 _ _ ‹_› | exact eCells_isByte _ _ ‹_› | (intro hh_; have hg_ := hh_; (try simp only [condT_ff, condF_tt, notE_t, notE_f, Bool.and_eq_true, ne_eq, decide_eq_true_eq, decide_eq_false_iff_not] at hg_)) | intro _ | exact rfl | omega))
  repeat' (first | refine tr_seq ?_ | refine tr_block ?_ | refine tr_skip ?_)
  refine tr_cond rfl (fun hc => ?_) (fun hc => ?_)
  · have hc : ((o.map eBo1).length : Int) = 1 := of_decide_eq_true hc
    have hk0 : k = 0 := by
      cases k with
      | zero => rfl
      | succ k => rw [Nat.pow_succ] at ho; have := Nat.one_le_two_pow (n := k); omega
    subst hk0
    have h1 : cntN o = 1 := by have := cnt_le o; rw [ho] at this; omega
    rw [h1] at hop
    obtain ⟨x, rfl⟩ : ∃ x, op = [x] := by
      match op, hop with
      | [x], _ => exact ⟨x, rfl⟩
    rw [unc_0 _ _ hz]
    show Tr _ _ _ _ _
    have hf := LeafOf_fn mode x.1 x.2.1 x.2.2.1
    rw [show leafF mode x.1 x.2.1 x.2.2.1 = lfX mode x from rfl] at hf
    rw [show ([x] : List SlotT).getD 0 sl0 = x from rfl]
    generalize lfX mode x = q at *
    repeat' (first | refine tr_seq ?_ | refine tr_block ?_ | refine tr_skip ?_)
    refine tr_region (lex (T := tab) tOk hnt rfl ?_ (call rfl rfl rfl rfl rfl rfl rfl hnt (hf) (lex (T := tab) tOk hnt rfl ?_ (Lex.nil _)))) ?_
    · (dsimp only [AllP]; (repeat' first | exact trivial | assumption | exact Nat.le_of_ble_eq_true rfl | apply And.intro | exact eCells_len1 _ _ ‹_› | exact eCells_isByte _ _ ‹_› | (intro hh_; have hg_ := hh_; (try simp only [condT_ff, condF_tt, notE_t, notE_f, Bool.and_eq_true, ne_eq, decide_eq_true_eq, decide_eq_false_iff_not] at hg_)) | intro _ | exact rfl | omega))
      all_goals first | exact (show (0 : Int) < ((1 : Nat) : Int) by decide) | trace_state
    · (dsimp only [AllP]; (repeat' first | exact trivial | assumption | exact Nat.le_of_ble_eq_true rfl | apply And.intro | exact eCells_len1 _ _ ‹_› | exact eCells_isByte _ _ ‹_› | (intro hh_; have hg_ := hh_; (try simp only [condT_ff, condF_tt, notE_t, notE_f, Bool.and_eq_true, ne_eq, decide_eq_true_eq, decide_eq_false_iff_not] at hg_)) | intro _ | exact rfl | omega))
    repeat' (first | refine tr_seq ?_ | refine reg (T := tab) tOk hnt rfl ?_ ?_ | refine regD (T := tab) tOk mixedR hnt rfl (by decide +kernel) ?_ ?_ | refine tr_block ?_ | refine tr_skip ?_)
    · (dsimp only [AllP]; (repeat' first | exact trivial | assumption | exact Nat.le_of_ble_eq_true rfl | apply And.intro | decide | intro _ | exact rfl))
    refine tr_ret ⟨.inr rfl, _, _, rfl, by (repeat' first | exact trivial | exact Nat.le_of_ble_eq_true rfl | apply And.intro), ?_⟩
    exact rfl
  have hc : ¬ ((o.map eBo1).length : Int) = 1 := of_decide_eq_false hc
  obtain ⟨j, rfl⟩ : ∃ j, k = j + 1 := by
    cases k with
    | zero => rw [hll, ho] at hc; exact absurd rfl hc
    | succ j => exact ⟨j, rfl⟩
  rw [unc_s _ _ hz]
  rw [rs_s hz] at hrs
  have hp : 2 ^ (j + 1) = 2 ^ j + 2 ^ j := by rw [Nat.pow_succ]; omega
  have hp1 : 1 ≤ 2 ^ j := Nat.one_le_two_pow
  have hq : IntKind.i64.wrap (Int.tdiv ((o.map eBo1).length : Int) 2) = ((2 ^ j : Nat) : Int) := by
    rw [hll, ho, hp, show ((2 ^ j + 2 ^ j : Nat) : Int) = 2 * ((2 ^ j : Nat) : Int) by omega, Int.mul_tdiv_cancel_left _ (by decide), wrap64_id (by omega) (by omega)]
  have hs1 : E.sl (List.take (Int.toNat ((2 ^ j : Nat) : Int) - Int.toNat 0) (List.drop (Int.toNat 0) (o.map eBo1))) = eBools (o.take (2 ^ j)) := by
    rw [Int.toNat_natCast]
    unfold eBools
    rw [List.map_take]
    rfl
  have hs2 : E.sl (List.take (Int.toNat (((o.map eBo1).length : Nat) : Int) - Int.toNat ((2 ^ j : Nat) : Int)) (List.drop (Int.toNat ((2 ^ j : Nat) : Int)) (o.map eBo1))) = eBools (o.drop (2 ^ j)) := by
    rw [Int.toNat_natCast, Int.toNat_natCast]
    unfold eBools
    rw [List.map_drop, List.take_of_length_le (by rw [List.length_drop]; exact Nat.le_refl _)]
  have h1l : ∀ cs ∈ o.map eBo1, cs.length = 1 := fun cs hc => by
    obtain ⟨p, _, rfl⟩ := List.mem_map.1 hc
    rfl
  have hL : ((2 ^ j : Nat) : Int) ≤ ((o.map eBo1).length : Int) ∧ 0 ≤ ((2 ^ j : Nat) : Int) := by omega
  have hcn := cnt_two o (2 ^ j)
  have c1 := count_fn (o.take (2 ^ j))
  have c2 := rests_fn j (by omega) (o.take (2 ^ j)) (by rw [List.length_take, ho, hp]; omega)
  have i1 := ih j rfl (o.take (2 ^ j)) (op.take (cntN (o.take (2 ^ j)))) (rs.take (rsN j (o.take (2 ^ j)))) (by rw [List.length_take, ho, hp]; omega) (by rw [List.length_take]; omega) (by rw [List.length_take]; omega)
  have i2 := ih j rfl (o.drop (2 ^ j)) (op.drop (cntN (o.take (2 ^ j)))) (rs.drop (rsN j (o.take (2 ^ j)))) (by rw [List.length_drop, ho, hp]; omega) (by rw [List.length_drop]; omega) (by rw [List.length_drop]; omega)
  generalize uncF mode j (o.take (2 ^ j)) _ _ = A at *
  generalize uncF mode j (o.drop (2 ^ j)) _ _ = B at *
  have hN : cntN (o.take (2 ^ j)) ≤ op.length := by omega
  have hM : rsN j (o.take (2 ^ j)) ≤ rs.length := by omega
  generalize cntN (o.take (2 ^ j)) = N at *
  generalize rsN j (o.take (2 ^ j)) = M at *
  have t1 : cvE (op.take N) (rs.take M) = [E.sl (List.take (Int.toNat (N : Int) - Int.toNat 0) (List.drop (Int.toNat 0) (op.map eS))), E.sl (List.take (Int.toNat (M : Int) - Int.toNat 0) (List.drop (Int.toNat 0) (rs.map fun p => [eBytes p])))] := by
    rw [Int.toNat_natCast, Int.toNat_natCast]
    unfold cvE eSlots eLists
    rw [List.map_take, List.map_take]
    rfl
  have t2 : cvE (op.drop N) (rs.drop M) = [E.sl (List.take (Int.toNat (((op.map eS).length : Nat) : Int) - Int.toNat (N : Int)) (List.drop (Int.toNat (N : Int)) (op.map eS))), E.sl (List.take (Int.toNat (((rs.map fun p => [eBytes p]).length : Nat) : Int) - Int.toNat (M : Int)) (List.drop (Int.toNat (M : Int)) (rs.map fun p => [eBytes p])))] := by
    rw [Int.toNat_natCast, Int.toNat_natCast, Int.toNat_natCast, Int.toNat_natCast]
    unfold cvE eSlots eLists
    rw [List.map_drop, List.map_drop, List.take_of_length_le (by rw [List.length_drop]; exact Nat.le_refl _), List.take_of_length_le (by rw [List.length_drop]; exact Nat.le_refl _)]
  rw [t1] at i1
  rw [t2] at i2
  rw [← hs1] at i1 c1 c2
  rw [← hs2] at i2
  have q1 : ∀ cs ∈ op.map eS, cs.length = 3 := fun cs hc => by obtain ⟨p, _, rfl⟩ := List.mem_map.1 hc; rfl
  have q2 : ∀ cs ∈ rs.map fun p => [eBytes p], cs.length = 1 := fun cs hc => by obtain ⟨p, _, rfl⟩ := List.mem_map.1 hc; rfl
  have hN : (N : Int) ≤ ((op.map eS).length : Int) := by omega
  have hM : (M : Int) ≤ ((rs.map fun p => [eBytes p]).length : Int) := by omega
  repeat' (first | refine tr_seq ?_ | refine tr_block ?_ | refine tr_skip ?_)
  first | refine reg (T := tab) tOk hnt rfl ?_ ?_ | refine regD (T := tab) tOk mixedR hnt rfl (by decide +kernel) ?_ ?_
  · (dsimp only [AllP]; (repeat' first | exact trivial | assumption | exact Nat.le_of_ble_eq_true rfl | apply And.intro | exact eCells_len1 _ _ ‹_› | exact eCells_isByte _ _ ‹_› | (intro hh_; have hg_ := hh_; (try simp only [condT_ff, condF_tt, notE_t, notE_f, Bool.and_eq_true, ne_eq, decide_eq_true_eq, decide_eq_false_iff_not] at hg_)) | intro _ | exact rfl | omega))
  rw [hq]
  repeat' (first | refine tr_seq ?_ | refine tr_block ?_ | refine tr_skip ?_)
  refine tr_draw (T := tab) tOk hnt mixedR (lexD (T := tab) rfl ?_ (callD rfl rfl rfl rfl rfl rfl rfl rfl (c1) (lexD (T := tab) rfl ?_ (callD rfl rfl rfl rfl rfl rfl rfl rfl (c2) (lexD (T := tab) rfl ?_ (.nil _)))))) (by decide +kernel) ?_
  · (dsimp only [AllP]; (repeat' first | exact trivial | assumption | exact Nat.le_of_ble_eq_true rfl | apply And.intro | exact eCells_len1 _ _ ‹_› | exact eCells_isByte _ _ ‹_› | (intro hh_; have hg_ := hh_; (try simp only [condT_ff, condF_tt, notE_t, notE_f, Bool.and_eq_true, ne_eq, decide_eq_true_eq, decide_eq_false_iff_not] at hg_)) | intro _ | exact rfl | omega))
    all_goals trace_state
  · (dsimp only [AllP]; (repeat' first | exact trivial | assumption | exact Nat.le_of_ble_eq_true rfl | apply And.intro | exact eCells_len1 _ _ ‹_› | exact eCells_isByte _ _ ‹_› | (intro hh_; have hg_ := hh_; (try simp only [condT_ff, condF_tt, notE_t, notE_f, Bool.and_eq_true, ne_eq, decide_eq_true_eq, decide_eq_false_iff_not] at hg_)) | intro _ | exact rfl | omega))
    all_goals trace_state
  · (dsimp only [AllP]; (repeat' first | exact trivial | assumption | exact Nat.le_of_ble_eq_true rfl | apply And.intro | exact eCells_len1 _ _ ‹_› | exact eCells_isByte _ _ ‹_› | (intro hh_; have hg_ := hh_; (try simp only [condT_ff, condF_tt, notE_t, notE_f, Bool.and_eq_true, ne_eq, decide_eq_true_eq, decide_eq_false_iff_not] at hg_)) | intro _ | exact rfl | omega))
  repeat' (first | refine tr_seq ?_ | refine tr_block ?_ | refine tr_skip ?_)
  refine tr_draw (T := tab) tOk hnt mixedR (lexD (T := tab) rfl ?_ (callD rfl rfl rfl rfl rfl rfl rfl rfl (i1) (lexD (T := tab) rfl ?_ (.nil _)))) (by decide +kernel) ?_
  · (dsimp only [AllP]; (repeat' first | exact trivial | assumption | exact Nat.le_of_ble_eq_true rfl | apply And.intro | exact eCells_len1 _ _ ‹_› | exact eCells_isByte _ _ ‹_› | (intro hh_; have hg_ := hh_; (try simp only [condT_ff, condF_tt, notE_t, notE_f, Bool.and_eq_true, ne_eq, decide_eq_true_eq, decide_eq_false_iff_not] at hg_)) | intro _ | exact rfl | omega))
    all_goals first | exact q1 _ ‹_› | exact q2 _ ‹_› | exact h1l _ ‹_› | trace_state
  · (dsimp only [AllP]; (repeat' first | exact trivial | assumption | exact Nat.le_of_ble_eq_true rfl | apply And.intro | exact eCells_len1 _ _ ‹_› | exact eCells_isByte _ _ ‹_› | (intro hh_; have hg_ := hh_; (try simp only [condT_ff, condF_tt, notE_t, notE_f, Bool.and_eq_true, ne_eq, decide_eq_true_eq, decide_eq_false_iff_not] at hg_)) | intro _ | exact rfl | omega))
  repeat' (first | refine tr_seq ?_ | refine tr_block ?_ | refine tr_skip ?_)
  refine tr_draw (T := tab) tOk hnt mixedR (lexD (T := tab) rfl ?_ (callD rfl rfl rfl rfl rfl rfl rfl rfl (i2) (lexD (T := tab) rfl ?_ (.nil _)))) (by decide +kernel) ?_
  · (dsimp only [AllP]; (repeat' first | exact trivial | assumption | exact Nat.le_of_ble_eq_true rfl | apply And.intro | exact eCells_len1 _ _ ‹_› | exact eCells_isByte _ _ ‹_› | (intro hh_; have hg_ := hh_; (try simp only [condT_ff, condF_tt, notE_t, notE_f, Bool.and_eq_true, ne_eq, decide_eq_true_eq, decide_eq_false_iff_not] at hg_)) | intro _ | exact rfl | omega))
    all_goals first | exact q1 _ ‹_› | exact q2 _ ‹_› | exact h1l _ ‹_› | trace_state
  · (dsimp only [AllP]; (repeat' first | exact trivial | assumption | exact Nat.le_of_ble_eq_true rfl | apply And.intro | exact eCells_len1 _ _ ‹_› | exact eCells_isByte _ _ ‹_› | (intro hh_; have hg_ := hh_; (try simp only [condT_ff, condF_tt, notE_t, notE_f, Bool.and_eq_true, ne_eq, decide_eq_true_eq, decide_eq_false_iff_not] at hg_)) | intro _ | exact rfl | omega))
  obtain ⟨a, ok⟩ := A
  obtain ⟨b, ok2⟩ := B
  have hF : (bif !ok then true else !ok2) = decide (ok = false ∨ ok2 = false) := by cases ok <;> cases ok2 <;> rfl
  repeat' (first | refine tr_seq ?_ | refine tr_block ?_ | refine tr_skip ?_)
  first | refine reg (T := tab) tOk hnt rfl ?_ ?_ | refine regD (T := tab) tOk mixedR hnt rfl (by decide +kernel) ?_ ?_
  · (dsimp only [AllP]; (repeat' first | exact trivial | assumption | exact Nat.le_of_ble_eq_true rfl | apply And.intro | exact eCells_len1 _ _ ‹_› | exact eCells_isByte _ _ ‹_› | (intro hh_; have hg_ := hh_; (try simp only [condT_ff, condF_tt, notE_t, notE_f, Bool.and_eq_true, ne_eq, decide_eq_true_eq, decide_eq_false_iff_not] at hg_)) | intro _ | exact rfl | omega))
  repeat' (first | refine tr_seq ?_ | refine tr_block ?_ | refine tr_skip ?_)
  refine tr_cond rfl (fun hc => ?_) (fun hc => ?_)
  · have hc : (bif !ok then true else !ok2) = true := hc
    rw [hF] at hc
    have hc := of_decide_eq_true hc
    rw [if_pos hc]
    repeat' (first | refine tr_seq ?_ | refine reg (T := tab) tOk hnt rfl ?_ ?_ | refine regD (T := tab) tOk mixedR hnt rfl (by decide +kernel) ?_ ?_ | refine tr_block ?_ | refine tr_skip ?_)
    · (dsimp only [AllP]; (repeat' first | exact trivial | assumption | exact Nat.le_of_ble_eq_true rfl | apply And.intro | decide | intro _ | exact rfl))
    refine tr_ret ⟨.inr rfl, _, _, rfl, by (repeat' first | exact trivial | exact Nat.le_of_ble_eq_true rfl | apply And.intro), ?_⟩
    exact rfl
  have hc : (bif !ok then true else !ok2) = false := hc
  rw [hF] at hc
  have hc := of_decide_eq_false hc
  rw [if_neg hc]
  have hd := DigestOf_fn mode 2 [a, b]
  rw [show dgF mode 2 [a, b] = ndF mode a b from rfl] at hd
  repeat' (first | refine tr_seq ?_ | refine tr_block ?_ | refine tr_skip ?_)
  refine tr_region (lex (T := tab) tOk hnt rfl ?_ (callU rfl rfl rfl rfl rfl rfl rfl hnt (hd) (lex (T := tab) tOk hnt rfl ?_ (Lex.nil _)))) ?_
  · (dsimp only [AllP]; (repeat' first | exact trivial | assumption | exact Nat.le_of_ble_eq_true rfl | apply And.intro | exact eCells_len1 _ _ ‹_› | exact eCells_isByte _ _ ‹_› | (intro hh_; have hg_ := hh_; (try simp only [condT_ff, condF_tt, notE_t, notE_f, Bool.and_eq_true, ne_eq, decide_eq_true_eq, decide_eq_false_iff_not] at hg_)) | intro _ | exact rfl | omega))
    all_goals trace_state
  · (dsimp only [AllP]; (repeat' first | exact trivial | assumption | exact Nat.le_of_ble_eq_true rfl | apply And.intro | exact eCells_len1 _ _ ‹_› | exact eCells_isByte _ _ ‹_› | (intro hh_; have hg_ := hh_; (try simp only [condT_ff, condF_tt, notE_t, notE_f, Bool.and_eq_true, ne_eq, decide_eq_true_eq, decide_eq_false_iff_not] at hg_)) | intro _ | exact rfl | omega))
  repeat' (first | refine tr_seq ?_ | refine reg (T := tab) tOk hnt rfl ?_ ?_ | refine regD (T := tab) tOk mixedR hnt rfl (by decide +kernel) ?_ ?_ | refine tr_block ?_ | refine tr_skip ?_)
  · (dsimp only [AllP]; (repeat' first | exact trivial | assumption | exact Nat.le_of_ble_eq_true rfl | apply And.intro | decide | intro _ | exact rfl))
  refine tr_ret ⟨.inr rfl, _, _, rfl, by (repeat' first | exact trivial | exact Nat.le_of_ble_eq_true rfl | apply And.intro), ?_⟩
  exact rfl
end Go.Proofs.YtphaholcndhonaaDoor
