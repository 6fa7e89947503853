/- deed.placed, the document's placeOf. No condition. -/
import Derived.Test.YtphaholcndhonaaDoorTDp
namespace Go.Proofs.YtphaholcndhonaaDoor
open Go Go.RowKit Go.Proofs.YtphaholcndhonaaDoor.Ab
set_option linter.unusedSimpArgs false
set_option linter.unusedVariables false

def plB (s : Sta) (user : Int) (name : Byt) (u i : Nat) (t : Tbl) : Bool := t.th && decide (t.n = name) && anyR s.g user u i
def plL (s : Sta) (user : Int) (name : Byt) (u : Nat) : Nat → List Tbl → Option Nat
  | _, [] => none
  | i, t :: r => bif plB s user name u i t then some i else plL s user name u (i + 1) r
def plF (s : Sta) (user owner : Int) (name : Byt) : Option Nat := if 0 ≤ owner ∧ owner < 3 then plL s user name owner.toNat 0 (s.t.getD owner.toNat []) else none
def rP : Option Nat → Int × Int
  | some i => ((i : Int), 0)
  | none => (0, 5)
def eP (x : Int × Int) : D := .tup [(false, .es [eI x.1]), (false, .es [eI x.2])]
theorem staL {s : Sta} (h : s.ok) {a : Nat} (ha : a < 3) : List.take 38 (List.drop (0 + 0 + (a : Int).toNat * 38) (eSta s)) = eLst (s.t.getD a []) := by
  have h1 := tsLen h
  have h2 := tsGet h ha
  unfold eSta
  rw [Int.toNat_natCast, show 0 + 0 + a * 38 = a * 38 by omega, List.drop_append_of_le_length (by omega), List.take_append_of_le_length (by rw [List.length_drop]; omega), h2]
theorem skC (t : Tbl) (name : Byt) : (bif !((eTab t).getD (0 + 0) E.dflt).bool then true else !strEq ((eTab t).getD (0 + 1) E.dflt).str (strB name)) = !(t.th && decide (t.n = name)) := by
  rw [eTab0, eTab1, strEq_B]
  cases t.th <;> cases decide (t.n = name) <;> rfl
theorem gtC {o i : Nat} (ho : o < 3) (hi : i < 2) (user : Int) (fr to rt : Int) (q : Nat) (op : Bool) (hq : q < 12) : (bif decide (to = user) then decide (IntKind.i64.wrap ((q : Int).tdiv 2) = IntKind.i64.wrap (IntKind.i64.wrap ((o : Int) * 2) + (i : Int))) else false) = gtP o o i user (fr, to, (q : Int), rt, op, ()) := by
  have e1 := quo2 q hq
  rw [wrap64_id (n := (o : Int) * 2) (by omega) (by omega), wrap64_id (n := (o : Int) * 2 + (i : Int)) (by omega) (by omega), e1]
  unfold gtP
  show _ = (decide (to = user) && decide (((q / 2 : Nat) : Int) = ((o * 2 + i : Nat) : Int)))
  rw [show ((o * 2 + i : Nat) : Int) = (o : Int) * 2 + (i : Int) by omega]
  cases decide (to = user) <;> rfl
set_option maxRecDepth 10000 in
set_option maxHeartbeats 2000000 in
theorem deedPlaced_fn (s : Sta) (h : s.ok) (hg : gfaultF s.g = 0) (user owner : Int) (name : Byt) : FnD Tryd.prog 66 [.agg (.es (eSta s)), .one (.e (eI user)), .one (.e (eI owner)), .one (.e (eT name))] (eP (rP (plF s user owner name))) := by
  refine fn_intro (T := tab) tOk Tryd.func66 rfl (by kernel_rfl) (by simp [Tryd.ntmps66]) ?_
  intro X hX
  have hnt : X.nt = 65 := hX
  clear hX
  obtain ⟨gl, gok⟩ := gfault_ok hg
  have h118 := staLen h
  have hG := staG h
  have t3 := h.t3
  have n114 : 0 + 114 < (Cs.es (eSta s)).len := by show _ < (eSta s).length; omega
  have hGa : D0.isA (K.slice 127) ((Cs.es (eSta s)).at (0 + 114)) := by
    show E.as (K.slice 127) ((eSta s).getD (0 + 114) E.dflt) = _
    rw [hG]
    rfl
  repeat' (first | refine tr_seq ?_ | refine tr_block ?_ | refine tr_skip ?_)
  first | refine reg (T := tab) tOk hnt rfl ?_ ?_ | refine regD (T := tab) tOk mixedR hnt rfl (by first | decide +kernel | kernel_rfl) ?_ ?_
  · (dsimp only [AllP]; (repeat' first | exact trivial | assumption | exact Nat.le_of_ble_eq_true rfl | apply And.intro | exact eCells_len1 _ _ ‹_› | exact eCells_isByte _ _ ‹_› | (intro hh_; have hg_ := hh_; (try simp only [condT_ff, condF_tt, notE_t, notE_f, Bool.and_eq_true, ne_eq, decide_eq_true_eq, decide_eq_false_iff_not] at hg_)) | intro _ | exact rfl | omega))
  repeat' (first | refine tr_seq ?_ | refine tr_block ?_ | refine tr_skip ?_)
  first | refine reg (T := tab) tOk hnt rfl ?_ ?_ | refine regD (T := tab) tOk mixedR hnt rfl (by first | decide +kernel | kernel_rfl) ?_ ?_
  · (dsimp only [AllP]; (repeat' first | exact trivial | assumption | exact Nat.le_of_ble_eq_true rfl | apply And.intro | exact eCells_len1 _ _ ‹_› | exact eCells_isByte _ _ ‹_› | (intro hh_; have hg_ := hh_; (try simp only [condT_ff, condF_tt, notE_t, notE_f, Bool.and_eq_true, ne_eq, decide_eq_true_eq, decide_eq_false_iff_not] at hg_)) | intro _ | exact rfl | omega))
  have hcx : ∀ x : Int, (bif decide (x < 0) then true else decide (x ≥ 3)) = !decide (0 ≤ x ∧ x < 3) := fun x => by
    by_cases h : x < 0
    · rw [decide_eq_true h, decide_eq_false (by omega : ¬ (0 ≤ x ∧ x < 3))]; rfl
    · rw [decide_eq_false h]
      by_cases h2 : x ≥ 3
      · rw [decide_eq_true h2, decide_eq_false (by omega : ¬ (0 ≤ x ∧ x < 3))]; rfl
      · rw [decide_eq_false h2, decide_eq_true (by omega : 0 ≤ x ∧ x < 3)]; rfl
  repeat' (first | refine tr_seq ?_ | refine tr_block ?_ | refine tr_skip ?_)
  refine tr_cond rfl (fun hc => ?_) (fun hc => ?_)
  · have hc : (!decide (0 ≤ owner ∧ owner < 3)) = true := (hcx owner).symm.trans hc
    rw [Bool.not_eq_true', decide_eq_false_iff_not] at hc
    rw [plF, if_neg hc]
    repeat' (first | refine tr_seq ?_ | refine reg (T := tab) tOk hnt rfl ?_ ?_ | refine regD (T := tab) tOk mixedR hnt rfl (by first | decide +kernel | kernel_rfl) ?_ ?_ | refine tr_block ?_ | refine tr_skip ?_)
    · (dsimp only [AllP]; (repeat' first | exact trivial | assumption | exact Nat.le_of_ble_eq_true rfl | apply And.intro | decide | intro _ | exact rfl))
    exact tr_ret ⟨.inr rfl, _, _, rfl, trivial, rfl⟩
  have hc : (!decide (0 ≤ owner ∧ owner < 3)) = false := (hcx owner).symm.trans hc
  rw [Bool.not_eq_false', decide_eq_true_eq] at hc
  rw [plF, if_pos hc]
  obtain ⟨o, rfl⟩ := Int.eq_ofNat_of_zero_le hc.1
  have ho : o < 3 := by omega
  rw [Int.toNat_natCast]
  have hsl := staL h ho
  have hlm : s.t.getD o [] ∈ s.t := getD_mem (by omega)
  have hl2 := h.l2 _ hlm
  have h38 := lstLen h hlm
  have htb := h.tb _ hlm
  have hlg := fun {j : Nat} (hj : j < 2) => lstGet h hlm hj
  have f1 : 0 + 0 + (o : Int).toNat * 38 + 38 ≤ (Cs.es (eSta s)).len := by rw [Int.toNat_natCast]; show _ ≤ (eSta s).length; omega
  have o0 := hc.1
  have o3 := hc.2
  repeat' (first | refine tr_seq ?_ | refine tr_block ?_ | refine tr_skip ?_)
  first | refine reg (T := tab) tOk hnt rfl ?_ ?_ | refine regD (T := tab) tOk mixedR hnt rfl (by first | decide +kernel | kernel_rfl) ?_ ?_
  · (dsimp only [AllP]; (repeat' first | exact trivial | assumption | exact Nat.le_of_ble_eq_true rfl | apply And.intro | exact eCells_len1 _ _ ‹_› | exact eCells_isByte _ _ ‹_› | (intro hh_; have hg_ := hh_; (try simp only [condT_ff, condF_tt, notE_t, notE_f, Bool.and_eq_true, ne_eq, decide_eq_true_eq, decide_eq_false_iff_not] at hg_)) | intro _ | exact rfl | omega))
  rw [hsl]
  generalize s.t.getD o [] = l at *
  repeat' (first | refine tr_seq ?_ | refine tr_block ?_ | refine tr_skip ?_)
  refine tr_loop (σ := Nat) (fun i => St.of [(1, .one (.e (eI user))), (2, .one (.e (eI (o : Int)))), (3, .one (.e (eT name))), (4, .one (.ptr 4 0 0)), (23, .agg (.es (eLst l))), (24, .one (.e (eI (i : Int))))] [(4, ⟨0, .box (.es (eSta s)), 0⟩)]) (fun i => plL s user name o i (l.drop i) = plL s user name o 0 l ∧ i ≤ 2) (fun i => 2 - i) (0) (le_of (ad := []) (by refine ⟨?_, ?_, ?_, ?_, ?_, ?_, trivial⟩ <;> first | exact trivial | rfl | exact ⟨rfl, rfl⟩ | exact ⟨rfl, rfl, rfl⟩ | exact ⟨rfl, rfl, rfl, rfl⟩ | exact ⟨rfl, rfl, rfl, rfl, rfl⟩ | exact congrArg (fun z : Int => E.v (.int .i64 z)) (wrap64_id (by omega) (by omega)) | exact congrArg (fun z : Int => E.v (.int .u8 z)) (by assumption) | exact congrArg (fun z : ByteArray => E.v (.string z)) (by assumption) | (refine ⟨rfl, ?_⟩; repeat' first | exact trivial | rfl | apply And.intro)) (memOk_box rfl rfl rfl trivial)) ⟨rfl, Nat.zero_le _⟩ ?_
  rintro i ⟨hi, il⟩
  repeat' (first | refine tr_seq ?_ | refine reg (T := tab) tOk hnt rfl ?_ ?_ | refine regD (T := tab) tOk mixedR hnt rfl (by first | decide +kernel | kernel_rfl) ?_ ?_ | refine tr_block ?_ | refine tr_skip ?_)
  · (dsimp only [AllP]; (repeat' first | exact trivial | assumption | exact Nat.le_of_ble_eq_true rfl | apply And.intro | decide | intro _ | exact rfl))
  repeat' (first | refine tr_seq ?_ | refine tr_block ?_ | refine tr_skip ?_)
  refine tr_cond rfl (fun hc => ?_) (fun hc => ?_)
  · simp only [condT_tt, condT_ff, condF_tt, condF_ff, notE_t, notE_f, decide_eq_true_eq, decide_eq_false_iff_not] at hc
    have hlt : i < l.length := by omega
    rw [drop_getD (d := tb0) hlt, plL] at hi
    have hg2 : List.take 19 (List.drop ((i : Int).toNat * 19) (eLst l)) = eTab (l.getD i tb0) := hlg (by omega)
    have htm : l.getD i tb0 ∈ l := getD_mem hlt
    have htok := htb _ htm
    have h19 := tabLen htok
    have e19 : (Cs.es (List.take 19 (List.drop ((i : Int).toNat * 19) (eLst l)))).len = 19 := by rw [hg2]; exact h19
    have l19 : i * 19 + 19 ≤ (Cs.es (eLst l)).len := by show _ ≤ (eLst l).length; rw [h38]; omega
    repeat' (first | refine tr_seq ?_ | refine tr_block ?_ | refine tr_skip ?_)
    first | refine reg (T := tab) tOk hnt rfl ?_ ?_ | refine regD (T := tab) tOk mixedR hnt rfl (by first | decide +kernel | kernel_rfl) ?_ ?_
    · (dsimp only [AllP]; (repeat' first | exact trivial | assumption | exact Nat.le_of_ble_eq_true rfl | apply And.intro | exact eCells_len1 _ _ ‹_› | exact eCells_isByte _ _ ‹_› | (intro hh_; have hg_ := hh_; (try simp only [condT_ff, condF_tt, notE_t, notE_f, Bool.and_eq_true, ne_eq, decide_eq_true_eq, decide_eq_false_iff_not] at hg_)) | intro _ | exact rfl | omega))
    rw [hg2]
    generalize l.getD i tb0 = t at *
    have f19 : 0 + 19 ≤ (Cs.es (eTab t)).len := by show 0 + 19 ≤ (eTab t).length; omega
    repeat' (first | refine tr_seq ?_ | refine tr_block ?_ | refine tr_skip ?_)
    first | refine reg (T := tab) tOk hnt rfl ?_ ?_ | refine regD (T := tab) tOk mixedR hnt rfl (by first | decide +kernel | kernel_rfl) ?_ ?_
    · (dsimp only [AllP]; (repeat' first | exact trivial | assumption | exact Nat.le_of_ble_eq_true rfl | apply And.intro | exact eCells_len1 _ _ ‹_› | exact eCells_isByte _ _ ‹_› | (intro hh_; have hg_ := hh_; (try simp only [condT_ff, condF_tt, notE_t, notE_f, Bool.and_eq_true, ne_eq, decide_eq_true_eq, decide_eq_false_iff_not] at hg_)) | intro _ | exact rfl | omega))
    repeat' (first | refine tr_seq ?_ | refine tr_block ?_ | refine tr_skip ?_)
    refine tr_cond rfl (fun hc => ?_) (fun hc => ?_)
    · have hc : (!(t.th && decide (t.n = name))) = true := (skC t name).symm.trans hc
      rw [Bool.not_eq_true'] at hc
      rw [plB, hc, Bool.false_and, cond_false] at hi
      refine tr_exit ?_
      repeat' (first | refine tr_seq ?_ | refine reg (T := tab) tOk hnt rfl ?_ ?_ | refine regD (T := tab) tOk mixedR hnt rfl (by first | decide +kernel | kernel_rfl) ?_ ?_ | refine tr_block ?_ | refine tr_skip ?_)
      · (dsimp only [AllP]; (repeat' first | exact trivial | assumption | exact Nat.le_of_ble_eq_true rfl | apply And.intro | decide | intro _ | exact rfl))
      refine ⟨i + 1, ⟨hi, by omega⟩, by omega, le_of (ad := []) (by refine ⟨?_, ?_, ?_, ?_, ?_, ?_, trivial⟩ <;> first | exact trivial | rfl | exact ⟨rfl, rfl⟩ | exact ⟨rfl, rfl, rfl⟩ | exact ⟨rfl, rfl, rfl, rfl⟩ | exact ⟨rfl, rfl, rfl, rfl, rfl⟩ | exact congrArg (fun z : Int => E.v (.int .i64 z)) (wrap64_id (by omega) (by omega)) | exact congrArg (fun z : Int => E.v (.int .u8 z)) (by assumption) | exact congrArg (fun z : ByteArray => E.v (.string z)) (by assumption) | (refine ⟨rfl, ?_⟩; repeat' first | exact trivial | rfl | apply And.intro)) (memOk_box rfl rfl rfl trivial)⟩
    have hc : (!(t.th && decide (t.n = name))) = false := (skC t name).symm.trans hc
    rw [Bool.not_eq_false'] at hc
    rw [plB, hc, Bool.true_and, anyR] at hi
    repeat' (first | refine tr_seq ?_ | refine reg (T := tab) tOk hnt rfl ?_ ?_ | refine regD (T := tab) tOk mixedR hnt rfl (by first | decide +kernel | kernel_rfl) ?_ ?_ | refine tr_block ?_ | refine tr_skip ?_)
    · (dsimp only [AllP]; (repeat' first | exact trivial | assumption | exact Nat.le_of_ble_eq_true rfl | apply And.intro | decide | intro _ | exact rfl))
    repeat' (first | refine tr_seq ?_ | refine tr_block ?_ | refine tr_skip ?_)
    refine tr_cond rfl (fun hc => ?_) (fun hc => ?_)
    · have hc : decide ((o : Int) = user) = true := hc
      rw [hc, Bool.true_or, cond_true] at hi
      rw [← hi]
      repeat' (first | refine tr_seq ?_ | refine reg (T := tab) tOk hnt rfl ?_ ?_ | refine regD (T := tab) tOk mixedR hnt rfl (by first | decide +kernel | kernel_rfl) ?_ ?_ | refine tr_block ?_ | refine tr_skip ?_)
      · (dsimp only [AllP]; (repeat' first | exact trivial | assumption | exact Nat.le_of_ble_eq_true rfl | apply And.intro | decide | intro _ | exact rfl))
      exact tr_ret ⟨.inr rfl, _, _, rfl, trivial, rfl⟩
    have hc : decide ((o : Int) = user) = false := hc
    rw [hc, Bool.false_or] at hi
    repeat' (first | refine tr_seq ?_ | refine tr_block ?_ | refine tr_skip ?_)
    first | refine reg (T := tab) tOk hnt rfl ?_ ?_ | refine regD (T := tab) tOk mixedR hnt rfl (by first | decide +kernel | kernel_rfl) ?_ ?_
    · (dsimp only [AllP]; (repeat' first | exact trivial | assumption | exact Nat.le_of_ble_eq_true rfl | apply And.intro | exact eCells_len1 _ _ ‹_› | exact eCells_isByte _ _ ‹_› | (intro hh_; have hg_ := hh_; (try simp only [condT_ff, condF_tt, notE_t, notE_f, Bool.and_eq_true, ne_eq, decide_eq_true_eq, decide_eq_false_iff_not] at hg_)) | intro _ | exact rfl | omega))
    rw [hG]
    have ml : ((eGrs s.g).xs.length : Int) = (s.g.length : Int) := by show ((s.g.map eGr).length : Int) = _; rw [List.length_map]
    rw [ml]
    repeat' (first | refine tr_seq ?_ | refine tr_block ?_ | refine tr_skip ?_)
    refine tr_loop (σ := Nat) (fun m => St.of [(1, .one (.e (eI user))), (2, .one (.e (eI (o : Int)))), (3, .one (.e (eT name))), (4, .one (.ptr 4 0 0)), (10, .one (.e (eI (i : Int)))), (23, .agg (.es (eLst l))), (24, .one (.e (eI (i : Int)))), (42, .one (.e (eGrs s.g))), (43, .one (.e (eI (s.g.length : Int)))), (44, .one (.e (eI (m : Int))))] [(4, ⟨0, .box (.es (eSta s)), 0⟩)]) (fun m => (s.g.drop m).any (gtP o o i user) = s.g.any (gtP o o i user) ∧ m ≤ s.g.length) (fun m => s.g.length - m) (0) (le_of (ad := []) (by refine ⟨?_, ?_, ?_, ?_, ?_, ?_, ?_, ?_, ?_, ?_, trivial⟩ <;> first | exact trivial | rfl | exact ⟨rfl, rfl⟩ | exact ⟨rfl, rfl, rfl⟩ | exact ⟨rfl, rfl, rfl, rfl⟩ | exact ⟨rfl, rfl, rfl, rfl, rfl⟩ | exact congrArg (fun z : Int => E.v (.int .i64 z)) (wrap64_id (by omega) (by omega)) | exact congrArg (fun z : Int => E.v (.int .u8 z)) (by assumption) | exact congrArg (fun z : ByteArray => E.v (.string z)) (by assumption) | (refine ⟨rfl, ?_⟩; repeat' first | exact trivial | rfl | apply And.intro)) (memOk_box rfl rfl rfl trivial)) ⟨rfl, Nat.zero_le _⟩ ?_
    rintro m ⟨hm, ml2⟩
    repeat' (first | refine tr_seq ?_ | refine reg (T := tab) tOk hnt rfl ?_ ?_ | refine regD (T := tab) tOk mixedR hnt rfl (by first | decide +kernel | kernel_rfl) ?_ ?_ | refine tr_block ?_ | refine tr_skip ?_)
    · (dsimp only [AllP]; (repeat' first | exact trivial | assumption | exact Nat.le_of_ble_eq_true rfl | apply And.intro | decide | intro _ | exact rfl))
    repeat' (first | refine tr_seq ?_ | refine tr_block ?_ | refine tr_skip ?_)
    refine tr_cond rfl (fun hc => ?_) (fun hc => ?_)
    · simp only [condT_tt, condT_ff, condF_tt, condF_ff, notE_t, notE_f, decide_eq_true_eq, decide_eq_false_iff_not] at hc
      have hmt : m < s.g.length := by omega
      have hlen : ((List.map eGr s.g).getD (m : Int).toNat []).length = 5 := by rw [Int.toNat_natCast, grGet s.g hmt]; rfl
      have l5 : (Cs.es (List.take 5 (List.drop 0 ((List.map eGr s.g).getD (m : Int).toNat [])))).len = 5 := by
        show (List.take 5 (List.drop 0 _)).length = 5
        rw [List.length_take, List.length_drop, hlen]
        rfl
      have l5b : 0 + 5 ≤ (Cs.es ((List.map eGr s.g).getD (m : Int).toNat [])).len := Nat.le_of_eq hlen.symm
      have mm : (m : Int) < ((s.g.map eGr).length : Int) := by rw [List.length_map]; omega
      repeat' (first | refine tr_seq ?_ | refine tr_block ?_ | refine tr_skip ?_)
      first | refine reg (T := tab) tOk hnt rfl ?_ ?_ | refine regD (T := tab) tOk mixedR hnt rfl (by first | decide +kernel | kernel_rfl) ?_ ?_
      · (dsimp only [AllP]; (repeat' first | exact trivial | assumption | exact Nat.le_of_ble_eq_true rfl | apply And.intro | exact eCells_len1 _ _ ‹_› | exact eCells_isByte _ _ ‹_› | (intro hh_; have hg_ := hh_; (try simp only [condT_ff, condF_tt, notE_t, notE_f, Bool.and_eq_true, ne_eq, decide_eq_true_eq, decide_eq_false_iff_not] at hg_)) | intro _ | exact rfl | omega))
      rw [box_store]
      rotate_left
      · exact hlen
      · rfl
      rw [Int.toNat_natCast, grGet s.g hmt]
      rw [drop_getD (d := gz) hmt, List.any_cons] at hm
      have hgo := gok _ (getD_mem (d := gz) hmt)
      generalize s.g.getD m gz = g at *
      obtain ⟨fr, to, ob, rt, op, ⟨⟩⟩ := g
      have ho1 : 0 ≤ ob := hgo.2.2.1
      have ho2 : ob < 12 := hgo.2.2.2
      obtain ⟨q, rfl⟩ := Int.eq_ofNat_of_zero_le ho1
      have hq : q < 12 := by omega
      repeat' (first | refine tr_seq ?_ | refine tr_block ?_ | refine tr_skip ?_)
      first | refine reg (T := tab) tOk hnt rfl ?_ ?_ | refine regD (T := tab) tOk mixedR hnt rfl (by first | decide +kernel | kernel_rfl) ?_ ?_
      · (dsimp only [AllP]; (repeat' first | exact trivial | assumption | exact Nat.le_of_ble_eq_true rfl | apply And.intro | exact eCells_len1 _ _ ‹_› | exact eCells_isByte _ _ ‹_› | (intro hh_; have hg_ := hh_; (try simp only [condT_ff, condF_tt, notE_t, notE_f, Bool.and_eq_true, ne_eq, decide_eq_true_eq, decide_eq_false_iff_not] at hg_)) | intro _ | exact rfl | omega))
      repeat' (first | refine tr_seq ?_ | refine tr_block ?_ | refine tr_skip ?_)
      refine tr_cond rfl (fun hc => ?_) (fun hc => ?_)
      · have hc : gtP o o i user (fr, to, (q : Int), rt, op, ()) = true := (gtC ho (by omega) user fr to rt q op hq).symm.trans hc
        rw [hc, Bool.true_or] at hm
        rw [← hm, cond_true] at hi
        rw [← hi]
        repeat' (first | refine tr_seq ?_ | refine reg (T := tab) tOk hnt rfl ?_ ?_ | refine regD (T := tab) tOk mixedR hnt rfl (by first | decide +kernel | kernel_rfl) ?_ ?_ | refine tr_block ?_ | refine tr_skip ?_)
        · (dsimp only [AllP]; (repeat' first | exact trivial | assumption | exact Nat.le_of_ble_eq_true rfl | apply And.intro | decide | intro _ | exact rfl))
        exact tr_ret ⟨.inr rfl, _, _, rfl, trivial, rfl⟩
      have hc : gtP o o i user (fr, to, (q : Int), rt, op, ()) = false := (gtC ho (by omega) user fr to rt q op hq).symm.trans hc
      rw [hc, Bool.false_or] at hm
      repeat' (first | refine tr_seq ?_ | refine reg (T := tab) tOk hnt rfl ?_ ?_ | refine regD (T := tab) tOk mixedR hnt rfl (by first | decide +kernel | kernel_rfl) ?_ ?_ | refine tr_block ?_ | refine tr_skip ?_)
      · (dsimp only [AllP]; (repeat' first | exact trivial | assumption | exact Nat.le_of_ble_eq_true rfl | apply And.intro | decide | intro _ | exact rfl))
      refine ⟨m + 1, ⟨hm, by omega⟩, by omega, le_of (ad := []) (by refine ⟨?_, ?_, ?_, ?_, ?_, ?_, ?_, ?_, ?_, ?_, trivial⟩ <;> first | exact trivial | rfl | exact ⟨rfl, rfl⟩ | exact ⟨rfl, rfl, rfl⟩ | exact ⟨rfl, rfl, rfl, rfl⟩ | exact ⟨rfl, rfl, rfl, rfl, rfl⟩ | exact congrArg (fun z : Int => E.v (.int .i64 z)) (wrap64_id (by omega) (by omega)) | exact congrArg (fun z : Int => E.v (.int .u8 z)) (by assumption) | exact congrArg (fun z : ByteArray => E.v (.string z)) (by assumption) | (refine ⟨rfl, ?_⟩; repeat' first | exact trivial | rfl | apply And.intro)) (memOk_box rfl rfl rfl trivial)⟩
    simp only [condT_tt, condT_ff, condF_tt, condF_ff, notE_t, notE_f, decide_eq_true_eq, decide_eq_false_iff_not] at hc
    refine tr_exit ?_
    rw [List.drop_eq_nil_of_le (by omega), List.any_nil] at hm
    rw [← hm, cond_false] at hi
    repeat' (first | refine tr_seq ?_ | refine reg (T := tab) tOk hnt rfl ?_ ?_ | refine regD (T := tab) tOk mixedR hnt rfl (by first | decide +kernel | kernel_rfl) ?_ ?_ | refine tr_block ?_ | refine tr_skip ?_)
    · (dsimp only [AllP]; (repeat' first | exact trivial | assumption | exact Nat.le_of_ble_eq_true rfl | apply And.intro | decide | intro _ | exact rfl))
    refine ⟨i + 1, ⟨hi, by omega⟩, by omega, le_of (ad := []) (by refine ⟨?_, ?_, ?_, ?_, ?_, ?_, trivial⟩ <;> first | exact trivial | rfl | exact ⟨rfl, rfl⟩ | exact ⟨rfl, rfl, rfl⟩ | exact ⟨rfl, rfl, rfl, rfl⟩ | exact ⟨rfl, rfl, rfl, rfl, rfl⟩ | exact congrArg (fun z : Int => E.v (.int .i64 z)) (wrap64_id (by omega) (by omega)) | exact congrArg (fun z : Int => E.v (.int .u8 z)) (by assumption) | exact congrArg (fun z : ByteArray => E.v (.string z)) (by assumption) | (refine ⟨rfl, ?_⟩; repeat' first | exact trivial | rfl | apply And.intro)) (memOk_box rfl rfl rfl trivial)⟩
  simp only [condT_tt, condT_ff, condF_tt, condF_ff, notE_t, notE_f, decide_eq_true_eq, decide_eq_false_iff_not] at hc
  refine tr_exit ?_
  rw [List.drop_eq_nil_of_le (by omega), plL] at hi
  rw [← hi]
  repeat' (first | refine tr_seq ?_ | refine reg (T := tab) tOk hnt rfl ?_ ?_ | refine regD (T := tab) tOk mixedR hnt rfl (by first | decide +kernel | kernel_rfl) ?_ ?_ | refine tr_block ?_ | refine tr_skip ?_)
  · (dsimp only [AllP]; (repeat' first | exact trivial | assumption | exact Nat.le_of_ble_eq_true rfl | apply And.intro | decide | intro _ | exact rfl))
  exact tr_ret ⟨.inr rfl, _, _, rfl, trivial, rfl⟩
set_option maxRecDepth 10000 in
set_option maxHeartbeats 2000000 in
theorem placeOf_fn (s : Sta) (h : s.ok) (hg : gfaultF s.g = 0) (user owner : Int) (name : Byt) : FnD Tryd.prog 67 [.agg (.es (eSta s)), .one (.e (eI user)), .one (.e (eI owner)), .one (.e (eT name))] (eP (rP (plF s user owner name))) := by
  refine fn_intro (T := tab) tOk Tryd.func67 rfl (by kernel_rfl) (by simp [Tryd.ntmps67]) ?_
  intro X hX
  have hnt : X.nt = 47 := hX
  clear hX
  have h118 := staLen h
  have t3 := h.t3
  have f118 : 0 + 118 ≤ (Cs.es (eSta s)).len := by show 0 + 118 ≤ (eSta s).length; omega
  repeat' (first | refine tr_seq ?_ | refine tr_block ?_ | refine tr_skip ?_)
  first | refine reg (T := tab) tOk hnt rfl ?_ ?_ | refine regD (T := tab) tOk mixedR hnt rfl (by first | decide +kernel | kernel_rfl) ?_ ?_
  · (dsimp only [AllP]; (repeat' first | exact trivial | assumption | exact Nat.le_of_ble_eq_true rfl | apply And.intro | exact eCells_len1 _ _ ‹_› | exact eCells_isByte _ _ ‹_› | (intro hh_; have hg_ := hh_; (try simp only [condT_ff, condF_tt, notE_t, notE_f, Bool.and_eq_true, ne_eq, decide_eq_true_eq, decide_eq_false_iff_not] at hg_)) | intro _ | exact rfl | omega))
  repeat' (first | refine tr_seq ?_ | refine tr_block ?_ | refine tr_skip ?_)
  first | refine reg (T := tab) tOk hnt rfl ?_ ?_ | refine regD (T := tab) tOk mixedR hnt rfl (by first | decide +kernel | kernel_rfl) ?_ ?_
  · (dsimp only [AllP]; (repeat' first | exact trivial | assumption | exact Nat.le_of_ble_eq_true rfl | apply And.intro | exact eCells_len1 _ _ ‹_› | exact eCells_isByte _ _ ‹_› | (intro hh_; have hg_ := hh_; (try simp only [condT_ff, condF_tt, notE_t, notE_f, Bool.and_eq_true, ne_eq, decide_eq_true_eq, decide_eq_false_iff_not] at hg_)) | intro _ | exact rfl | omega))
  repeat' (first | refine tr_seq ?_ | refine tr_block ?_ | refine tr_skip ?_)
  refine tr_loop (σ := Nat) (fun u => St.of [(1, .one (.e (eI user))), (2, .one (.e (eI owner))), (3, .one (.e (eT name))), (4, .one (.ptr 4 0 0)), (13, .one (.e (eI (u : Int))))] [(4, ⟨0, .box (.es (eSta s)), 0⟩)]) (fun u => (0 ≤ owner → owner < (u : Int) → plF s user owner name = none) ∧ u ≤ 3) (fun u => 3 - u) (0) (le_of (ad := []) (by refine ⟨?_, ?_, ?_, ?_, ?_, trivial⟩ <;> first | exact trivial | rfl | exact ⟨rfl, rfl⟩ | exact ⟨rfl, rfl, rfl⟩ | exact ⟨rfl, rfl, rfl, rfl⟩ | exact ⟨rfl, rfl, rfl, rfl, rfl⟩ | exact congrArg (fun z : Int => E.v (.int .i64 z)) (wrap64_id (by omega) (by omega)) | exact congrArg (fun z : Int => E.v (.int .u8 z)) (by assumption) | exact congrArg (fun z : ByteArray => E.v (.string z)) (by assumption) | (refine ⟨rfl, ?_⟩; repeat' first | exact trivial | rfl | apply And.intro)) (memOk_box rfl rfl rfl trivial)) ⟨fun _ _ => by omega, Nat.zero_le _⟩ ?_
  rintro u ⟨hu, ul⟩
  repeat' (first | refine tr_seq ?_ | refine reg (T := tab) tOk hnt rfl ?_ ?_ | refine regD (T := tab) tOk mixedR hnt rfl (by first | decide +kernel | kernel_rfl) ?_ ?_ | refine tr_block ?_ | refine tr_skip ?_)
  · (dsimp only [AllP]; (repeat' first | exact trivial | assumption | exact Nat.le_of_ble_eq_true rfl | apply And.intro | decide | intro _ | exact rfl))
  repeat' (first | refine tr_seq ?_ | refine tr_block ?_ | refine tr_skip ?_)
  refine tr_cond rfl (fun hc => ?_) (fun hc => ?_)
  · simp only [condT_tt, condT_ff, condF_tt, condF_ff, notE_t, notE_f, decide_eq_true_eq, decide_eq_false_iff_not] at hc
    have ho : u < 3 := by omega
    have hsl := staL h ho
    have hlm : s.t.getD u [] ∈ s.t := getD_mem (by omega)
    have hl2 := h.l2 _ hlm
    have h38 := lstLen h hlm
    have htb := h.tb _ hlm
    have hlg := fun {j : Nat} (hj : j < 2) => lstGet h hlm hj
    have f1 : 0 + 0 + (u : Int).toNat * 38 + 38 ≤ (Cs.es (eSta s)).len := by rw [Int.toNat_natCast]; show _ ≤ (eSta s).length; omega
    have hpl : (u : Int) = owner → plL s user name u 0 (s.t.getD u []) = plF s user owner name := by
      rintro rfl
      rw [plF, if_pos ⟨by omega, by omega⟩, Int.toNat_natCast]
    repeat' (first | refine tr_seq ?_ | refine tr_block ?_ | refine tr_skip ?_)
    first | refine reg (T := tab) tOk hnt rfl ?_ ?_ | refine regD (T := tab) tOk mixedR hnt rfl (by first | decide +kernel | kernel_rfl) ?_ ?_
    · (dsimp only [AllP]; (repeat' first | exact trivial | assumption | exact Nat.le_of_ble_eq_true rfl | apply And.intro | exact eCells_len1 _ _ ‹_› | exact eCells_isByte _ _ ‹_› | (intro hh_; have hg_ := hh_; (try simp only [condT_ff, condF_tt, notE_t, notE_f, Bool.and_eq_true, ne_eq, decide_eq_true_eq, decide_eq_false_iff_not] at hg_)) | intro _ | exact rfl | omega))
    repeat' (first | refine tr_seq ?_ | refine tr_block ?_ | refine tr_skip ?_)
    first | refine reg (T := tab) tOk hnt rfl ?_ ?_ | refine regD (T := tab) tOk mixedR hnt rfl (by first | decide +kernel | kernel_rfl) ?_ ?_
    · (dsimp only [AllP]; (repeat' first | exact trivial | assumption | exact Nat.le_of_ble_eq_true rfl | apply And.intro | exact eCells_len1 _ _ ‹_› | exact eCells_isByte _ _ ‹_› | (intro hh_; have hg_ := hh_; (try simp only [condT_ff, condF_tt, notE_t, notE_f, Bool.and_eq_true, ne_eq, decide_eq_true_eq, decide_eq_false_iff_not] at hg_)) | intro _ | exact rfl | omega))
    rw [hsl]
    generalize s.t.getD u [] = l at *
    repeat' (first | refine tr_seq ?_ | refine tr_block ?_ | refine tr_skip ?_)
    refine tr_loop (σ := Nat) (fun i => St.of [(1, .one (.e (eI user))), (2, .one (.e (eI owner))), (3, .one (.e (eT name))), (4, .one (.ptr 4 0 0)), (10, .one (.e (eI (u : Int)))), (13, .one (.e (eI (u : Int)))), (19, .agg (.es (eLst l))), (20, .one (.e (eI (i : Int))))] [(4, ⟨0, .box (.es (eSta s)), 0⟩)]) (fun i => ((u : Int) = owner → plL s user name u i (l.drop i) = plF s user owner name) ∧ i ≤ 2) (fun i => 2 - i) (0) (le_of (ad := []) (by refine ⟨?_, ?_, ?_, ?_, ?_, ?_, ?_, ?_, trivial⟩ <;> first | exact trivial | rfl | exact ⟨rfl, rfl⟩ | exact ⟨rfl, rfl, rfl⟩ | exact ⟨rfl, rfl, rfl, rfl⟩ | exact ⟨rfl, rfl, rfl, rfl, rfl⟩ | exact congrArg (fun z : Int => E.v (.int .i64 z)) (wrap64_id (by omega) (by omega)) | exact congrArg (fun z : Int => E.v (.int .u8 z)) (by assumption) | exact congrArg (fun z : ByteArray => E.v (.string z)) (by assumption) | (refine ⟨rfl, ?_⟩; repeat' first | exact trivial | rfl | apply And.intro)) (memOk_box rfl rfl rfl trivial)) ⟨hpl, Nat.zero_le _⟩ ?_
    rintro i ⟨hi, il⟩
    repeat' (first | refine tr_seq ?_ | refine reg (T := tab) tOk hnt rfl ?_ ?_ | refine regD (T := tab) tOk mixedR hnt rfl (by first | decide +kernel | kernel_rfl) ?_ ?_ | refine tr_block ?_ | refine tr_skip ?_)
    · (dsimp only [AllP]; (repeat' first | exact trivial | assumption | exact Nat.le_of_ble_eq_true rfl | apply And.intro | decide | intro _ | exact rfl))
    repeat' (first | refine tr_seq ?_ | refine tr_block ?_ | refine tr_skip ?_)
    refine tr_cond rfl (fun hc => ?_) (fun hc => ?_)
    · simp only [condT_tt, condT_ff, condF_tt, condF_ff, notE_t, notE_f, decide_eq_true_eq, decide_eq_false_iff_not] at hc
      have hlt : i < l.length := by omega
      rw [drop_getD (d := tb0) hlt, plL] at hi
      have hg2 : List.take 19 (List.drop ((i : Int).toNat * 19) (eLst l)) = eTab (l.getD i tb0) := hlg (by omega)
      have htm : l.getD i tb0 ∈ l := getD_mem hlt
      have htok := htb _ htm
      have h19 := tabLen htok
      have e19 : (Cs.es (List.take 19 (List.drop ((i : Int).toNat * 19) (eLst l)))).len = 19 := by rw [hg2]; exact h19
      have l19 : i * 19 + 19 ≤ (Cs.es (eLst l)).len := by show _ ≤ (eLst l).length; rw [h38]; omega
      repeat' (first | refine tr_seq ?_ | refine tr_block ?_ | refine tr_skip ?_)
      first | refine reg (T := tab) tOk hnt rfl ?_ ?_ | refine regD (T := tab) tOk mixedR hnt rfl (by first | decide +kernel | kernel_rfl) ?_ ?_
      · (dsimp only [AllP]; (repeat' first | exact trivial | assumption | exact Nat.le_of_ble_eq_true rfl | apply And.intro | exact eCells_len1 _ _ ‹_› | exact eCells_isByte _ _ ‹_› | (intro hh_; have hg_ := hh_; (try simp only [condT_ff, condF_tt, notE_t, notE_f, Bool.and_eq_true, ne_eq, decide_eq_true_eq, decide_eq_false_iff_not] at hg_)) | intro _ | exact rfl | omega))
      rw [hg2]
      generalize l.getD i tb0 = t at *
      have f19 : 0 + 19 ≤ (Cs.es (eTab t)).len := by show 0 + 19 ≤ (eTab t).length; omega
      have h1 := anyRight_fn s h hg user u i ho (by omega)
      rw [← show List.take 118 (List.drop 0 (eSta s)) = eSta s from List.take_of_length_le (Nat.le_of_eq h118)] at h1
      repeat' (first | refine tr_seq ?_ | refine tr_block ?_ | refine tr_skip ?_)
      refine tr_region (lex (T := tab) tOk hnt rfl ?_ (callG rfl rfl rfl rfl rfl rfl hnt rfl (fun hq => ?_) (fun hq => h1) (lex (T := tab) tOk hnt rfl ?_ (Lex.nil _)))) ?_
      · (dsimp only [AllP]; (repeat' first | exact trivial | assumption | exact Nat.le_of_ble_eq_true rfl | apply And.intro | exact eCells_len1 _ _ ‹_› | exact eCells_isByte _ _ ‹_› | (intro hh_; have hg_ := hh_; (try simp only [condT_ff, condF_tt, notE_t, notE_f, Bool.and_eq_true, ne_eq, decide_eq_true_eq, decide_eq_false_iff_not] at hg_)) | intro _ | exact rfl | omega))
      · (dsimp only [AllP]; (repeat' first | exact trivial | assumption | exact Nat.le_of_ble_eq_true rfl | apply And.intro | exact eCells_len1 _ _ ‹_› | exact eCells_isByte _ _ ‹_› | (intro hh_; have hg_ := hh_; (try simp only [condT_ff, condF_tt, notE_t, notE_f, Bool.and_eq_true, ne_eq, decide_eq_true_eq, decide_eq_false_iff_not] at hg_)) | intro _ | exact rfl | omega))
      · (dsimp only [AllP]; (repeat' first | exact trivial | assumption | exact Nat.le_of_ble_eq_true rfl | apply And.intro | exact eCells_len1 _ _ ‹_› | exact eCells_isByte _ _ ‹_› | (intro hh_; have hg_ := hh_; (try simp only [condT_ff, condF_tt, notE_t, notE_f, Bool.and_eq_true, ne_eq, decide_eq_true_eq, decide_eq_false_iff_not] at hg_)) | intro _ | exact rfl | omega))
      have hcx : (bif (bif (bif decide ((u : Int) = owner) then ((eTab t).getD (0 + 0) E.dflt).bool else false) then strEq ((eTab t).getD (0 + 1) E.dflt).str (strB name) else false) then anyR s.g user u i else false) = (decide ((u : Int) = owner) && plB s user name u i t) := by
        rw [eTab0, eTab1, strEq_B]
        unfold plB
        cases decide ((u : Int) = owner) <;> cases t.th <;> cases decide (t.n = name) <;> rfl
      repeat' (first | refine tr_seq ?_ | refine tr_block ?_ | refine tr_skip ?_)
      refine tr_cond rfl (fun hc => ?_) (fun hc => ?_)
      · have hc : (decide ((u : Int) = owner) && plB s user name u i t) = true := hcx.symm.trans hc
        rw [Bool.and_eq_true, decide_eq_true_eq] at hc
        have hi := hi hc.1
        rw [hc.2, cond_true] at hi
        rw [← hi]
        repeat' (first | refine tr_seq ?_ | refine reg (T := tab) tOk hnt rfl ?_ ?_ | refine regD (T := tab) tOk mixedR hnt rfl (by first | decide +kernel | kernel_rfl) ?_ ?_ | refine tr_block ?_ | refine tr_skip ?_)
        · (dsimp only [AllP]; (repeat' first | exact trivial | assumption | exact Nat.le_of_ble_eq_true rfl | apply And.intro | decide | intro _ | exact rfl))
        exact tr_ret ⟨.inr rfl, _, _, rfl, trivial, rfl⟩
      have hc : (decide ((u : Int) = owner) && plB s user name u i t) = false := hcx.symm.trans hc
      repeat' (first | refine tr_seq ?_ | refine reg (T := tab) tOk hnt rfl ?_ ?_ | refine regD (T := tab) tOk mixedR hnt rfl (by first | decide +kernel | kernel_rfl) ?_ ?_ | refine tr_block ?_ | refine tr_skip ?_)
      · (dsimp only [AllP]; (repeat' first | exact trivial | assumption | exact Nat.le_of_ble_eq_true rfl | apply And.intro | decide | intro _ | exact rfl))
      refine ⟨i + 1, ⟨fun e => by have hi := hi e; rw [decide_eq_true e, Bool.true_and] at hc; rw [hc, cond_false] at hi; exact hi, by omega⟩, by omega, le_of (ad := []) (by refine ⟨?_, ?_, ?_, ?_, ?_, ?_, ?_, ?_, trivial⟩ <;> first | exact trivial | rfl | exact ⟨rfl, rfl⟩ | exact ⟨rfl, rfl, rfl⟩ | exact ⟨rfl, rfl, rfl, rfl⟩ | exact ⟨rfl, rfl, rfl, rfl, rfl⟩ | exact congrArg (fun z : Int => E.v (.int .i64 z)) (wrap64_id (by omega) (by omega)) | exact congrArg (fun z : Int => E.v (.int .u8 z)) (by assumption) | exact congrArg (fun z : ByteArray => E.v (.string z)) (by assumption) | (refine ⟨rfl, ?_⟩; repeat' first | exact trivial | rfl | apply And.intro)) (memOk_box rfl rfl rfl trivial)⟩
    simp only [condT_tt, condT_ff, condF_tt, condF_ff, notE_t, notE_f, decide_eq_true_eq, decide_eq_false_iff_not] at hc
    refine tr_exit ?_
    rw [List.drop_eq_nil_of_le (by omega), plL] at hi
    repeat' (first | refine tr_seq ?_ | refine reg (T := tab) tOk hnt rfl ?_ ?_ | refine regD (T := tab) tOk mixedR hnt rfl (by first | decide +kernel | kernel_rfl) ?_ ?_ | refine tr_block ?_ | refine tr_skip ?_)
    · (dsimp only [AllP]; (repeat' first | exact trivial | assumption | exact Nat.le_of_ble_eq_true rfl | apply And.intro | decide | intro _ | exact rfl))
    refine ⟨u + 1, ⟨fun h0 h1 => by rcases Int.lt_or_le owner (u : Int) with h2 | h2; exact hu h0 h2; exact (hi (by omega)).symm, by omega⟩, by omega, le_of (ad := []) (by refine ⟨?_, ?_, ?_, ?_, ?_, trivial⟩ <;> first | exact trivial | rfl | exact ⟨rfl, rfl⟩ | exact ⟨rfl, rfl, rfl⟩ | exact ⟨rfl, rfl, rfl, rfl⟩ | exact ⟨rfl, rfl, rfl, rfl, rfl⟩ | exact congrArg (fun z : Int => E.v (.int .i64 z)) (wrap64_id (by omega) (by omega)) | exact congrArg (fun z : Int => E.v (.int .u8 z)) (by assumption) | exact congrArg (fun z : ByteArray => E.v (.string z)) (by assumption) | (refine ⟨rfl, ?_⟩; repeat' first | exact trivial | rfl | apply And.intro)) (memOk_box rfl rfl rfl trivial)⟩
  simp only [condT_tt, condT_ff, condF_tt, condF_ff, notE_t, notE_f, decide_eq_true_eq, decide_eq_false_iff_not] at hc
  refine tr_exit ?_
  have hn : plF s user owner name = none := by
    by_cases h0 : 0 ≤ owner ∧ owner < 3
    · exact hu h0.1 (by omega)
    · rw [plF, if_neg h0]
  rw [hn]
  repeat' (first | refine tr_seq ?_ | refine reg (T := tab) tOk hnt rfl ?_ ?_ | refine regD (T := tab) tOk mixedR hnt rfl (by first | decide +kernel | kernel_rfl) ?_ ?_ | refine tr_block ?_ | refine tr_skip ?_)
  · (dsimp only [AllP]; (repeat' first | exact trivial | assumption | exact Nat.le_of_ble_eq_true rfl | apply And.intro | decide | intro _ | exact rfl))
  exact tr_ret ⟨.inr rfl, _, _, rfl, trivial, rfl⟩
end Go.Proofs.YtphaholcndhonaaDoor
