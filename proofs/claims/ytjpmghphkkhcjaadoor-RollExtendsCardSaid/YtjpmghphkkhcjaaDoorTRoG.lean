/- Rolls: what is told of two heads. No condition. -/
import Derived.Test.YtjpmghphkkhcjaaDoorTRoF
namespace Go.Proofs.YtjpmghphkkhcjaaDoor
open Go Go.RowKit Go.Proofs.YtjpmghphkkhcjaaDoor.Ab

def extP (mode : Int) : Nat → List Byt → Nat → Bool → List Byt
  | 0, _, _, _ => []
  | f + 1, l, m, kn => if m = l.length then (if kn = true then [] else [rvL mode l]) else extP mode f (pin (decide (m ≤ hf l.length)) l) (if m ≤ hf l.length then m else m - hf l.length) (if m ≤ hf l.length then kn else false) ++ [rvL mode (pin (!decide (m ≤ hf l.length)) l)]
theorem extP_len (mode : Int) : ∀ (f : Nat) (l : List Byt) (m : Nat) (kn : Bool), 1 ≤ m → m ≤ l.length → l.length ≤ f → (extP mode f l m kn).length ≤ f
  | 0, _, _, _, _, _, _ => Nat.zero_le _
  | f + 1, l, m, kn, h1, h2, h => by
    rw [extP]
    split
    · split
      · exact Nat.zero_le _
      · exact Nat.succ_le_succ (Nat.zero_le _)
    · have h3 : 2 ≤ l.length := by omega
      have p1 := pin_len (decide (m ≤ hf l.length)) h3
      have p2 := pin_lt (decide (m ≤ hf l.length)) h3
      have := extP_len mode f (pin (decide (m ≤ hf l.length)) l) (if m ≤ hf l.length then m else m - hf l.length) (if m ≤ hf l.length then kn else false) (by split <;> omega) (by
        rw [p1]
        by_cases hm : m ≤ hf l.length
        · rw [if_pos hm, decide_eq_true hm]; exact hm
        · rw [if_neg hm, decide_eq_false hm]
          show m - hf l.length ≤ l.length - hf l.length
          omega) (by omega)
      rw [List.length_append, List.length_singleton]
      omega
def rLE30 : D := .tup [(false, .ds [.own 30 0]), (false, .es [eI 0])]
set_option maxRecDepth 10000 in
theorem extend_succ (mode : Int) (hm : ¬ (mode ≠ 1 ∧ mode ≠ 2)) (f : Nat) (ih : ∀ (l : List Byt) (m : Nat) (kn : Bool), 1 ≤ m → m ≤ l.length → l.length ≤ f → l.length ≤ 64 → Gl mode l → FnO Tryd.prog 69 gK [.one (.e (eI mode)), .one (.e (eLists l)), .one (.e (eI (m : Int))), .one (.e (.v (.bool kn)))] rLE30 [(30, ⟨0, .row 1 (eLs (extP mode f l m kn)), 0⟩)]) (l : List Byt) (m : Nat) (kn : Bool) (h1 : 1 ≤ m) (hml : m ≤ l.length) (hlf : l.length ≤ f + 1) (hf64 : f + 1 ≤ 64) (hl64 : l.length ≤ 64) (hg : Gl mode l) : FnO Tryd.prog 69 gK [.one (.e (eI mode)), .one (.e (eLists l)), .one (.e (eI (m : Int))), .one (.e (.v (.bool kn)))] (rLE30) [(30, ⟨0, .row 1 (eLs (extP mode (f + 1) l m kn)), 0⟩)] := by
  refine fn_introO (T := tab) tOk Tryd.func69 rfl (by kernel_rfl) (by simp [Tryd.ntmps69]) ?_
  intro X hX
  have hnt : X.nt = 74 := hX
  clear hX
  have hll := lsLen l
  rw [extP]
  repeat' (first | refine tr_seq ?_ | refine reg (T := tab) tOk hnt rfl ?_ ?_ | refine regD (T := tab) tOk mixedR hnt rfl (by decide +kernel) ?_ ?_ | refine tr_block ?_ | refine tr_skip ?_)
  · (dsimp only [AllP]; (repeat' first | exact trivial | assumption | exact Nat.le_of_ble_eq_true rfl | apply And.intro | decide | intro _ | exact rfl))
  · (dsimp only [AllP]; (repeat' first | exact trivial | assumption | exact Nat.le_of_ble_eq_true rfl | apply And.intro | decide | intro _ | exact rfl))
  repeat' (first | refine tr_seq ?_ | refine tr_block ?_ | refine tr_skip ?_)
  refine tr_cond rfl (fun hc => ?_) (fun hc => ?_)
  · have hc : (m : Int) = ((l.map fun p => [eBytes p]).length : Int) := of_decide_eq_true hc
    rw [if_pos (by omega)]
    repeat' (first | refine tr_seq ?_ | refine reg (T := tab) tOk hnt rfl ?_ ?_ | refine regD (T := tab) tOk mixedR hnt rfl (by decide +kernel) ?_ ?_ | refine tr_block ?_ | refine tr_skip ?_)
    · (dsimp only [AllP]; (repeat' first | exact trivial | assumption | exact Nat.le_of_ble_eq_true rfl | apply And.intro | decide | intro _ | exact rfl))
    cases kn with
    | true =>
      refine tr_cond rfl (fun _ => ?_) (fun h => nomatch (show true = false from h))
      rw [if_pos rfl]
      repeat' (first | refine tr_seq ?_ | refine reg (T := tab) tOk hnt rfl ?_ ?_ | refine regD (T := tab) tOk mixedR hnt rfl (by decide +kernel) ?_ ?_ | refine tr_block ?_ | refine tr_skip ?_)
      · (dsimp only [AllP]; (repeat' first | exact trivial | assumption | exact Nat.le_of_ble_eq_true rfl | apply And.intro | decide | intro _ | exact rfl))
      exact tr_ret ⟨.inr rfl, _, _, _, rfl, trivial, rfl, fun X => le_two (ad := [30]) (.ds [.nil]) (.es [eI 0]) (.ds [.own 30 0]) (.es [eI 0]) .nil (.e (eI 0)) (.own 30 0) (.e (eI 0)) rfl rfl rfl rfl ⟨⟨rfl, rfl⟩, rfl, trivial⟩ (memOk_new rfl (by decide) trivial)⟩
    | false =>
      refine tr_cond rfl (fun h => nomatch (show false = true from h)) (fun _ => ?_)
      rw [if_neg (by simp)]
      have hR := rootG_fn hm (ne_of_len (show 1 ≤ l.length by omega)) hl64 hg
      generalize rvL mode l = d at *
      repeat' (first | refine tr_seq ?_ | refine tr_block ?_ | refine tr_skip ?_)
      refine tr_region (lex (T := tab) tOk hnt rfl ?_ (callV rfl rfl rfl rfl rfl rfl rfl hnt rfl (hR) (lex (T := tab) tOk hnt rfl ?_ (Lex.nil _)))) ?_
      · (dsimp only [AllP]; (repeat' first | exact trivial | assumption | exact Nat.le_of_ble_eq_true rfl | apply And.intro | decide | intro _ | exact rfl))
      · (dsimp only [AllP]; (repeat' first | exact trivial | assumption | exact Nat.le_of_ble_eq_true rfl | apply And.intro | decide | intro _ | exact rfl))
      repeat' (first | refine tr_seq ?_ | refine reg (T := tab) tOk hnt rfl ?_ ?_ | refine regD (T := tab) tOk mixedR hnt rfl (by decide +kernel) ?_ ?_ | refine tr_block ?_ | refine tr_skip ?_)
      · (dsimp only [AllP]; (repeat' first | exact trivial | assumption | exact Nat.le_of_ble_eq_true rfl | apply And.intro | exact eCells_len1 _ _ ‹_› | exact eCells_isByte _ _ ‹_› | intro _ | exact rfl | omega))
      exact tr_ret ⟨.inr rfl, _, _, _, rfl, trivial, rfl, fun X => le_two (ad := []) (.ds [.own 30 0]) (.es [eI 0]) (.ds [.own 30 0]) (.es [eI 0]) (.own 30 0) (.e (eI 0)) (.own 30 0) (.e (eI 0)) rfl rfl rfl rfl ⟨⟨rfl, rfl, rfl, rfl⟩, rfl, trivial⟩ (memOk_row rfl rfl rfl trivial)⟩
  have hc : ¬ (m : Int) = ((l.map fun p => [eBytes p]).length : Int) := of_decide_eq_false hc
  have h2 : 2 ≤ l.length := by omega
  have hh := hf_lt h2
  rw [if_neg (by omega)]
  have a0 : (hf l.length : Int) ≤ ((l.map fun p => [eBytes p]).length : Int) := by omega
  have a01 : (0 : Int) ≤ (hf l.length : Int) := by omega
  have a3 := lsOne l
  have hfn : FnD Tryd.prog 76 [.one (.e (eI ((l.map fun p => [eBytes p]).length : Int)))] (.one (.e (eI (hf l.length : Int)))) := by
    rw [hll]
    exact half_fn l.length hl64
  have hrt := fun b => rootG_fn hm (ne_of_len (pin_lt b h2).1) (by have := (pin_lt b h2).2; omega) (pin_gl b h2 hl64 hg)
  have hih := fun b j kn hj0 hj => ih (pin b l) j kn hj0 hj (by have := (pin_lt b h2).2; omega) (by have := (pin_lt b h2).2; omega) (pin_gl b h2 hl64 hg)
  have hpl1 := fun b j kn hj0 hj => extP_len mode f (pin b l) j kn hj0 hj (by have := (pin_lt b h2).2; omega)
  have lT := lsTake l (hf l.length)
  have lD := lsDrop l (hf l.length)
  have pl1 : (pin true l).length = hf l.length := pin_len true h2
  have pl2 : (pin false l).length = l.length - hf l.length := pin_len false h2
  repeat' (first | refine tr_seq ?_ | refine tr_block ?_ | refine tr_skip ?_)
  refine tr_region (lex (T := tab) tOk hnt rfl ?_ (call rfl rfl rfl rfl rfl rfl rfl hnt (hfn) (lex (T := tab) tOk hnt rfl ?_ (Lex.nil _)))) ?_
  · (dsimp only [AllP]; (repeat' first | exact trivial | assumption | exact Nat.le_of_ble_eq_true rfl | apply And.intro | decide | intro _ | exact rfl))
  · (dsimp only [AllP]; (repeat' first | exact trivial | assumption | exact Nat.le_of_ble_eq_true rfl | apply And.intro | decide | intro _ | exact rfl))
  repeat' (first | refine tr_seq ?_ | refine reg (T := tab) tOk hnt rfl ?_ ?_ | refine regD (T := tab) tOk mixedR hnt rfl (by decide +kernel) ?_ ?_ | refine tr_block ?_ | refine tr_skip ?_)
  · (dsimp only [AllP]; (repeat' first | exact trivial | assumption | exact Nat.le_of_ble_eq_true rfl | apply And.intro | exact eCells_len1 _ _ ‹_› | exact eCells_isByte _ _ ‹_› | intro _ | exact rfl | omega))
  · (dsimp only [AllP]; (repeat' first | exact trivial | assumption | exact Nat.le_of_ble_eq_true rfl | apply And.intro | decide | intro _ | exact rfl))
  repeat' (first | refine tr_seq ?_ | refine tr_block ?_ | refine tr_skip ?_)
  refine tr_cond rfl (fun hc => ?_) (fun hc => ?_)
  · have hc : (hf l.length : Int) < (m : Int) := of_decide_eq_true hc
    have hc : ¬ m ≤ hf l.length := by omega
    have hwi : IntKind.i64.wrap ((m : Int) - (hf l.length : Int)) = ((m - hf l.length : Nat) : Int) := by
      rw [wrap64_id (by omega) (by omega)]
      omega
    have hI := hih false (m - hf l.length) false (by omega) (by omega)
    have hR := hrt true
    have hpl := hpl1 false (m - hf l.length) false (by omega) (by omega)
    rw [show eLists (pin false l) = _ from lD, ← hwi] at hI
    rw [show eLists (pin true l) = _ from lT] at hR
    simp only [if_neg hc, decide_eq_false hc, Bool.not_false]
    generalize extP mode f (pin false l) (m - hf l.length) false = ps at *
    generalize rvL mode (pin true l) = d at *
    have hpl : (eLs ps).length ≤ 64 := by rw [List.length_map]; omega
    repeat' (first | refine tr_seq ?_ | refine reg (T := tab) tOk hnt rfl ?_ ?_ | refine regD (T := tab) tOk mixedR hnt rfl (by decide +kernel) ?_ ?_ | refine tr_block ?_ | refine tr_skip ?_)
    · (dsimp only [AllP]; (repeat' first | exact trivial | assumption | exact Nat.le_of_ble_eq_true rfl | apply And.intro | decide | intro _ | exact rfl))
    repeat' (first | refine tr_seq ?_ | refine tr_block ?_ | refine tr_skip ?_)
    refine tr_region (lex (T := tab) tOk hnt rfl ?_ (callO (base := 0) rfl rfl rfl rfl rfl rfl rfl hnt rfl rfl (hI) rfl (lex (T := tab) tOk hnt rfl ?_ (Lex.nil _)))) ?_
    · (dsimp only [AllP]; (repeat' first | exact trivial | assumption | exact Nat.le_of_ble_eq_true rfl | apply And.intro | exact eCells_len1 _ _ ‹_› | exact eCells_isByte _ _ ‹_› | intro _ | exact rfl | omega))
    · (dsimp only [AllP]; (repeat' first | exact trivial | assumption | exact Nat.le_of_ble_eq_true rfl | apply And.intro | decide | intro _ | exact rfl))
    repeat' (first | refine tr_seq ?_ | refine reg (T := tab) tOk hnt rfl ?_ ?_ | refine regD (T := tab) tOk mixedR hnt rfl (by decide +kernel) ?_ ?_ | refine tr_block ?_ | refine tr_skip ?_)
    · (dsimp only [AllP]; (repeat' first | exact trivial | assumption | exact Nat.le_of_ble_eq_true rfl | apply And.intro | decide | intro _ | exact rfl))
    refine tr_cond rfl (fun h => nomatch (show false = true from h)) (fun _ => ?_)
    repeat' (first | refine tr_seq ?_ | refine tr_block ?_ | refine tr_skip ?_)
    refine tr_region (lex (T := tab) tOk hnt rfl ?_ (callV rfl rfl rfl rfl rfl rfl rfl hnt rfl (hR) (lex (T := tab) tOk hnt rfl ?_ (Lex.nil _)))) ?_
    · (dsimp only [AllP]; (repeat' first | exact trivial | assumption | exact Nat.le_of_ble_eq_true rfl | apply And.intro | exact eCells_len1 _ _ ‹_› | exact eCells_isByte _ _ ‹_› | intro _ | exact rfl | omega))
    · (dsimp only [AllP]; (repeat' first | exact trivial | assumption | exact Nat.le_of_ble_eq_true rfl | apply And.intro | decide | intro _ | exact rfl))
    repeat' (first | refine tr_seq ?_ | refine reg (T := tab) tOk hnt rfl ?_ ?_ | refine regD (T := tab) tOk mixedR hnt rfl (by decide +kernel) ?_ ?_ | refine tr_block ?_ | refine tr_skip ?_)
    · (dsimp only [AllP]; (repeat' first | exact trivial | assumption | exact Nat.le_of_ble_eq_true rfl | apply And.intro | decide | intro _ | exact rfl))
    refine tr_cond rfl (fun h => nomatch (show false = true from h)) (fun _ => ?_)
    repeat' (first | refine tr_seq ?_ | refine reg (T := tab) tOk hnt rfl ?_ ?_ | refine regD (T := tab) tOk mixedR hnt rfl (by decide +kernel) ?_ ?_ | refine tr_block ?_ | refine tr_skip ?_)
    · (dsimp only [AllP]; (repeat' first | exact trivial | assumption | exact Nat.le_of_ble_eq_true rfl | apply And.intro | exact eCells_len1 _ _ ‹_› | exact eCells_isByte _ _ ‹_› | intro _ | exact rfl | omega | exact Nat.le_trans (Nat.add_le_add_right hpl 1) (by decide) | exact Nat.le_trans (Nat.mul_le_mul_right _ (Nat.add_le_add_right hpl 1)) (by decide) | exact Nat.le_trans (Nat.add_le_add_left hpl 0) (by decide) | exact Nat.le_trans (Nat.mul_le_mul_right _ (Nat.add_le_add_left hpl 0)) (by decide)))
    exact tr_ret ⟨.inr rfl, _, _, _, rfl, trivial, rfl, fun X => le_two (ad := []) (.ds [.own 30 1]) (.es [eI 0]) (.ds [.own 30 0]) (.es [eI 0]) (.own 30 1) (.e (eI 0)) (.own 30 0) (.e (eI 0)) rfl rfl rfl rfl ⟨⟨rfl, rfl, rfl, rfl⟩, rfl, trivial⟩ (memOk_row rfl rfl (eLs_snoc ps d) trivial)⟩
  have hc : ¬ (hf l.length : Int) < (m : Int) := of_decide_eq_false hc
  have hc : m ≤ hf l.length := by omega
  have hI := hih true m kn (by omega) (by omega)
  have hR := hrt false
  have hpl := hpl1 true m kn (by omega) (by omega)
  rw [show eLists (pin true l) = _ from lT] at hI
  rw [show eLists (pin false l) = _ from lD] at hR
  simp only [if_pos hc, decide_eq_true hc, Bool.not_true]
  generalize extP mode f (pin true l) m kn = ps at *
  generalize rvL mode (pin false l) = d at *
  have hpl : (eLs ps).length ≤ 64 := by rw [List.length_map]; omega
  repeat' (first | refine tr_seq ?_ | refine tr_block ?_ | refine tr_skip ?_)
  refine tr_region (lex (T := tab) tOk hnt rfl ?_ (callO (base := 0) rfl rfl rfl rfl rfl rfl rfl hnt rfl rfl (hI) rfl (lex (T := tab) tOk hnt rfl ?_ (Lex.nil _)))) ?_
  · (dsimp only [AllP]; (repeat' first | exact trivial | assumption | exact Nat.le_of_ble_eq_true rfl | apply And.intro | exact eCells_len1 _ _ ‹_› | exact eCells_isByte _ _ ‹_› | intro _ | exact rfl | omega))
  · (dsimp only [AllP]; (repeat' first | exact trivial | assumption | exact Nat.le_of_ble_eq_true rfl | apply And.intro | decide | intro _ | exact rfl))
  repeat' (first | refine tr_seq ?_ | refine reg (T := tab) tOk hnt rfl ?_ ?_ | refine regD (T := tab) tOk mixedR hnt rfl (by decide +kernel) ?_ ?_ | refine tr_block ?_ | refine tr_skip ?_)
  · (dsimp only [AllP]; (repeat' first | exact trivial | assumption | exact Nat.le_of_ble_eq_true rfl | apply And.intro | decide | intro _ | exact rfl))
  refine tr_cond rfl (fun h => nomatch (show false = true from h)) (fun _ => ?_)
  repeat' (first | refine tr_seq ?_ | refine tr_block ?_ | refine tr_skip ?_)
  refine tr_region (lex (T := tab) tOk hnt rfl ?_ (callV rfl rfl rfl rfl rfl rfl rfl hnt rfl (hR) (lex (T := tab) tOk hnt rfl ?_ (Lex.nil _)))) ?_
  · (dsimp only [AllP]; (repeat' first | exact trivial | assumption | exact Nat.le_of_ble_eq_true rfl | apply And.intro | exact eCells_len1 _ _ ‹_› | exact eCells_isByte _ _ ‹_› | intro _ | exact rfl | omega))
  · (dsimp only [AllP]; (repeat' first | exact trivial | assumption | exact Nat.le_of_ble_eq_true rfl | apply And.intro | decide | intro _ | exact rfl))
  repeat' (first | refine tr_seq ?_ | refine reg (T := tab) tOk hnt rfl ?_ ?_ | refine regD (T := tab) tOk mixedR hnt rfl (by decide +kernel) ?_ ?_ | refine tr_block ?_ | refine tr_skip ?_)
  · (dsimp only [AllP]; (repeat' first | exact trivial | assumption | exact Nat.le_of_ble_eq_true rfl | apply And.intro | decide | intro _ | exact rfl))
  refine tr_cond rfl (fun h => nomatch (show false = true from h)) (fun _ => ?_)
  repeat' (first | refine tr_seq ?_ | refine reg (T := tab) tOk hnt rfl ?_ ?_ | refine regD (T := tab) tOk mixedR hnt rfl (by decide +kernel) ?_ ?_ | refine tr_block ?_ | refine tr_skip ?_)
  · (dsimp only [AllP]; (repeat' first | exact trivial | assumption | exact Nat.le_of_ble_eq_true rfl | apply And.intro | exact eCells_len1 _ _ ‹_› | exact eCells_isByte _ _ ‹_› | intro _ | exact rfl | omega | exact Nat.le_trans (Nat.add_le_add_right hpl 1) (by decide) | exact Nat.le_trans (Nat.mul_le_mul_right _ (Nat.add_le_add_right hpl 1)) (by decide) | exact Nat.le_trans (Nat.add_le_add_left hpl 0) (by decide) | exact Nat.le_trans (Nat.mul_le_mul_right _ (Nat.add_le_add_left hpl 0)) (by decide)))
  exact tr_ret ⟨.inr rfl, _, _, _, rfl, trivial, rfl, fun X => le_two (ad := []) (.ds [.own 30 1]) (.es [eI 0]) (.ds [.own 30 0]) (.es [eI 0]) (.own 30 1) (.e (eI 0)) (.own 30 0) (.e (eI 0)) rfl rfl rfl rfl ⟨⟨rfl, rfl, rfl, rfl⟩, rfl, trivial⟩ (memOk_row rfl rfl (eLs_snoc ps d) trivial)⟩
theorem extend_fn {mode : Int} (hm : ¬ (mode ≠ 1 ∧ mode ≠ 2)) : ∀ (f : Nat), f ≤ 64 → ∀ (l : List Byt) (m : Nat) (kn : Bool), 1 ≤ m → m ≤ l.length → l.length ≤ f → l.length ≤ 64 → Gl mode l → FnO Tryd.prog 69 gK [.one (.e (eI mode)), .one (.e (eLists l)), .one (.e (eI (m : Int))), .one (.e (.v (.bool kn)))] rLE30 [(30, ⟨0, .row 1 (eLs (extP mode f l m kn)), 0⟩)]
  | 0, _, l, m, kn, h1, h2, h3, _, _ => by omega
  | f + 1, hf, l, m, kn, h1, h2, h3, h4, h5 => extend_succ mode hm f (extend_fn hm f (by omega)) l m kn h1 h2 h3 hf h4 h5
def extF (mode : Int) (l : List Byt) (m : Int) : List Byt × Int := if rfF mode l ≠ 0 then ([], rfF mode l) else if m < 0 ∨ (l.length : Int) < m then ([], 6) else if (rtF mode l).2 ≠ 0 then ([], (rtF mode l).2) else if m = 0 then ([], 0) else (extP mode 64 l m.toNat true, 0)
theorem extF_len (mode : Int) (l : List Byt) (m : Int) : (extF mode l m).1.length ≤ 1000000000 := by
  unfold extF
  split
  · exact Nat.zero_le _
  split
  · exact Nat.zero_le _
  split
  · exact Nat.zero_le _
  split
  · exact Nat.zero_le _
  · rename_i h _ _ _
    have := (rfF_zero (Classical.not_not.1 h)).2
    have := extP_len mode 64 l m.toNat true (by omega) (by omega) this
    show (extP mode 64 l m.toNat true).length ≤ 1000000000
    omega
set_option maxRecDepth 10000 in
theorem Extend_fn (mode : Int) (l : List Byt) (m : Int) : FnG Tryd.prog 32 gK [.one (.e (eI mode)), .one (.e (eLists l)), .one (.e (eI m))] (rLE (extF mode l m)) := by
  refine fn_introG (T := tab) tOk Tryd.func32 rfl (by kernel_rfl) (by simp [Tryd.ntmps32]) ?_
  intro X hX
  have hnt : X.nt = 42 := hX
  clear hX
  unfold extF
  have hll := lsLen l
  have h1 := fault_fn mode l
  have hz := @rfF_zero mode l
  generalize rfF mode l = e at *
  repeat' (first | refine tr_seq ?_ | refine reg (T := tab) tOk hnt rfl ?_ ?_ | refine regD (T := tab) tOk mixedR hnt rfl (by decide +kernel) ?_ ?_ | refine tr_block ?_ | refine tr_skip ?_)
  · (dsimp only [AllP]; (repeat' first | exact trivial | assumption | exact Nat.le_of_ble_eq_true rfl | apply And.intro | decide | intro _ | exact rfl))
  repeat' (first | refine tr_seq ?_ | refine tr_block ?_ | refine tr_skip ?_)
  refine tr_region (lex (T := tab) tOk hnt rfl ?_ (call rfl rfl rfl rfl rfl rfl rfl hnt (h1) (lex (T := tab) tOk hnt rfl ?_ (Lex.nil _)))) ?_
  · (dsimp only [AllP]; (repeat' first | exact trivial | assumption | exact Nat.le_of_ble_eq_true rfl | apply And.intro | decide | intro _ | exact rfl))
  · (dsimp only [AllP]; (repeat' first | exact trivial | assumption | exact Nat.le_of_ble_eq_true rfl | apply And.intro | decide | intro _ | exact rfl))
  repeat' (first | refine tr_seq ?_ | refine reg (T := tab) tOk hnt rfl ?_ ?_ | refine regD (T := tab) tOk mixedR hnt rfl (by decide +kernel) ?_ ?_ | refine tr_block ?_ | refine tr_skip ?_)
  · (dsimp only [AllP]; (repeat' first | exact trivial | assumption | exact Nat.le_of_ble_eq_true rfl | apply And.intro | decide | intro _ | exact rfl))
  repeat' (first | refine tr_seq ?_ | refine tr_block ?_ | refine tr_skip ?_)
  refine tr_cond rfl (fun hc => ?_) (fun hc => ?_)
  · have hc : e ≠ 0 := of_decide_eq_true ((neD' e).symm.trans hc)
    rw [if_pos hc]
    repeat' (first | refine tr_seq ?_ | refine reg (T := tab) tOk hnt rfl ?_ ?_ | refine regD (T := tab) tOk mixedR hnt rfl (by decide +kernel) ?_ ?_ | refine tr_block ?_ | refine tr_skip ?_)
    · (dsimp only [AllP]; (repeat' first | exact trivial | assumption | exact Nat.le_of_ble_eq_true rfl | apply And.intro | decide | intro _ | exact rfl))
    exact tr_ret ⟨.inr rfl, _, _, rfl, trivial, rfl⟩
  have hc2 : ¬ e ≠ 0 := of_decide_eq_false ((neD' e).symm.trans hc)
  rw [if_neg hc2]
  obtain ⟨hm, hl⟩ := hz (Classical.not_not.1 hc2)
  repeat' (first | refine tr_seq ?_ | refine reg (T := tab) tOk hnt rfl ?_ ?_ | refine regD (T := tab) tOk mixedR hnt rfl (by decide +kernel) ?_ ?_ | refine tr_block ?_ | refine tr_skip ?_)
  · (dsimp only [AllP]; (repeat' first | exact trivial | assumption | exact Nat.le_of_ble_eq_true rfl | apply And.intro | decide | intro _ | exact rfl))
  repeat' (first | refine tr_seq ?_ | refine tr_block ?_ | refine tr_skip ?_)
  refine tr_cond rfl (fun hc => ?_) (fun hc => ?_)
  · have hc := of_decide_eq_true ((orB _ _).symm.trans hc)
    rw [hll] at hc
    rw [if_pos hc]
    repeat' (first | refine tr_seq ?_ | refine reg (T := tab) tOk hnt rfl ?_ ?_ | refine regD (T := tab) tOk mixedR hnt rfl (by decide +kernel) ?_ ?_ | refine tr_block ?_ | refine tr_skip ?_)
    · (dsimp only [AllP]; (repeat' first | exact trivial | assumption | exact Nat.le_of_ble_eq_true rfl | apply And.intro | decide | intro _ | exact rfl))
    exact tr_ret ⟨.inr rfl, _, _, rfl, trivial, rfl⟩
  have hc := of_decide_eq_false ((orB _ _).symm.trans hc)
  rw [hll] at hc
  rw [if_neg hc]
  obtain ⟨m, rfl⟩ : ∃ n : Nat, m = (n : Int) := ⟨m.toNat, by omega⟩
  rw [Int.toNat_natCast]
  have hr := root_fn mode hm l hl
  have hgl : (rtF mode l).2 = 0 → 1 ≤ m → Gl mode l := fun h hm1 => by
    have hne : l ≠ [] := ne_of_len (by omega)
    rw [rtF, if_neg hne] at h
    intro hO
    rw [hO] at h
    exact absurd h (by decide)
  generalize rtF mode l = r at *
  repeat' (first | refine tr_seq ?_ | refine tr_block ?_ | refine tr_skip ?_)
  refine tr_region (lex (T := tab) tOk hnt rfl ?_ (callV rfl rfl rfl rfl rfl rfl rfl hnt rfl (hr) (lex (T := tab) tOk hnt rfl ?_ (Lex.nil _)))) ?_
  · (dsimp only [AllP]; (repeat' first | exact trivial | assumption | exact Nat.le_of_ble_eq_true rfl | apply And.intro | decide | intro _ | exact rfl))
  · (dsimp only [AllP]; (repeat' first | exact trivial | assumption | exact Nat.le_of_ble_eq_true rfl | apply And.intro | decide | intro _ | exact rfl))
  obtain ⟨d0, er⟩ := r
  repeat' (first | refine tr_seq ?_ | refine reg (T := tab) tOk hnt rfl ?_ ?_ | refine regD (T := tab) tOk mixedR hnt rfl (by decide +kernel) ?_ ?_ | refine tr_block ?_ | refine tr_skip ?_)
  · (dsimp only [AllP]; (repeat' first | exact trivial | assumption | exact Nat.le_of_ble_eq_true rfl | apply And.intro | decide | intro _ | exact rfl))
  repeat' (first | refine tr_seq ?_ | refine tr_block ?_ | refine tr_skip ?_)
  refine tr_cond rfl (fun hc => ?_) (fun hc => ?_)
  · have hce : er ≠ 0 := of_decide_eq_true ((neD' er).symm.trans hc)
    rw [if_pos hce]
    repeat' (first | refine tr_seq ?_ | refine reg (T := tab) tOk hnt rfl ?_ ?_ | refine regD (T := tab) tOk mixedR hnt rfl (by decide +kernel) ?_ ?_ | refine tr_block ?_ | refine tr_skip ?_)
    · (dsimp only [AllP]; (repeat' first | exact trivial | assumption | exact Nat.le_of_ble_eq_true rfl | apply And.intro | decide | intro _ | exact rfl))
    exact tr_ret ⟨.inr rfl, _, _, rfl, trivial, rfl⟩
  have hce : ¬ er ≠ 0 := of_decide_eq_false ((neD' er).symm.trans hc)
  have hce0 : er = 0 := Classical.not_not.1 hce
  rw [if_neg hce]
  repeat' (first | refine tr_seq ?_ | refine reg (T := tab) tOk hnt rfl ?_ ?_ | refine regD (T := tab) tOk mixedR hnt rfl (by decide +kernel) ?_ ?_ | refine tr_block ?_ | refine tr_skip ?_)
  · (dsimp only [AllP]; (repeat' first | exact trivial | assumption | exact Nat.le_of_ble_eq_true rfl | apply And.intro | decide | intro _ | exact rfl))
  repeat' (first | refine tr_seq ?_ | refine tr_block ?_ | refine tr_skip ?_)
  refine tr_cond rfl (fun hc => ?_) (fun hc => ?_)
  · have hc0 : (m : Int) = 0 := of_decide_eq_true hc
    rw [if_pos hc0]
    repeat' (first | refine tr_seq ?_ | refine reg (T := tab) tOk hnt rfl ?_ ?_ | refine regD (T := tab) tOk mixedR hnt rfl (by decide +kernel) ?_ ?_ | refine tr_block ?_ | refine tr_skip ?_)
    · (dsimp only [AllP]; (repeat' first | exact trivial | assumption | exact Nat.le_of_ble_eq_true rfl | apply And.intro | decide | intro _ | exact rfl))
    exact tr_ret ⟨.inr rfl, _, _, rfl, trivial, rfl⟩
  have hc0 : ¬ (m : Int) = 0 := of_decide_eq_false hc
  rw [if_neg hc0]
  have hI := extend_fn hm 64 (Nat.le_refl _) l m true (by omega) (by omega) hl hl (hgl hce0 (by omega))
  generalize extP mode 64 l m true = ps at *
  repeat' (first | refine tr_seq ?_ | refine tr_block ?_ | refine tr_skip ?_)
  refine tr_region (lex (T := tab) tOk hnt rfl ?_ (callO (base := 2000) rfl rfl rfl rfl rfl rfl rfl hnt rfl rfl (hI) rfl (lex (T := tab) tOk hnt rfl ?_ (Lex.nil _)))) ?_
  · (dsimp only [AllP]; (repeat' first | exact trivial | assumption | exact Nat.le_of_ble_eq_true rfl | apply And.intro | decide | intro _ | exact rfl))
  · (dsimp only [AllP]; (repeat' first | exact trivial | assumption | exact Nat.le_of_ble_eq_true rfl | apply And.intro | decide | intro _ | exact rfl))
  exact tr_ret ⟨.inr rfl, _, _, rfl, trivial, rfl⟩
set_option maxRecDepth 10000 in
theorem ExtendOf_fn (mode : Int) (l : List Byt) (m : Int) : FnD Tryd.prog 33 [.one (.e (eI mode)), .one (.e (eLists l)), .one (.e (eI m))] (rLE (extF mode l m)) := by
  refine fn_intro (T := tab) tOk Tryd.func33 rfl (by kernel_rfl) (by simp [Tryd.ntmps33]) ?_
  intro X hX
  have hnt : X.nt = 99 := hX
  clear hX
  unfold extF
  have hll := lsLen l
  have h1 := rollFault_fn mode l
  have hz := @rfF_zero mode l
  generalize rfF mode l = e at *
  repeat' (first | refine tr_seq ?_ | refine reg (T := tab) tOk hnt rfl ?_ ?_ | refine regD (T := tab) tOk mixedR hnt rfl (by decide +kernel) ?_ ?_ | refine tr_block ?_ | refine tr_skip ?_)
  · (dsimp only [AllP]; (repeat' first | exact trivial | assumption | exact Nat.le_of_ble_eq_true rfl | apply And.intro | decide | intro _ | exact rfl))
  repeat' (first | refine tr_seq ?_ | refine tr_block ?_ | refine tr_skip ?_)
  refine tr_region (lex (T := tab) tOk hnt rfl ?_ (call rfl rfl rfl rfl rfl rfl rfl hnt (h1) (lex (T := tab) tOk hnt rfl ?_ (Lex.nil _)))) ?_
  · (dsimp only [AllP]; (repeat' first | exact trivial | assumption | exact Nat.le_of_ble_eq_true rfl | apply And.intro | decide | intro _ | exact rfl))
  · (dsimp only [AllP]; (repeat' first | exact trivial | assumption | exact Nat.le_of_ble_eq_true rfl | apply And.intro | decide | intro _ | exact rfl))
  repeat' (first | refine tr_seq ?_ | refine reg (T := tab) tOk hnt rfl ?_ ?_ | refine regD (T := tab) tOk mixedR hnt rfl (by decide +kernel) ?_ ?_ | refine tr_block ?_ | refine tr_skip ?_)
  · (dsimp only [AllP]; (repeat' first | exact trivial | assumption | exact Nat.le_of_ble_eq_true rfl | apply And.intro | decide | intro _ | exact rfl))
  repeat' (first | refine tr_seq ?_ | refine tr_block ?_ | refine tr_skip ?_)
  refine tr_cond rfl (fun hc => ?_) (fun hc => ?_)
  · have hc : e ≠ 0 := of_decide_eq_true ((neD' e).symm.trans hc)
    rw [if_pos hc]
    repeat' (first | refine tr_seq ?_ | refine reg (T := tab) tOk hnt rfl ?_ ?_ | refine regD (T := tab) tOk mixedR hnt rfl (by decide +kernel) ?_ ?_ | refine tr_block ?_ | refine tr_skip ?_)
    · (dsimp only [AllP]; (repeat' first | exact trivial | assumption | exact Nat.le_of_ble_eq_true rfl | apply And.intro | decide | intro _ | exact rfl))
    exact tr_ret ⟨.inr rfl, _, _, rfl, trivial, rfl⟩
  have hc2 : ¬ e ≠ 0 := of_decide_eq_false ((neD' e).symm.trans hc)
  rw [if_neg hc2]
  obtain ⟨hm, hl⟩ := hz (Classical.not_not.1 hc2)
  repeat' (first | refine tr_seq ?_ | refine reg (T := tab) tOk hnt rfl ?_ ?_ | refine regD (T := tab) tOk mixedR hnt rfl (by decide +kernel) ?_ ?_ | refine tr_block ?_ | refine tr_skip ?_)
  · (dsimp only [AllP]; (repeat' first | exact trivial | assumption | exact Nat.le_of_ble_eq_true rfl | apply And.intro | decide | intro _ | exact rfl))
  repeat' (first | refine tr_seq ?_ | refine tr_block ?_ | refine tr_skip ?_)
  refine tr_cond rfl (fun hc => ?_) (fun hc => ?_)
  · have hc := of_decide_eq_true ((orB _ _).symm.trans hc)
    rw [hll] at hc
    rw [if_pos hc]
    repeat' (first | refine tr_seq ?_ | refine reg (T := tab) tOk hnt rfl ?_ ?_ | refine regD (T := tab) tOk mixedR hnt rfl (by decide +kernel) ?_ ?_ | refine tr_block ?_ | refine tr_skip ?_)
    · (dsimp only [AllP]; (repeat' first | exact trivial | assumption | exact Nat.le_of_ble_eq_true rfl | apply And.intro | decide | intro _ | exact rfl))
    exact tr_ret ⟨.inr rfl, _, _, rfl, trivial, rfl⟩
  have hc := of_decide_eq_false ((orB _ _).symm.trans hc)
  rw [hll] at hc
  rw [if_neg hc]
  obtain ⟨m, rfl⟩ : ∃ n : Nat, m = (n : Int) := ⟨m.toNat, by omega⟩
  rw [Int.toNat_natCast]
  have hr := rollOf_fn mode hm l hl
  have hgl : (rtF mode l).2 = 0 → 1 ≤ m → Gl mode l := fun h hm1 => by
    have hne : l ≠ [] := ne_of_len (by omega)
    rw [rtF, if_neg hne] at h
    intro hO
    rw [hO] at h
    exact absurd h (by decide)
  generalize rtF mode l = r at *
  repeat' (first | refine tr_seq ?_ | refine tr_block ?_ | refine tr_skip ?_)
  refine tr_region (lex (T := tab) tOk hnt rfl ?_ (call rfl rfl rfl rfl rfl rfl rfl hnt (hr) (lex (T := tab) tOk hnt rfl ?_ (Lex.nil _)))) ?_
  · (dsimp only [AllP]; (repeat' first | exact trivial | assumption | exact Nat.le_of_ble_eq_true rfl | apply And.intro | decide | intro _ | exact rfl))
  · (dsimp only [AllP]; (repeat' first | exact trivial | assumption | exact Nat.le_of_ble_eq_true rfl | apply And.intro | decide | intro _ | exact rfl))
  obtain ⟨d0, er⟩ := r
  repeat' (first | refine tr_seq ?_ | refine reg (T := tab) tOk hnt rfl ?_ ?_ | refine regD (T := tab) tOk mixedR hnt rfl (by decide +kernel) ?_ ?_ | refine tr_block ?_ | refine tr_skip ?_)
  · (dsimp only [AllP]; (repeat' first | exact trivial | assumption | exact Nat.le_of_ble_eq_true rfl | apply And.intro | decide | intro _ | exact rfl))
  repeat' (first | refine tr_seq ?_ | refine tr_block ?_ | refine tr_skip ?_)
  refine tr_cond rfl (fun hc => ?_) (fun hc => ?_)
  · have hce : er ≠ 0 := of_decide_eq_true ((neD' er).symm.trans hc)
    rw [if_pos hce]
    repeat' (first | refine tr_seq ?_ | refine reg (T := tab) tOk hnt rfl ?_ ?_ | refine regD (T := tab) tOk mixedR hnt rfl (by decide +kernel) ?_ ?_ | refine tr_block ?_ | refine tr_skip ?_)
    · (dsimp only [AllP]; (repeat' first | exact trivial | assumption | exact Nat.le_of_ble_eq_true rfl | apply And.intro | decide | intro _ | exact rfl))
    exact tr_ret ⟨.inr rfl, _, _, rfl, trivial, rfl⟩
  have hce : ¬ er ≠ 0 := of_decide_eq_false ((neD' er).symm.trans hc)
  have hce0 : er = 0 := Classical.not_not.1 hce
  rw [if_neg hce]
  repeat' (first | refine tr_seq ?_ | refine reg (T := tab) tOk hnt rfl ?_ ?_ | refine regD (T := tab) tOk mixedR hnt rfl (by decide +kernel) ?_ ?_ | refine tr_block ?_ | refine tr_skip ?_)
  · (dsimp only [AllP]; (repeat' first | exact trivial | assumption | exact Nat.le_of_ble_eq_true rfl | apply And.intro | decide | intro _ | exact rfl))
  repeat' (first | refine tr_seq ?_ | refine tr_block ?_ | refine tr_skip ?_)
  refine tr_cond rfl (fun hc => ?_) (fun hc => ?_)
  · have hc0 := of_decide_eq_true ((orB _ _).symm.trans hc)
    rw [hll] at hc0
    by_cases hm0 : (m : Int) = 0
    · rw [if_pos hm0]
      repeat' (first | refine tr_seq ?_ | refine reg (T := tab) tOk hnt rfl ?_ ?_ | refine regD (T := tab) tOk mixedR hnt rfl (by decide +kernel) ?_ ?_ | refine tr_block ?_ | refine tr_skip ?_)
      · (dsimp only [AllP]; (repeat' first | exact trivial | assumption | exact Nat.le_of_ble_eq_true rfl | apply And.intro | decide | intro _ | exact rfl))
      exact tr_ret ⟨.inr rfl, _, _, rfl, trivial, rfl⟩
    · rw [if_neg hm0]
      have hml : m = l.length := by omega
      rw [extP, if_pos hml, if_pos rfl]
      repeat' (first | refine tr_seq ?_ | refine reg (T := tab) tOk hnt rfl ?_ ?_ | refine regD (T := tab) tOk mixedR hnt rfl (by decide +kernel) ?_ ?_ | refine tr_block ?_ | refine tr_skip ?_)
      · (dsimp only [AllP]; (repeat' first | exact trivial | assumption | exact Nat.le_of_ble_eq_true rfl | apply And.intro | decide | intro _ | exact rfl))
      exact tr_ret ⟨.inr rfl, _, _, rfl, trivial, rfl⟩
  have hc0 := of_decide_eq_false ((orB _ _).symm.trans hc)
  rw [hll] at hc0
  rw [if_neg (fun h => hc0 (.inl h))]
  have hm1 : 1 ≤ m := by omega
  have hml : m ≤ l.length := by omega
  have hg := hgl hce0 hm1
  have hpl := extP_len mode 64 l m true hm1 hml hl
  generalize hP : extP mode 64 l m true = ps at hpl ⊢
  have hP : extP mode 64 l m true ++ ([] : List Byt).reverse = ps := by
    rw [hP]
    exact List.append_nil _
  repeat' (first | refine tr_seq ?_ | refine reg (T := tab) tOk hnt rfl ?_ ?_ | refine regD (T := tab) tOk mixedR hnt rfl (by decide +kernel) ?_ ?_ | refine tr_block ?_ | refine tr_skip ?_)
  · (dsimp only [AllP]; (repeat' first | exact trivial | assumption | exact Nat.le_of_ble_eq_true rfl | apply And.intro | decide | intro _ | exact rfl))
  · (dsimp only [AllP]; (repeat' first | exact trivial | assumption | exact Nat.le_of_ble_eq_true rfl | apply And.intro | decide | intro _ | exact rfl))
  repeat' (first | refine tr_seq ?_ | refine tr_block ?_ | refine tr_skip ?_)
  refine tr_loop (σ := Nat × List Byt × Nat × List Byt × Bool) (fun x => St.of [(0, .one (.e (eI mode))), (1, .one (.e (eLists x.2.1))), (2, .one (.e (eI (x.2.2.1 : Int)))), (11, .one (.own 84 0)), (12, .one (.e (.v (.bool x.2.2.2.2))))] [(84, ⟨0, .row 1 (eLs x.2.2.2.1), 0⟩)]) (fun x => extP mode x.1 x.2.1 x.2.2.1 x.2.2.2.2 ++ x.2.2.2.1.reverse = ps ∧ x.2.1.length ≤ x.1 ∧ x.2.1.length ≤ 64 ∧ (1 ≤ x.2.2.1 ∧ x.2.2.1 ≤ x.2.1.length) ∧ Gl mode x.2.1 ∧ x.2.2.2.1.length + x.1 = 64) (fun x => x.1) ((64, l, m, [], true)) (le_of (ad := [84]) (by refine ⟨?_, ?_, ?_, ?_, ?_, trivial⟩ <;> first | exact trivial | rfl | exact ⟨rfl, rfl⟩ | exact ⟨rfl, rfl, rfl⟩ | exact ⟨rfl, rfl, rfl, rfl⟩ | exact ⟨rfl, rfl, rfl, rfl, rfl⟩ | exact congrArg (fun z : Int => E.v (.int .i64 z)) (wrap64_id (by omega) (by omega))) (memOk_new rfl (by decide) trivial)) ⟨hP, hl, hl, ⟨hm1, hml⟩, hg, rfl⟩ ?_
  clear hg hr hc hll hl hml hm1 hP hc0 hgl hce hce0
  rintro ⟨f, l, m, down, kn⟩ ⟨j1, j2, j3, ⟨j4, j4'⟩, j5, j6⟩
  dsimp only at j1 j2 j3 j4 j4' j5 j6 ⊢
  have hll := lsLen l
  repeat' (first | refine tr_seq ?_ | refine reg (T := tab) tOk hnt rfl ?_ ?_ | refine regD (T := tab) tOk mixedR hnt rfl (by decide +kernel) ?_ ?_ | refine tr_block ?_ | refine tr_skip ?_)
  · (dsimp only [AllP]; (repeat' first | exact trivial | assumption | exact Nat.le_of_ble_eq_true rfl | apply And.intro | decide | intro _ | exact rfl))
  repeat' (first | refine tr_seq ?_ | refine tr_block ?_ | refine tr_skip ?_)
  refine tr_cond rfl (fun hc => ?_) (fun hc => ?_)
  · have hc : ¬ (m : Int) = ((l.map fun p => [eBytes p]).length : Int) := of_decide_eq_false ((Bool.not_eq_true' _).mp hc)
    obtain ⟨f, rfl⟩ : ∃ g, f = g + 1 := ⟨f - 1, by omega⟩
    have h2 : 2 ≤ l.length := by omega
    have hh := hf_lt h2
    have a0 : (hf l.length : Int) ≤ ((l.map fun p => [eBytes p]).length : Int) := by omega
    have a01 : (0 : Int) ≤ (hf l.length : Int) := by omega
    have a3 := lsOne l
    have hfn : FnD Tryd.prog 63 [.one (.e (eI ((l.map fun p => [eBytes p]).length : Int)))] (.one (.e (eI (hf l.length : Int)))) := by
      rw [hll]
      exact below_fn l.length h2 j3
    have hrt := fun b => rollG_fn hm (ne_of_len (pin_lt b h2).1) (by have := (pin_lt b h2).2; omega) (pin_gl b h2 j3 j5)
    have hnx := fun b => pin_lt b h2
    have hgx := fun b => pin_gl b h2 j3 j5
    have lT := lsTake l (hf l.length)
    have lD := lsDrop l (hf l.length)
    have pl1 : (pin true l).length = hf l.length := pin_len true h2
    have pl2 : (pin false l).length = l.length - hf l.length := pin_len false h2
    have hol : (eLs down).length ≤ 64 := by rw [List.length_map]; omega
    rw [extP, if_neg (by omega)] at j1
    repeat' (first | refine tr_seq ?_ | refine tr_block ?_ | refine tr_skip ?_)
    refine tr_region (lex (T := tab) tOk hnt rfl ?_ (call rfl rfl rfl rfl rfl rfl rfl hnt (hfn) (lex (T := tab) tOk hnt rfl ?_ (Lex.nil _)))) ?_
    · (dsimp only [AllP]; (repeat' first | exact trivial | assumption | exact Nat.le_of_ble_eq_true rfl | apply And.intro | decide | intro _ | exact rfl))
    · (dsimp only [AllP]; (repeat' first | exact trivial | assumption | exact Nat.le_of_ble_eq_true rfl | apply And.intro | decide | intro _ | exact rfl))
    repeat' (first | refine tr_seq ?_ | refine reg (T := tab) tOk hnt rfl ?_ ?_ | refine regD (T := tab) tOk mixedR hnt rfl (by decide +kernel) ?_ ?_ | refine tr_block ?_ | refine tr_skip ?_)
    · (dsimp only [AllP]; (repeat' first | exact trivial | assumption | exact Nat.le_of_ble_eq_true rfl | apply And.intro | exact eCells_len1 _ _ ‹_› | exact eCells_isByte _ _ ‹_› | intro _ | exact rfl | omega))
    · (dsimp only [AllP]; (repeat' first | exact trivial | assumption | exact Nat.le_of_ble_eq_true rfl | apply And.intro | decide | intro _ | exact rfl))
    repeat' (first | refine tr_seq ?_ | refine tr_block ?_ | refine tr_skip ?_)
    refine tr_cond rfl (fun hc => ?_) (fun hc => ?_)
    · have hc : (m : Int) ≤ (hf l.length : Int) := of_decide_eq_true hc
      have hc : m ≤ hf l.length := by omega
      simp only [if_pos hc, decide_eq_true hc, Bool.not_true] at j1
      have hR := hrt false
      have hn := hnx true
      rw [show eLists (pin false l) = _ from lD] at hR
      repeat' (first | refine tr_seq ?_ | refine reg (T := tab) tOk hnt rfl ?_ ?_ | refine regD (T := tab) tOk mixedR hnt rfl (by decide +kernel) ?_ ?_ | refine tr_block ?_ | refine tr_skip ?_)
      · (dsimp only [AllP]; (repeat' first | exact trivial | assumption | exact Nat.le_of_ble_eq_true rfl | apply And.intro | exact eCells_len1 _ _ ‹_› | exact eCells_isByte _ _ ‹_› | intro _ | exact rfl | omega))
      repeat' (first | refine tr_seq ?_ | refine tr_block ?_ | refine tr_skip ?_)
      refine tr_region (lex (T := tab) tOk hnt rfl ?_ (call rfl rfl rfl rfl rfl rfl rfl hnt (hR) (lex (T := tab) tOk hnt rfl ?_ (Lex.nil _)))) ?_
      · (dsimp only [AllP]; (repeat' first | exact trivial | assumption | exact Nat.le_of_ble_eq_true rfl | apply And.intro | exact eCells_len1 _ _ ‹_› | exact eCells_isByte _ _ ‹_› | intro _ | exact rfl | omega))
      · (dsimp only [AllP]; (repeat' first | exact trivial | assumption | exact Nat.le_of_ble_eq_true rfl | apply And.intro | decide | intro _ | exact rfl))
      repeat' (first | refine tr_seq ?_ | refine reg (T := tab) tOk hnt rfl ?_ ?_ | refine regD (T := tab) tOk mixedR hnt rfl (by decide +kernel) ?_ ?_ | refine tr_block ?_ | refine tr_skip ?_)
      · (dsimp only [AllP]; (repeat' first | exact trivial | assumption | exact Nat.le_of_ble_eq_true rfl | apply And.intro | exact eCells_len1 _ _ ‹_› | exact eCells_isByte _ _ ‹_› | intro _ | exact rfl | omega | exact Nat.le_trans (Nat.add_le_add_right hol 1) (by decide) | exact Nat.le_trans (Nat.mul_le_mul_right _ (Nat.add_le_add_right hol 1)) (by decide) | exact Nat.le_trans (Nat.add_le_add_left hol 0) (by decide) | exact Nat.le_trans (Nat.mul_le_mul_right _ (Nat.add_le_add_left hol 0)) (by decide)))
      refine ⟨(f, pin true l, m, down ++ [rvL mode (pin false l)], kn), ⟨?_, ?_, ?_, ?_, hgx true, ?_⟩, Nat.lt_succ_self _, le_of (ad := []) ⟨rfl, lT.symm, rfl, ⟨rfl, rfl, rfl, rfl⟩, rfl, trivial⟩ (memOk_row rfl rfl (eLs_snoc _ _) trivial)⟩
      · rw [← j1]
        simp
      · dsimp only
        omega
      · dsimp only
        omega
      · dsimp only
        rw [pl1]
        exact ⟨j4, hc⟩
      · dsimp only
        rw [List.length_append, List.length_singleton]
        omega
    have hc : ¬ (m : Int) ≤ (hf l.length : Int) := of_decide_eq_false hc
    have hc : ¬ m ≤ hf l.length := by omega
    simp only [if_neg hc, decide_eq_false hc, Bool.not_false] at j1
    have hR := hrt true
    have hn := hnx false
    have hwi : IntKind.i64.wrap ((m : Int) - (hf l.length : Int)) = ((m - hf l.length : Nat) : Int) := by
      rw [wrap64_id (by omega) (by omega)]
      omega
    rw [show eLists (pin true l) = _ from lT] at hR
    repeat' (first | refine tr_seq ?_ | refine reg (T := tab) tOk hnt rfl ?_ ?_ | refine regD (T := tab) tOk mixedR hnt rfl (by decide +kernel) ?_ ?_ | refine tr_block ?_ | refine tr_skip ?_)
    · (dsimp only [AllP]; (repeat' first | exact trivial | assumption | exact Nat.le_of_ble_eq_true rfl | apply And.intro | exact eCells_len1 _ _ ‹_› | exact eCells_isByte _ _ ‹_› | intro _ | exact rfl | omega))
    repeat' (first | refine tr_seq ?_ | refine tr_block ?_ | refine tr_skip ?_)
    refine tr_region (lex (T := tab) tOk hnt rfl ?_ (call rfl rfl rfl rfl rfl rfl rfl hnt (hR) (lex (T := tab) tOk hnt rfl ?_ (Lex.nil _)))) ?_
    · (dsimp only [AllP]; (repeat' first | exact trivial | assumption | exact Nat.le_of_ble_eq_true rfl | apply And.intro | exact eCells_len1 _ _ ‹_› | exact eCells_isByte _ _ ‹_› | intro _ | exact rfl | omega))
    · (dsimp only [AllP]; (repeat' first | exact trivial | assumption | exact Nat.le_of_ble_eq_true rfl | apply And.intro | decide | intro _ | exact rfl))
    repeat' (first | refine tr_seq ?_ | refine reg (T := tab) tOk hnt rfl ?_ ?_ | refine regD (T := tab) tOk mixedR hnt rfl (by decide +kernel) ?_ ?_ | refine tr_block ?_ | refine tr_skip ?_)
    · (dsimp only [AllP]; (repeat' first | exact trivial | assumption | exact Nat.le_of_ble_eq_true rfl | apply And.intro | exact eCells_len1 _ _ ‹_› | exact eCells_isByte _ _ ‹_› | intro _ | exact rfl | omega | exact Nat.le_trans (Nat.add_le_add_right hol 1) (by decide) | exact Nat.le_trans (Nat.mul_le_mul_right _ (Nat.add_le_add_right hol 1)) (by decide) | exact Nat.le_trans (Nat.add_le_add_left hol 0) (by decide) | exact Nat.le_trans (Nat.mul_le_mul_right _ (Nat.add_le_add_left hol 0)) (by decide)))
    refine ⟨(f, pin false l, m - hf l.length, down ++ [rvL mode (pin true l)], false), ⟨?_, ?_, ?_, ?_, hgx false, ?_⟩, Nat.lt_succ_self _, le_of (ad := []) ⟨rfl, lD.symm, congrArg (fun z : Int => E.v (.int .i64 z)) hwi, ⟨rfl, rfl, rfl, rfl⟩, rfl, trivial⟩ (memOk_row rfl rfl (eLs_snoc _ _) trivial)⟩
    · rw [← j1]
      simp
    · dsimp only
      omega
    · dsimp only
      omega
    · dsimp only
      rw [pl2]
      omega
    · dsimp only
      rw [List.length_append, List.length_singleton]
      omega
  have hc : (m : Int) = ((l.map fun p => [eBytes p]).length : Int) := of_decide_eq_true ((Bool.not_eq_false' ..).mp hc)
  have hdl : down.length ≤ 64 := by omega
  obtain ⟨f, rfl⟩ : ∃ g, f = g + 1 := ⟨f - 1, by omega⟩
  rw [extP, if_pos (by omega)] at j1
  refine tr_exit ?_
  repeat' (first | refine tr_seq ?_ | refine reg (T := tab) tOk hnt rfl ?_ ?_ | refine regD (T := tab) tOk mixedR hnt rfl (by decide +kernel) ?_ ?_ | refine tr_block ?_ | refine tr_skip ?_)
  · (dsimp only [AllP]; (repeat' first | exact trivial | assumption | exact Nat.le_of_ble_eq_true rfl | apply And.intro | decide | intro _ | exact rfl))
  cases kn with
  | true =>
    refine tr_cond rfl (fun h => nomatch (show false = true from h)) (fun _ => ?_)
    rw [if_pos rfl] at j1
    have ht := turned_fn down (by omega)
    rw [show down.reverse = ps from j1] at ht
    repeat' (first | refine tr_seq ?_ | refine tr_block ?_ | refine tr_skip ?_)
    refine tr_region (lex (T := tab) tOk hnt rfl ?_ (callU rfl rfl rfl rfl rfl rfl rfl hnt (ht) (lex (T := tab) tOk hnt rfl ?_ (Lex.nil _)))) ?_
    · (dsimp only [AllP]; (repeat' first | exact trivial | assumption | exact Nat.le_of_ble_eq_true rfl | apply And.intro | decide | intro _ | exact rfl))
    · (dsimp only [AllP]; (repeat' first | exact trivial | assumption | exact Nat.le_of_ble_eq_true rfl | apply And.intro | decide | intro _ | exact rfl))
    exact tr_ret ⟨.inr rfl, _, _, rfl, trivial, rfl⟩
  | false =>
    refine tr_cond rfl (fun _ => ?_) (fun h => nomatch (show true = false from h))
    rw [if_neg (by simp)] at j1
    have hR := rollG_fn hm (ne_of_len (show 1 ≤ l.length by omega)) j3 j5
    generalize rvL mode l = d at *
    have hol : (eLs down).length ≤ 64 := by rw [List.length_map]; omega
    have ht := turned_fn (down ++ [d]) (by rw [List.length_append, List.length_singleton]; omega)
    rw [List.reverse_append, show [d].reverse ++ down.reverse = ps from j1, show eLists (down ++ [d]) = .sl (eLs down ++ [[E.sl (eCells d)]]) from congrArg E.sl (eLs_snoc down d).symm] at ht
    repeat' (first | refine tr_seq ?_ | refine tr_block ?_ | refine tr_skip ?_)
    refine tr_region (lex (T := tab) tOk hnt rfl ?_ (call rfl rfl rfl rfl rfl rfl rfl hnt (hR) (lex (T := tab) tOk hnt rfl ?_ (Lex.nil _)))) ?_
    · (dsimp only [AllP]; (repeat' first | exact trivial | assumption | exact Nat.le_of_ble_eq_true rfl | apply And.intro | decide | intro _ | exact rfl))
    · (dsimp only [AllP]; (repeat' first | exact trivial | assumption | exact Nat.le_of_ble_eq_true rfl | apply And.intro | decide | intro _ | exact rfl))
    repeat' (first | refine tr_seq ?_ | refine reg (T := tab) tOk hnt rfl ?_ ?_ | refine regD (T := tab) tOk mixedR hnt rfl (by decide +kernel) ?_ ?_ | refine tr_block ?_ | refine tr_skip ?_)
    · (dsimp only [AllP]; (repeat' first | exact trivial | assumption | exact Nat.le_of_ble_eq_true rfl | apply And.intro | exact eCells_len1 _ _ ‹_› | exact eCells_isByte _ _ ‹_› | intro _ | exact rfl | omega | exact Nat.le_trans (Nat.add_le_add_right hol 1) (by decide) | exact Nat.le_trans (Nat.mul_le_mul_right _ (Nat.add_le_add_right hol 1)) (by decide) | exact Nat.le_trans (Nat.add_le_add_left hol 0) (by decide) | exact Nat.le_trans (Nat.mul_le_mul_right _ (Nat.add_le_add_left hol 0)) (by decide)))
    repeat' (first | refine tr_seq ?_ | refine tr_block ?_ | refine tr_skip ?_)
    refine tr_region (lex (T := tab) tOk hnt rfl ?_ (callU rfl rfl rfl rfl rfl rfl rfl hnt (ht) (lex (T := tab) tOk hnt rfl ?_ (Lex.nil _)))) ?_
    · (dsimp only [AllP]; (repeat' first | exact trivial | assumption | exact Nat.le_of_ble_eq_true rfl | apply And.intro | decide | intro _ | exact rfl))
    · (dsimp only [AllP]; (repeat' first | exact trivial | assumption | exact Nat.le_of_ble_eq_true rfl | apply And.intro | decide | intro _ | exact rfl))
    exact tr_ret ⟨.inr rfl, _, _, rfl, trivial, rfl⟩
set_option maxRecDepth 10000 in
theorem extends_fn (mode : Int) (l : List Byt) (m : Int) : FnG Tryd.prog 11 gK [.one (.e (eI mode)), .one (.e (eLists l)), .one (.e (eI m))] (.v (.bool true)) := by
  refine fn_introG (T := tab) tOk Tryd.func11 rfl (by kernel_rfl) (by simp [Tryd.ntmps11]) ?_
  intro X hX
  have hnt : X.nt = 33 := hX
  clear hX
  have h1 := Extend_fn mode l m
  have h2 := ExtendOf_fn mode l m
  have h3 := extF_len mode l m
  generalize extF mode l m = r at *
  obtain ⟨b, e⟩ := r
  repeat' (first | refine tr_seq ?_ | refine reg (T := tab) tOk hnt rfl ?_ ?_ | refine regD (T := tab) tOk mixedR hnt rfl (by decide +kernel) ?_ ?_ | refine tr_block ?_ | refine tr_skip ?_)
  · (dsimp only [AllP]; (repeat' first | exact trivial | assumption | exact Nat.le_of_ble_eq_true rfl | apply And.intro | decide | intro _ | exact rfl))
  repeat' (first | refine tr_seq ?_ | refine tr_block ?_ | refine tr_skip ?_)
  refine tr_region (lex (T := tab) tOk hnt rfl ?_ (callV rfl rfl rfl rfl rfl rfl rfl hnt rfl (h1) (lex (T := tab) tOk hnt rfl ?_ (Lex.nil _)))) ?_
  · (dsimp only [AllP]; (repeat' first | exact trivial | assumption | exact Nat.le_of_ble_eq_true rfl | apply And.intro | decide | intro _ | exact rfl))
  · (dsimp only [AllP]; (repeat' first | exact trivial | assumption | exact Nat.le_of_ble_eq_true rfl | apply And.intro | decide | intro _ | exact rfl))
  repeat' (first | refine tr_seq ?_ | refine tr_block ?_ | refine tr_skip ?_)
  refine tr_region (lex (T := tab) tOk hnt rfl ?_ (call rfl rfl rfl rfl rfl rfl rfl hnt (h2) (lex (T := tab) tOk hnt rfl ?_ (Lex.nil _)))) ?_
  · (dsimp only [AllP]; (repeat' first | exact trivial | assumption | exact Nat.le_of_ble_eq_true rfl | apply And.intro | decide | intro _ | exact rfl))
  · (dsimp only [AllP]; (repeat' first | exact trivial | assumption | exact Nat.le_of_ble_eq_true rfl | apply And.intro | decide | intro _ | exact rfl))
  repeat' (first | refine tr_seq ?_ | refine tr_block ?_ | refine tr_skip ?_)
  refine tr_region (lex (T := tab) tOk hnt rfl ?_ (callG rfl rfl rfl rfl rfl rfl hnt rfl (fun hq => ?_) (fun hq => sameLs_fn b h3) (lex (T := tab) tOk hnt rfl ?_ (Lex.nil _)))) ?_
  · (dsimp only [AllP]; (repeat' first | exact trivial | assumption | exact Nat.le_of_ble_eq_true rfl | apply And.intro | decide | intro _ | exact rfl))
  · exact ⟨hq, hq⟩
  · exact ⟨trivial, fun h => h⟩
  refine tr_ret ⟨.inr rfl, _, _, rfl, by trivial, ?_⟩
  simp
  rfl
end Go.Proofs.YtjpmghphkkhcjaaDoor
