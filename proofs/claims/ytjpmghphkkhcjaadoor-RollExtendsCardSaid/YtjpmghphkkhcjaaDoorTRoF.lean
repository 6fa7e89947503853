/- Rolls: what is told of one entry. No condition. -/
import Derived.Test.YtjpmghphkkhcjaaDoorTRoR
import Derived.Test.YtjpmghphkkhcjaaDoorTSlP
namespace Go.Proofs.YtjpmghphkkhcjaaDoor
open Go Go.RowKit Go.Proofs.YtjpmghphkkhcjaaDoor.Ab

/-- two results, of which one may be a row of its own -/
theorem le_two {X : Ctx} {ad : List Nat} {m : Mem} (c1 c2 d1 d2 : Cs) (x1 x2 y1 y2 : D0) (e1 : c1.d0 = [x1]) (e2 : c2.d0 = [x2]) (f1 : d1.d0 = [y1]) (f2 : d2.d0 = [y2]) {ms : List (Nat × Blk)}
    (ht : tmOk ad ⟨lookT [(0, .one x1), (1, .one x2)], m⟩ (St.of [(0, .one y1), (1, .one y2)] ms) [(0, .one y1), (1, .one y2)])
    (hm : memOk ad ⟨lookT [(0, .one x1), (1, .one x2)], m⟩ (St.of [(0, .one y1), (1, .one y2)] ms) ms) :
    Le X ⟨fun t => bif Nat.beq t 0 then .tup [(false, c1), (false, c2)] else .any, m⟩ (St.of [(0, .tup [(false, d1), (false, d2)])] ms) := by
  intro a w ⟨μ, hM, hsz, hdf, hr⟩
  obtain ⟨vs, hv, hl, hq⟩ : ∃ vs : List Value, slotV a.tmps 0 = .tuple vs.toArray ∧ [(false, c1), (false, c2)].length = vs.length ∧ ∀ (i : Nat) x u, [(false, c1), (false, c2)][i]? = some x → vs[i]? = some u → RepT ⟨m, μ⟩ (CW X ⟨m, μ⟩ w) w x u := hr 0
  obtain ⟨v1, v2, rfl⟩ : ∃ v1 v2, vs = [v1, v2] := by
    match vs, hl with
    | [v1, v2], _ => exact ⟨v1, v2, rfl⟩
  have q1 : Rep2 ⟨m, μ⟩ (CW X ⟨m, μ⟩ w) w c1.d0 [v1] := hq 0 _ _ rfl rfl
  have q2 : Rep2 ⟨m, μ⟩ (CW X ⟨m, μ⟩ w) w c2.d0 [v2] := hq 1 _ _ rfl rfl
  rw [e1] at q1
  rw [e2] at q2
  let X2 : Ctx := ⟨X.W, X.I, 2, by decide⟩
  let a2 : Act := { a with tmps := #[v1, v2] }
  have s0 : slotV a2.tmps 0 = v1 := rfl
  have s1 : slotV a2.tmps 1 = v2 := rfl
  obtain ⟨μ', hM', _, _, hr'⟩ := le_of (X := X2) ht hm a2 w ⟨μ, ⟨hM.bel, hM.blk⟩, rfl, hdf, fun t => by
    match t with
    | 0 => exact q1.2 0 _ _ rfl rfl
    | 1 => exact q2.2 0 _ _ rfl rfl
    | t + 2 => trivial⟩
  refine ⟨μ', ⟨hM'.bel, hM'.blk⟩, hsz, hdf, fun t => ?_⟩
  match t with
  | 0 =>
    refine ⟨[v1, v2], hv, rfl, fun i x u hx hu => ?_⟩
    match i, hx, hu with
    | 0, hx, hu =>
      cases Option.some.inj hx
      cases Option.some.inj hu
      show Rep2 _ _ w d1.d0 [v1]
      rw [f1]
      refine ⟨rfl, fun i x u hx hu => ?_⟩
      match i, hx, hu with
      | 0, hx, hu =>
        cases Option.some.inj hx
        cases Option.some.inj hu
        exact hr' 0
    | 1, hx, hu =>
      cases Option.some.inj hx
      cases Option.some.inj hu
      show Rep2 _ _ w d2.d0 [v2]
      rw [f2]
      refine ⟨rfl, fun i x u hx hu => ?_⟩
      match i, hx, hu with
      | 0, hx, hu =>
        cases Option.some.inj hx
        cases Option.some.inj hu
        exact hr' 1
  | t + 1 => trivial
theorem rtO_fuel {E : Byt → Option Byt} {P : Byt → Byt → Option Byt} : ∀ (f g : Nat) (l : List Byt), 1 ≤ f → 1 ≤ g → l.length ≤ f → l.length ≤ g → rtO E P f l = rtO E P g l
  | 0, _, _, h, _, _, _ => absurd h (by decide)
  | _, 0, _, _, h, _, _ => absurd h (by decide)
  | f + 1, g + 1, l, _, _, h1, h2 => by
    rw [rtO, rtO]
    by_cases hl : l.length ≤ 1
    · rw [if_pos hl, if_pos hl]
    · have hh := hf_lt (n := l.length) (by omega)
      have l1 : (l.take (hf l.length)).length = hf l.length := by rw [List.length_take]; omega
      have l2 : (l.drop (hf l.length)).length = l.length - hf l.length := List.length_drop
      rw [if_neg hl, if_neg hl, rtO_fuel f g (l.take (hf l.length)) (by omega) (by omega) (by omega) (by omega), rtO_fuel f g (l.drop (hf l.length)) (by omega) (by omega) (by omega) (by omega)]
/-- the root of a part -/
def rvL (mode : Int) (l : List Byt) : Byt := (rtO (eO mode) (pO mode) 64 l).getD []
def Gl (mode : Int) (l : List Byt) : Prop := rtO (eO mode) (pO mode) 64 l ≠ none
theorem gl_val {mode : Int} {l : List Byt} (h : Gl mode l) : rtO (eO mode) (pO mode) 64 l = some (rvL mode l) := by
  unfold rvL
  unfold Gl at h
  cases he : rtO (eO mode) (pO mode) 64 l with
  | none => exact absurd he h
  | some d => rfl
theorem gl_parts {mode : Int} {l : List Byt} (h2 : 2 ≤ l.length) (hl : l.length ≤ 64) (h : Gl mode l) : Gl mode (l.take (hf l.length)) ∧ Gl mode (l.drop (hf l.length)) := by
  have hh := hf_lt h2
  have l1 : (l.take (hf l.length)).length = hf l.length := by rw [List.length_take]; omega
  have l2 : (l.drop (hf l.length)).length = l.length - hf l.length := List.length_drop
  unfold Gl at *
  rw [root_two h2, rtO_fuel 63 64 (l.take (hf l.length)) (by omega) (by omega) (by omega) (by omega), rtO_fuel 63 64 (l.drop (hf l.length)) (by omega) (by omega) (by omega) (by omega)] at h
  refine ⟨fun e => h ?_, fun e => h ?_⟩
  · rw [e]
    rfl
  · rw [e]
    cases rtO (eO mode) (pO mode) 64 (l.take (hf l.length)) <;> rfl
theorem rootG_fn {mode : Int} (hm : ¬ (mode ≠ 1 ∧ mode ≠ 2)) {l : List Byt} (hne : l ≠ []) (h : l.length ≤ 64) (hg : Gl mode l) : FnG Tryd.prog 40 gK [.one (.e (eI mode)), .one (.e (eLists l))] (rBE (rvL mode l, 0)) := by
  have h1 := root_fn mode hm l h
  rw [rtF, if_neg hne, gl_val hg] at h1
  exact h1
theorem rollG_fn {mode : Int} (hm : ¬ (mode ≠ 1 ∧ mode ≠ 2)) {l : List Byt} (hne : l ≠ []) (h : l.length ≤ 64) (hg : Gl mode l) : FnD Tryd.prog 42 [.one (.e (eI mode)), .one (.e (eLists l))] (rBE (rvL mode l, 0)) := by
  have h1 := rollOf_fn mode hm l h
  rw [rtF, if_neg hne, gl_val hg] at h1
  exact h1
/-- the half that is left, and the other one -/
def pin (b : Bool) (l : List Byt) : List Byt := bif b then l.take (hf l.length) else l.drop (hf l.length)
theorem pin_len (b : Bool) {l : List Byt} (h2 : 2 ≤ l.length) : (pin b l).length = bif b then hf l.length else l.length - hf l.length := by
  have hh := hf_lt h2
  cases b with
  | true => show (l.take (hf l.length)).length = hf l.length; rw [List.length_take]; omega
  | false => exact List.length_drop
theorem pin_gl (b : Bool) {mode : Int} {l : List Byt} (h2 : 2 ≤ l.length) (hl : l.length ≤ 64) (h : Gl mode l) : Gl mode (pin b l) := by
  cases b with
  | true => exact (gl_parts h2 hl h).1
  | false => exact (gl_parts h2 hl h).2
theorem pin_lt (b : Bool) {l : List Byt} (h2 : 2 ≤ l.length) : 1 ≤ (pin b l).length ∧ (pin b l).length < l.length := by
  have hh := hf_lt h2
  rw [pin_len b h2]
  cases b <;> simp only [cond_true, cond_false] <;> omega
theorem ne_of_len {l : List Byt} (h : 1 ≤ l.length) : l ≠ [] := fun e => by
  rw [e] at h
  exact absurd h (by decide)
def incP (mode : Int) : Nat → List Byt → Nat → List Byt
  | 0, _, _ => []
  | f + 1, l, i => if l.length ≤ 1 then [] else incP mode f (pin (decide (i < hf l.length)) l) (if i < hf l.length then i else i - hf l.length) ++ [rvL mode (pin (!decide (i < hf l.length)) l)]
theorem incP_len (mode : Int) : ∀ (f : Nat) (l : List Byt) (i : Nat), l.length ≤ f → (incP mode f l i).length ≤ f
  | 0, _, _, _ => Nat.zero_le _
  | f + 1, l, i, h => by
    rw [incP]
    split
    · exact Nat.zero_le _
    · have := (pin_lt (decide (i < hf l.length)) (l := l) (by omega)).2
      have := incP_len mode f (pin (decide (i < hf l.length)) l) (if i < hf l.length then i else i - hf l.length) (by omega)
      rw [List.length_append, List.length_singleton]
      omega
abbrev eLs (ps : List Byt) : List (List E) := ps.map fun p => [eBytes p]
theorem eLs_snoc (ps : List Byt) (d : Byt) : eLs ps ++ [[E.sl (eCells d)]] = eLs (ps ++ [d]) := (List.map_append (f := fun p => [eBytes p]) (l₁ := ps) (l₂ := [d])).symm
def rLO : D := .tup [(false, .ds [.own 57 0]), (false, .es [eI 0])]

set_option maxRecDepth 10000 in
theorem include_succ (mode : Int) (hm : ¬ (mode ≠ 1 ∧ mode ≠ 2)) (f : Nat) (ih : ∀ (l : List Byt) (i : Nat), 1 ≤ l.length → l.length ≤ f → l.length ≤ 64 → i < l.length → Gl mode l → FnO Tryd.prog 62 gK [.one (.e (eI mode)), .one (.e (eLists l)), .one (.e (eI (i : Int)))] rLO [(57, ⟨0, .row 1 (eLs (incP mode f l i)), 0⟩)]) (l : List Byt) (i : Nat) (h1 : 1 ≤ l.length) (hlf : l.length ≤ f + 1) (hf64 : f + 1 ≤ 64) (hl64 : l.length ≤ 64) (hi : i < l.length) (hg : Gl mode l) : FnO Tryd.prog 62 gK [.one (.e (eI mode)), .one (.e (eLists l)), .one (.e (eI (i : Int)))] (rLO) [(57, ⟨0, .row 1 (eLs (incP mode (f + 1) l i)), 0⟩)] := by
  refine fn_introO (T := tab) tOk Tryd.func62 rfl (by kernel_rfl) (by simp [Tryd.ntmps62]) ?_
  intro X hX
  have hnt : X.nt = 58 := hX
  clear hX
  have hll := lsLen l
  rw [incP]
  repeat' (first | refine tr_seq ?_ | refine reg (T := tab) tOk hnt rfl ?_ ?_ | refine regD (T := tab) tOk mixedR hnt rfl (by decide +kernel) ?_ ?_ | refine tr_block ?_ | refine tr_skip ?_)
  · (dsimp only [AllP]; (repeat' first | exact trivial | assumption | exact Nat.le_of_ble_eq_true rfl | apply And.intro | decide | intro _ | exact rfl))
  · (dsimp only [AllP]; (repeat' first | exact trivial | assumption | exact Nat.le_of_ble_eq_true rfl | apply And.intro | decide | intro _ | exact rfl))
  repeat' (first | refine tr_seq ?_ | refine tr_block ?_ | refine tr_skip ?_)
  refine tr_cond rfl (fun hc => ?_) (fun hc => ?_)
  · have hc : ((l.map fun p => [eBytes p]).length : Int) = 1 := of_decide_eq_true hc
    rw [if_pos (by omega)]
    repeat' (first | refine tr_seq ?_ | refine reg (T := tab) tOk hnt rfl ?_ ?_ | refine regD (T := tab) tOk mixedR hnt rfl (by decide +kernel) ?_ ?_ | refine tr_block ?_ | refine tr_skip ?_)
    · (dsimp only [AllP]; (repeat' first | exact trivial | assumption | exact Nat.le_of_ble_eq_true rfl | apply And.intro | decide | intro _ | exact rfl))
    exact tr_ret ⟨.inr rfl, _, _, _, rfl, trivial, rfl, fun X => le_two (ad := [57]) (.ds [.nil]) (.es [eI 0]) (.ds [.own 57 0]) (.es [eI 0]) .nil (.e (eI 0)) (.own 57 0) (.e (eI 0)) rfl rfl rfl rfl ⟨⟨rfl, rfl⟩, rfl, trivial⟩ (memOk_new rfl (by decide) trivial)⟩
  have hc : ¬ ((l.map fun p => [eBytes p]).length : Int) = 1 := of_decide_eq_false hc
  have h2 : 2 ≤ l.length := by omega
  have hh := hf_lt h2
  rw [if_neg (by omega)]
  have a0 : (hf l.length : Int) ≤ ((l.map fun p => [eBytes p]).length : Int) := by omega
  have a01 : (0 : Int) ≤ (hf l.length : Int) := by omega
  have a3 := lsOne l
  have hfn : FnD Tryd.prog 76 [.one (.e (eI ((l.map fun p => [eBytes p]).length : Int)))] (.one (.e (eI (hf l.length : Int)))) := by
    rw [hll]
    exact half_fn l.length hl64
  have hrt := fun b => rootG_fn hm (ne_of_len (pin_lt b h2).1) (by have := (pin_lt b h2).2; omega) (pin_gl b h2 hl64 hg)
  have hih := fun b j hj => ih (pin b l) j (pin_lt b h2).1 (by have := (pin_lt b h2).2; omega) (by have := (pin_lt b h2).2; omega) hj (pin_gl b h2 hl64 hg)
  have hpl1 := fun b j => incP_len mode f (pin b l) j (by have := (pin_lt b h2).2; omega)
  have lT := lsTake l (hf l.length)
  have lD := lsDrop l (hf l.length)
  have pl1 := pin_len true h2
  have pl2 := pin_len false h2
  repeat' (first | refine tr_seq ?_ | refine tr_block ?_ | refine tr_skip ?_)
  refine tr_region (lex (T := tab) tOk hnt rfl ?_ (call rfl rfl rfl rfl rfl rfl rfl hnt (hfn) (lex (T := tab) tOk hnt rfl ?_ (Lex.nil _)))) ?_
  · (dsimp only [AllP]; (repeat' first | exact trivial | assumption | exact Nat.le_of_ble_eq_true rfl | apply And.intro | decide | intro _ | exact rfl))
  · (dsimp only [AllP]; (repeat' first | exact trivial | assumption | exact Nat.le_of_ble_eq_true rfl | apply And.intro | decide | intro _ | exact rfl))
  repeat' (first | refine tr_seq ?_ | refine reg (T := tab) tOk hnt rfl ?_ ?_ | refine regD (T := tab) tOk mixedR hnt rfl (by decide +kernel) ?_ ?_ | refine tr_block ?_ | refine tr_skip ?_)
  · (dsimp only [AllP]; (repeat' first | exact trivial | assumption | exact Nat.le_of_ble_eq_true rfl | apply And.intro | exact eCells_len1 _ _ ‹_› | exact eCells_isByte _ _ ‹_› | intro _ | exact rfl | omega))
  · (dsimp only [AllP]; (repeat' first | exact trivial | assumption | exact Nat.le_of_ble_eq_true rfl | apply And.intro | decide | intro _ | exact rfl))
  repeat' (first | refine tr_seq ?_ | refine tr_block ?_ | refine tr_skip ?_)
  refine tr_cond rfl (fun hc => ?_) (fun hc => ?_)
  · have hc : (hf l.length : Int) ≤ (i : Int) := of_decide_eq_true hc
    have hc : ¬ i < hf l.length := by omega
    have hwi : IntKind.i64.wrap ((i : Int) - (hf l.length : Int)) = ((i - hf l.length : Nat) : Int) := by
      rw [wrap64_id (by omega) (by omega)]
      omega
    have hI := hih false (i - hf l.length) (by rw [pl2]; simp only [cond_false]; omega)
    have hR := hrt true
    have hpl := hpl1 false (i - hf l.length)
    rw [show eLists (pin false l) = _ from lD, ← hwi] at hI
    rw [show eLists (pin true l) = _ from lT] at hR
    simp only [if_neg hc, decide_eq_false hc, Bool.not_false]
    generalize incP mode f (pin false l) (i - hf l.length) = ps at *
    generalize rvL mode (pin true l) = d at *
    have hpl : (eLs ps).length ≤ 64 := by rw [List.length_map]; omega
    repeat' (first | refine tr_seq ?_ | refine reg (T := tab) tOk hnt rfl ?_ ?_ | refine regD (T := tab) tOk mixedR hnt rfl (by decide +kernel) ?_ ?_ | refine tr_block ?_ | refine tr_skip ?_)
    · (dsimp only [AllP]; (repeat' first | exact trivial | assumption | exact Nat.le_of_ble_eq_true rfl | apply And.intro | decide | intro _ | exact rfl))
    repeat' (first | refine tr_seq ?_ | refine tr_block ?_ | refine tr_skip ?_)
    refine tr_region (lex (T := tab) tOk hnt rfl ?_ (callO (base := 0) rfl rfl rfl rfl rfl rfl rfl hnt rfl rfl (hI) rfl (lex (T := tab) tOk hnt rfl ?_ (Lex.nil _)))) ?_
    · (dsimp only [AllP]; (repeat' first | exact trivial | assumption | exact Nat.le_of_ble_eq_true rfl | apply And.intro | exact eCells_len1 _ _ ‹_› | exact eCells_isByte _ _ ‹_› | intro _ | exact rfl | omega))
    · (dsimp only [AllP]; (repeat' first | exact trivial | assumption | exact Nat.le_of_ble_eq_true rfl | apply And.intro | decide | intro _ | exact rfl))
    repeat' (first | refine tr_seq ?_ | refine reg (T := tab) tOk hnt rfl ?_ ?_ | refine regD (T := tab) tOk mixedR hnt rfl (by decide +kernel) ?_ ?_ | refine tr_block ?_ | refine tr_skip ?_)
    · (dsimp only [AllP]; (repeat' first | exact trivial | assumption | exact Nat.le_of_ble_eq_true rfl | apply And.intro | decide | intro _ | exact rfl))
    refine tr_cond rfl (fun h => nomatch (show false = true from h)) (fun _ => ?_)
    repeat' (first | refine tr_seq ?_ | refine tr_block ?_ | refine tr_skip ?_)
    refine tr_region (lex (T := tab) tOk hnt rfl ?_ (callV rfl rfl rfl rfl rfl rfl rfl hnt rfl (hR) (lex (T := tab) tOk hnt rfl ?_ (Lex.nil _)))) ?_
    · (dsimp only [AllP]; (repeat' first | exact trivial | assumption | exact Nat.le_of_ble_eq_true rfl | apply And.intro | exact eCells_len1 _ _ ‹_› | exact eCells_isByte _ _ ‹_› | intro _ | exact rfl | omega))
    · (dsimp only [AllP]; (repeat' first | exact trivial | assumption | exact Nat.le_of_ble_eq_true rfl | apply And.intro | decide | intro _ | exact rfl))
    repeat' (first | refine tr_seq ?_ | refine reg (T := tab) tOk hnt rfl ?_ ?_ | refine regD (T := tab) tOk mixedR hnt rfl (by decide +kernel) ?_ ?_ | refine tr_block ?_ | refine tr_skip ?_)
    · (dsimp only [AllP]; (repeat' first | exact trivial | assumption | exact Nat.le_of_ble_eq_true rfl | apply And.intro | decide | intro _ | exact rfl))
    refine tr_cond rfl (fun h => nomatch (show false = true from h)) (fun _ => ?_)
    repeat' (first | refine tr_seq ?_ | refine reg (T := tab) tOk hnt rfl ?_ ?_ | refine regD (T := tab) tOk mixedR hnt rfl (by decide +kernel) ?_ ?_ | refine tr_block ?_ | refine tr_skip ?_)
    · (dsimp only [AllP]; (repeat' first | exact trivial | assumption | exact Nat.le_of_ble_eq_true rfl | apply And.intro | exact eCells_len1 _ _ ‹_› | exact eCells_isByte _ _ ‹_› | intro _ | exact rfl | omega | exact Nat.le_trans (Nat.add_le_add_right hpl 1) (by decide) | exact Nat.le_trans (Nat.mul_le_mul_right _ (Nat.add_le_add_right hpl 1)) (by decide) | exact Nat.le_trans (Nat.add_le_add_left hpl 0) (by decide) | exact Nat.le_trans (Nat.mul_le_mul_right _ (Nat.add_le_add_left hpl 0)) (by decide)))
    exact tr_ret ⟨.inr rfl, _, _, _, rfl, trivial, rfl, fun X => le_two (ad := []) (.ds [.own 57 1]) (.es [eI 0]) (.ds [.own 57 0]) (.es [eI 0]) (.own 57 1) (.e (eI 0)) (.own 57 0) (.e (eI 0)) rfl rfl rfl rfl ⟨⟨rfl, rfl, rfl, rfl⟩, rfl, trivial⟩ (memOk_row rfl rfl (eLs_snoc ps d) trivial)⟩
  have hc : ¬ (hf l.length : Int) ≤ (i : Int) := of_decide_eq_false hc
  have hc : i < hf l.length := by omega
  have hI := hih true i (by rw [pl1]; exact hc)
  have hR := hrt false
  have hpl := hpl1 true i
  rw [show eLists (pin true l) = _ from lT] at hI
  rw [show eLists (pin false l) = _ from lD] at hR
  simp only [if_pos hc, decide_eq_true hc, Bool.not_true]
  generalize incP mode f (pin true l) i = ps at *
  generalize rvL mode (pin false l) = d at *
  have hpl : (eLs ps).length ≤ 64 := by rw [List.length_map]; omega
  repeat' (first | refine tr_seq ?_ | refine tr_block ?_ | refine tr_skip ?_)
  refine tr_region (lex (T := tab) tOk hnt rfl ?_ (callO (base := 0) rfl rfl rfl rfl rfl rfl rfl hnt rfl rfl (hI) rfl (lex (T := tab) tOk hnt rfl ?_ (Lex.nil _)))) ?_
  · (dsimp only [AllP]; (repeat' first | exact trivial | assumption | exact Nat.le_of_ble_eq_true rfl | apply And.intro | exact eCells_len1 _ _ ‹_› | exact eCells_isByte _ _ ‹_› | intro _ | exact rfl | omega))
  · (dsimp only [AllP]; (repeat' first | exact trivial | assumption | exact Nat.le_of_ble_eq_true rfl | apply And.intro | decide | intro _ | exact rfl))
  repeat' (first | refine tr_seq ?_ | refine reg (T := tab) tOk hnt rfl ?_ ?_ | refine regD (T := tab) tOk mixedR hnt rfl (by decide +kernel) ?_ ?_ | refine tr_block ?_ | refine tr_skip ?_)
  · (dsimp only [AllP]; (repeat' first | exact trivial | assumption | exact Nat.le_of_ble_eq_true rfl | apply And.intro | decide | intro _ | exact rfl))
  refine tr_cond rfl (fun h => nomatch (show false = true from h)) (fun _ => ?_)
  repeat' (first | refine tr_seq ?_ | refine tr_block ?_ | refine tr_skip ?_)
  refine tr_region (lex (T := tab) tOk hnt rfl ?_ (callV rfl rfl rfl rfl rfl rfl rfl hnt rfl (hR) (lex (T := tab) tOk hnt rfl ?_ (Lex.nil _)))) ?_
  · (dsimp only [AllP]; (repeat' first | exact trivial | assumption | exact Nat.le_of_ble_eq_true rfl | apply And.intro | exact eCells_len1 _ _ ‹_› | exact eCells_isByte _ _ ‹_› | intro _ | exact rfl | omega))
  · (dsimp only [AllP]; (repeat' first | exact trivial | assumption | exact Nat.le_of_ble_eq_true rfl | apply And.intro | decide | intro _ | exact rfl))
  repeat' (first | refine tr_seq ?_ | refine reg (T := tab) tOk hnt rfl ?_ ?_ | refine regD (T := tab) tOk mixedR hnt rfl (by decide +kernel) ?_ ?_ | refine tr_block ?_ | refine tr_skip ?_)
  · (dsimp only [AllP]; (repeat' first | exact trivial | assumption | exact Nat.le_of_ble_eq_true rfl | apply And.intro | decide | intro _ | exact rfl))
  refine tr_cond rfl (fun h => nomatch (show false = true from h)) (fun _ => ?_)
  repeat' (first | refine tr_seq ?_ | refine reg (T := tab) tOk hnt rfl ?_ ?_ | refine regD (T := tab) tOk mixedR hnt rfl (by decide +kernel) ?_ ?_ | refine tr_block ?_ | refine tr_skip ?_)
  · (dsimp only [AllP]; (repeat' first | exact trivial | assumption | exact Nat.le_of_ble_eq_true rfl | apply And.intro | exact eCells_len1 _ _ ‹_› | exact eCells_isByte _ _ ‹_› | intro _ | exact rfl | omega | exact Nat.le_trans (Nat.add_le_add_right hpl 1) (by decide) | exact Nat.le_trans (Nat.mul_le_mul_right _ (Nat.add_le_add_right hpl 1)) (by decide) | exact Nat.le_trans (Nat.add_le_add_left hpl 0) (by decide) | exact Nat.le_trans (Nat.mul_le_mul_right _ (Nat.add_le_add_left hpl 0)) (by decide)))
  exact tr_ret ⟨.inr rfl, _, _, _, rfl, trivial, rfl, fun X => le_two (ad := []) (.ds [.own 57 1]) (.es [eI 0]) (.ds [.own 57 0]) (.es [eI 0]) (.own 57 1) (.e (eI 0)) (.own 57 0) (.e (eI 0)) rfl rfl rfl rfl ⟨⟨rfl, rfl, rfl, rfl⟩, rfl, trivial⟩ (memOk_row rfl rfl (eLs_snoc ps d) trivial)⟩
theorem include_fn {mode : Int} (hm : ¬ (mode ≠ 1 ∧ mode ≠ 2)) : ∀ (f : Nat), f ≤ 64 → ∀ (l : List Byt) (i : Nat), 1 ≤ l.length → l.length ≤ f → l.length ≤ 64 → i < l.length → Gl mode l → FnO Tryd.prog 62 gK [.one (.e (eI mode)), .one (.e (eLists l)), .one (.e (eI (i : Int)))] rLO [(57, ⟨0, .row 1 (eLs (incP mode f l i)), 0⟩)]
  | 0, _, l, i, h1, h2, _, _, _ => by omega
  | f + 1, hf, l, i, h1, h2, h3, h4, h5 => include_succ mode hm f (include_fn hm f (by omega)) l i h1 h2 hf h3 h4 h5
def incF (mode : Int) (l : List Byt) (i : Int) : List Byt × Int := if rfF mode l ≠ 0 then ([], rfF mode l) else if i < 0 ∨ (l.length : Int) ≤ i then ([], 6) else match rtO (eO mode) (pO mode) 64 l with
  | none => ([], 1)
  | some _ => (incP mode 64 l i.toNat, 0)
theorem incF_len (mode : Int) (l : List Byt) (i : Int) : (incF mode l i).1.length ≤ 1000000000 := by
  unfold incF
  split
  · exact Nat.zero_le _
  split
  · exact Nat.zero_le _
  split
  · exact Nat.zero_le _
  · rename_i h _ _ _ _
    have := (rfF_zero (Classical.not_not.1 h)).2
    have := incP_len mode 64 l i.toNat this
    show (incP mode 64 l i.toNat).length ≤ 1000000000
    omega
set_option maxRecDepth 10000 in
theorem Include_fn (mode : Int) (l : List Byt) (i : Int) : FnG Tryd.prog 28 gK [.one (.e (eI mode)), .one (.e (eLists l)), .one (.e (eI i))] (rLE (incF mode l i)) := by
  refine fn_introG (T := tab) tOk Tryd.func28 rfl (by kernel_rfl) (by simp [Tryd.ntmps28]) ?_
  intro X hX
  have hnt : X.nt = 40 := hX
  clear hX
  unfold incF
  have hll := lsLen l
  have h1 := fault_fn mode l
  have hz := @rfF_zero mode l
  generalize rfF mode l = e at *
  repeat' (first | refine tr_seq ?_ | refine reg (T := tab) tOk hnt rfl ?_ ?_ | refine regD (T := tab) tOk mixedR hnt rfl (by decide +kernel) ?_ ?_ | refine tr_block ?_ | refine tr_skip ?_)
  · (dsimp only [AllP]; (repeat' first | exact trivial | assumption | exact Nat.le_of_ble_eq_true rfl | apply And.intro | decide | intro _ | exact rfl))
  repeat' (first | refine tr_seq ?_ | refine tr_block ?_ | refine tr_skip ?_)
  refine tr_region (lex (T := tab) tOk hnt rfl ?_ (call rfl rfl rfl rfl rfl rfl rfl hnt (h1) (lex (T := tab) tOk hnt rfl ?_ (Lex.nil _)))) ?_
  · (dsimp only [AllP]; (repeat' first | exact trivial | assumption | exact Nat.le_of_ble_eq_true rfl | apply And.intro | decide | intro _ | exact rfl))
  · (dsimp only [AllP]; (repeat' first | exact trivial | assumption | exact Nat.le_of_ble_eq_true rfl | apply And.intro | decide | intro _ | exact rfl))
  repeat' (first | refine tr_seq ?_ | refine reg (T := tab) tOk hnt rfl ?_ ?_ | refine regD (T := tab) tOk mixedR hnt rfl (by decide +kernel) ?_ ?_ | refine tr_block ?_ | refine tr_skip ?_)
  · (dsimp only [AllP]; (repeat' first | exact trivial | assumption | exact Nat.le_of_ble_eq_true rfl | apply And.intro | decide | intro _ | exact rfl))
  repeat' (first | refine tr_seq ?_ | refine tr_block ?_ | refine tr_skip ?_)
  refine tr_cond rfl (fun hc => ?_) (fun hc => ?_)
  · have hc : e ≠ 0 := of_decide_eq_true ((neD' e).symm.trans hc)
    rw [if_pos hc]
    repeat' (first | refine tr_seq ?_ | refine reg (T := tab) tOk hnt rfl ?_ ?_ | refine regD (T := tab) tOk mixedR hnt rfl (by decide +kernel) ?_ ?_ | refine tr_block ?_ | refine tr_skip ?_)
    · (dsimp only [AllP]; (repeat' first | exact trivial | assumption | exact Nat.le_of_ble_eq_true rfl | apply And.intro | decide | intro _ | exact rfl))
    exact tr_ret ⟨.inr rfl, _, _, rfl, trivial, rfl⟩
  have hc2 : ¬ e ≠ 0 := of_decide_eq_false ((neD' e).symm.trans hc)
  rw [if_neg hc2]
  obtain ⟨hm, hl⟩ := hz (Classical.not_not.1 hc2)
  repeat' (first | refine tr_seq ?_ | refine reg (T := tab) tOk hnt rfl ?_ ?_ | refine regD (T := tab) tOk mixedR hnt rfl (by decide +kernel) ?_ ?_ | refine tr_block ?_ | refine tr_skip ?_)
  · (dsimp only [AllP]; (repeat' first | exact trivial | assumption | exact Nat.le_of_ble_eq_true rfl | apply And.intro | decide | intro _ | exact rfl))
  repeat' (first | refine tr_seq ?_ | refine tr_block ?_ | refine tr_skip ?_)
  refine tr_cond rfl (fun hc => ?_) (fun hc => ?_)
  · have hc := of_decide_eq_true ((orDn i _).symm.trans hc)
    rw [hll] at hc
    rw [if_pos hc]
    repeat' (first | refine tr_seq ?_ | refine reg (T := tab) tOk hnt rfl ?_ ?_ | refine regD (T := tab) tOk mixedR hnt rfl (by decide +kernel) ?_ ?_ | refine tr_block ?_ | refine tr_skip ?_)
    · (dsimp only [AllP]; (repeat' first | exact trivial | assumption | exact Nat.le_of_ble_eq_true rfl | apply And.intro | decide | intro _ | exact rfl))
    exact tr_ret ⟨.inr rfl, _, _, rfl, trivial, rfl⟩
  have hc := of_decide_eq_false ((orDn i _).symm.trans hc)
  rw [hll] at hc
  rw [if_neg hc]
  obtain ⟨i, rfl⟩ : ∃ n : Nat, i = (n : Int) := ⟨i.toNat, by omega⟩
  rw [Int.toNat_natCast]
  have hne : l ≠ [] := ne_of_len (by omega)
  have hr := root_fn mode hm l hl
  rw [rtF, if_neg hne] at hr
  cases hO : rtO (eO mode) (pO mode) 64 l with
  | none =>
    rw [hO] at hr
    repeat' (first | refine tr_seq ?_ | refine tr_block ?_ | refine tr_skip ?_)
    refine tr_region (lex (T := tab) tOk hnt rfl ?_ (callV rfl rfl rfl rfl rfl rfl rfl hnt rfl (hr) (lex (T := tab) tOk hnt rfl ?_ (Lex.nil _)))) ?_
    · (dsimp only [AllP]; (repeat' first | exact trivial | assumption | exact Nat.le_of_ble_eq_true rfl | apply And.intro | decide | intro _ | exact rfl))
    · (dsimp only [AllP]; (repeat' first | exact trivial | assumption | exact Nat.le_of_ble_eq_true rfl | apply And.intro | decide | intro _ | exact rfl))
    repeat' (first | refine tr_seq ?_ | refine reg (T := tab) tOk hnt rfl ?_ ?_ | refine regD (T := tab) tOk mixedR hnt rfl (by decide +kernel) ?_ ?_ | refine tr_block ?_ | refine tr_skip ?_)
    · (dsimp only [AllP]; (repeat' first | exact trivial | assumption | exact Nat.le_of_ble_eq_true rfl | apply And.intro | decide | intro _ | exact rfl))
    refine tr_cond rfl (fun _ => ?_) (fun h => nomatch (show true = false from h))
    repeat' (first | refine tr_seq ?_ | refine reg (T := tab) tOk hnt rfl ?_ ?_ | refine regD (T := tab) tOk mixedR hnt rfl (by decide +kernel) ?_ ?_ | refine tr_block ?_ | refine tr_skip ?_)
    · (dsimp only [AllP]; (repeat' first | exact trivial | assumption | exact Nat.le_of_ble_eq_true rfl | apply And.intro | decide | intro _ | exact rfl))
    exact tr_ret ⟨.inr rfl, _, _, rfl, trivial, rfl⟩
  | some d =>
  have hg : Gl mode l := fun h => nomatch h.symm.trans hO
  rw [hO] at hr
  have hI := include_fn hm 64 (Nat.le_refl _) l i (by omega) hl hl (by omega) hg
  generalize incP mode 64 l i = ps at *
  repeat' (first | refine tr_seq ?_ | refine tr_block ?_ | refine tr_skip ?_)
  refine tr_region (lex (T := tab) tOk hnt rfl ?_ (callV rfl rfl rfl rfl rfl rfl rfl hnt rfl (hr) (lex (T := tab) tOk hnt rfl ?_ (Lex.nil _)))) ?_
  · (dsimp only [AllP]; (repeat' first | exact trivial | assumption | exact Nat.le_of_ble_eq_true rfl | apply And.intro | decide | intro _ | exact rfl))
  · (dsimp only [AllP]; (repeat' first | exact trivial | assumption | exact Nat.le_of_ble_eq_true rfl | apply And.intro | decide | intro _ | exact rfl))
  repeat' (first | refine tr_seq ?_ | refine reg (T := tab) tOk hnt rfl ?_ ?_ | refine regD (T := tab) tOk mixedR hnt rfl (by decide +kernel) ?_ ?_ | refine tr_block ?_ | refine tr_skip ?_)
  · (dsimp only [AllP]; (repeat' first | exact trivial | assumption | exact Nat.le_of_ble_eq_true rfl | apply And.intro | decide | intro _ | exact rfl))
  refine tr_cond rfl (fun h => nomatch (show false = true from h)) (fun _ => ?_)
  repeat' (first | refine tr_seq ?_ | refine tr_block ?_ | refine tr_skip ?_)
  refine tr_region (lex (T := tab) tOk hnt rfl ?_ (callO (base := 2000) rfl rfl rfl rfl rfl rfl rfl hnt rfl rfl (hI) rfl (lex (T := tab) tOk hnt rfl ?_ (Lex.nil _)))) ?_
  · (dsimp only [AllP]; (repeat' first | exact trivial | assumption | exact Nat.le_of_ble_eq_true rfl | apply And.intro | decide | intro _ | exact rfl))
  · (dsimp only [AllP]; (repeat' first | exact trivial | assumption | exact Nat.le_of_ble_eq_true rfl | apply And.intro | decide | intro _ | exact rfl))
  exact tr_ret ⟨.inr rfl, _, _, rfl, trivial, rfl⟩
set_option maxRecDepth 10000 in
theorem turned_fn (ps : List Byt) (hb : ps.length ≤ (1000000 + 0)) : FnD Tryd.prog 64 [.one (.e (eLists ps))] (.one (.e (eLists ps.reverse))) := by
  refine fn_intro (T := tab) tOk Tryd.func64 rfl (by kernel_rfl) (by simp [Tryd.ntmps64]) ?_
  intro X hX
  have hnt : X.nt = 20 := hX
  clear hX
  have hll := lsLen ps
  repeat' (first | refine tr_seq ?_ | refine reg (T := tab) tOk hnt rfl ?_ ?_ | refine regD (T := tab) tOk mixedR hnt rfl (by decide +kernel) ?_ ?_ | refine tr_block ?_ | refine tr_skip ?_)
  · (dsimp only [AllP]; (repeat' first | exact trivial | assumption | exact Nat.le_of_ble_eq_true rfl | apply And.intro | decide | intro _ | exact rfl))
  · (dsimp only [AllP]; (repeat' first | exact trivial | assumption | exact Nat.le_of_ble_eq_true rfl | apply And.intro | decide | intro _ | exact rfl))
  · (dsimp only [AllP]; (repeat' first | exact trivial | assumption | exact Nat.le_of_ble_eq_true rfl | apply And.intro | decide | intro _ | exact rfl))
  have hw : IntKind.i64.wrap (((ps.map fun p => [eBytes p]).length : Int) - 1) = (ps.length : Int) - 1 := by
    rw [hll, wrap64_id (by omega) (by omega)]
  rw [hw]
  repeat' (first | refine tr_seq ?_ | refine tr_block ?_ | refine tr_skip ?_)
  refine tr_loop (σ := Nat × List Byt) (fun x => St.of [(0, .one (.e (eLists ps))), (3, .one (.own 18 0)), (4, .one (.e (eI ((x.1 : Int) - 1))))] [(18, ⟨0, .row 1 (eLs x.2), 0⟩)]) (fun x => x.1 ≤ ps.length ∧ x.2 = (ps.drop x.1).reverse) (fun x => x.1) ((ps.length, [])) (le_of (ad := [18]) (by refine ⟨?_, ?_, ?_, trivial⟩ <;> first | exact trivial | rfl | exact ⟨rfl, rfl⟩ | exact ⟨rfl, rfl, rfl⟩ | exact ⟨rfl, rfl, rfl, rfl⟩ | exact ⟨rfl, rfl, rfl, rfl, rfl⟩ | exact congrArg (fun z : Int => E.v (.int .i64 z)) (wrap64_id (by omega) (by omega))) (memOk_new rfl (by decide) trivial)) ⟨Nat.le_refl _, by rw [List.drop_length]; rfl⟩ ?_
  rintro ⟨k, out⟩ ⟨hk, ho⟩
  dsimp only at hk ho ⊢
  repeat' (first | refine tr_seq ?_ | refine reg (T := tab) tOk hnt rfl ?_ ?_ | refine regD (T := tab) tOk mixedR hnt rfl (by decide +kernel) ?_ ?_ | refine tr_block ?_ | refine tr_skip ?_)
  · (dsimp only [AllP]; (repeat' first | exact trivial | assumption | exact Nat.le_of_ble_eq_true rfl | apply And.intro | decide | intro _ | exact rfl))
  repeat' (first | refine tr_seq ?_ | refine tr_block ?_ | refine tr_skip ?_)
  refine tr_cond rfl (fun hc => ?_) (fun hc => ?_)
  · have hc : (0 : Int) ≤ (k : Int) - 1 := of_decide_eq_true hc
    cases k with
    | zero => exact absurd hc (by decide)
    | succ k =>
    have hix : ((k + 1 : Nat) : Int) - 1 = (k : Int) := by omega
    rw [hix]
    have hol : out.length ≤ ps.length := by rw [ho, List.length_reverse, List.length_drop]; omega
    have hol2 : (eLs out).length ≤ (1000000 + 0) := by rw [List.length_map]; omega
    have hgt : (ps.map fun p => [eBytes p]).getD (k : Int).toNat [] = [eBytes (ps.getD k [])] := by
      rw [Int.toNat_natCast, lsGet ps (by omega)]
    repeat' (first | refine tr_seq ?_ | refine reg (T := tab) tOk hnt rfl ?_ ?_ | refine regD (T := tab) tOk mixedR hnt rfl (by decide +kernel) ?_ ?_ | refine tr_block ?_ | refine tr_skip ?_)
    · rw [hgt]
      (dsimp only [AllP]; (repeat' first | exact trivial | assumption | exact Nat.le_of_ble_eq_true rfl | apply And.intro | exact eCells_len1 _ _ ‹_› | exact eCells_isByte _ _ ‹_› | intro _ | exact rfl | omega | exact Nat.le_trans (Nat.add_le_add_right hol2 1) (by decide) | exact Nat.le_trans (Nat.mul_le_mul_right _ (Nat.add_le_add_right hol2 1)) (by decide) | exact Nat.le_trans (Nat.add_le_add_left hol2 0) (by decide) | exact Nat.le_trans (Nat.mul_le_mul_right _ (Nat.add_le_add_left hol2 0)) (by decide)))
    · (dsimp only [AllP]; (repeat' first | exact trivial | assumption | exact Nat.le_of_ble_eq_true rfl | apply And.intro | exact eCells_len1 _ _ ‹_› | exact eCells_isByte _ _ ‹_› | intro _ | exact rfl | omega))
    have hw2 : IntKind.i64.wrap ((k : Int) - 1) = (k : Int) - 1 := wrap64_id (by omega) (by omega)
    refine ⟨(k, out ++ [ps.getD k []]), ⟨by dsimp only; omega, ?_⟩, Nat.lt_succ_self _, le_of (ad := []) ⟨rfl, ⟨rfl, rfl, rfl, rfl⟩, congrArg (fun z : Int => E.v (.int .i64 z)) hw2, trivial⟩ (memOk_row rfl rfl ?_ trivial)⟩
    · dsimp only
      rw [ho, List.drop_eq_getElem_cons (show k < ps.length by omega), List.reverse_cons, show ps.getD k [] = ps[k] by simp [List.getD, show k < ps.length by omega]]
    · rw [hgt]
      exact eLs_snoc out (ps.getD k [])
  have hc : ¬ (0 : Int) ≤ (k : Int) - 1 := of_decide_eq_false hc
  have hk0 : k = 0 := by omega
  subst hk0
  rw [List.drop_zero] at ho
  subst ho
  refine tr_exit ?_
  repeat' (first | refine tr_seq ?_ | refine reg (T := tab) tOk hnt rfl ?_ ?_ | refine regD (T := tab) tOk mixedR hnt rfl (by decide +kernel) ?_ ?_ | refine tr_block ?_ | refine tr_skip ?_)
  · (dsimp only [AllP]; (repeat' first | exact trivial | assumption | exact Nat.le_of_ble_eq_true rfl | apply And.intro | decide | intro _ | exact rfl))
  exact tr_ret ⟨.inr rfl, _, _, rfl, trivial, rfl⟩
set_option maxRecDepth 10000 in
theorem IncludeOf_fn (mode : Int) (l : List Byt) (i : Int) : FnD Tryd.prog 29 [.one (.e (eI mode)), .one (.e (eLists l)), .one (.e (eI i))] (rLE (incF mode l i)) := by
  refine fn_intro (T := tab) tOk Tryd.func29 rfl (by kernel_rfl) (by simp [Tryd.ntmps29]) ?_
  intro X hX
  have hnt : X.nt = 75 := hX
  clear hX
  unfold incF
  have hll := lsLen l
  have h1 := rollFault_fn mode l
  have hz := @rfF_zero mode l
  generalize rfF mode l = e at *
  repeat' (first | refine tr_seq ?_ | refine reg (T := tab) tOk hnt rfl ?_ ?_ | refine regD (T := tab) tOk mixedR hnt rfl (by decide +kernel) ?_ ?_ | refine tr_block ?_ | refine tr_skip ?_)
  · (dsimp only [AllP]; (repeat' first | exact trivial | assumption | exact Nat.le_of_ble_eq_true rfl | apply And.intro | decide | intro _ | exact rfl))
  repeat' (first | refine tr_seq ?_ | refine tr_block ?_ | refine tr_skip ?_)
  refine tr_region (lex (T := tab) tOk hnt rfl ?_ (call rfl rfl rfl rfl rfl rfl rfl hnt (h1) (lex (T := tab) tOk hnt rfl ?_ (Lex.nil _)))) ?_
  · (dsimp only [AllP]; (repeat' first | exact trivial | assumption | exact Nat.le_of_ble_eq_true rfl | apply And.intro | decide | intro _ | exact rfl))
  · (dsimp only [AllP]; (repeat' first | exact trivial | assumption | exact Nat.le_of_ble_eq_true rfl | apply And.intro | decide | intro _ | exact rfl))
  repeat' (first | refine tr_seq ?_ | refine reg (T := tab) tOk hnt rfl ?_ ?_ | refine regD (T := tab) tOk mixedR hnt rfl (by decide +kernel) ?_ ?_ | refine tr_block ?_ | refine tr_skip ?_)
  · (dsimp only [AllP]; (repeat' first | exact trivial | assumption | exact Nat.le_of_ble_eq_true rfl | apply And.intro | decide | intro _ | exact rfl))
  repeat' (first | refine tr_seq ?_ | refine tr_block ?_ | refine tr_skip ?_)
  refine tr_cond rfl (fun hc => ?_) (fun hc => ?_)
  · have hc : e ≠ 0 := of_decide_eq_true ((neD' e).symm.trans hc)
    rw [if_pos hc]
    repeat' (first | refine tr_seq ?_ | refine reg (T := tab) tOk hnt rfl ?_ ?_ | refine regD (T := tab) tOk mixedR hnt rfl (by decide +kernel) ?_ ?_ | refine tr_block ?_ | refine tr_skip ?_)
    · (dsimp only [AllP]; (repeat' first | exact trivial | assumption | exact Nat.le_of_ble_eq_true rfl | apply And.intro | decide | intro _ | exact rfl))
    exact tr_ret ⟨.inr rfl, _, _, rfl, trivial, rfl⟩
  have hc2 : ¬ e ≠ 0 := of_decide_eq_false ((neD' e).symm.trans hc)
  rw [if_neg hc2]
  obtain ⟨hm, hl⟩ := hz (Classical.not_not.1 hc2)
  repeat' (first | refine tr_seq ?_ | refine reg (T := tab) tOk hnt rfl ?_ ?_ | refine regD (T := tab) tOk mixedR hnt rfl (by decide +kernel) ?_ ?_ | refine tr_block ?_ | refine tr_skip ?_)
  · (dsimp only [AllP]; (repeat' first | exact trivial | assumption | exact Nat.le_of_ble_eq_true rfl | apply And.intro | decide | intro _ | exact rfl))
  repeat' (first | refine tr_seq ?_ | refine tr_block ?_ | refine tr_skip ?_)
  refine tr_cond rfl (fun hc => ?_) (fun hc => ?_)
  · have hc := of_decide_eq_true ((orDn i _).symm.trans hc)
    rw [hll] at hc
    rw [if_pos hc]
    repeat' (first | refine tr_seq ?_ | refine reg (T := tab) tOk hnt rfl ?_ ?_ | refine regD (T := tab) tOk mixedR hnt rfl (by decide +kernel) ?_ ?_ | refine tr_block ?_ | refine tr_skip ?_)
    · (dsimp only [AllP]; (repeat' first | exact trivial | assumption | exact Nat.le_of_ble_eq_true rfl | apply And.intro | decide | intro _ | exact rfl))
    exact tr_ret ⟨.inr rfl, _, _, rfl, trivial, rfl⟩
  have hc := of_decide_eq_false ((orDn i _).symm.trans hc)
  rw [hll] at hc
  rw [if_neg hc]
  obtain ⟨i, rfl⟩ : ∃ n : Nat, i = (n : Int) := ⟨i.toNat, by omega⟩
  rw [Int.toNat_natCast]
  have hne : l ≠ [] := ne_of_len (by omega)
  have hr := rollOf_fn mode hm l hl
  rw [rtF, if_neg hne] at hr
  cases hO : rtO (eO mode) (pO mode) 64 l with
  | none =>
    rw [hO] at hr
    repeat' (first | refine tr_seq ?_ | refine tr_block ?_ | refine tr_skip ?_)
    refine tr_region (lex (T := tab) tOk hnt rfl ?_ (call rfl rfl rfl rfl rfl rfl rfl hnt (hr) (lex (T := tab) tOk hnt rfl ?_ (Lex.nil _)))) ?_
    · (dsimp only [AllP]; (repeat' first | exact trivial | assumption | exact Nat.le_of_ble_eq_true rfl | apply And.intro | decide | intro _ | exact rfl))
    · (dsimp only [AllP]; (repeat' first | exact trivial | assumption | exact Nat.le_of_ble_eq_true rfl | apply And.intro | decide | intro _ | exact rfl))
    repeat' (first | refine tr_seq ?_ | refine reg (T := tab) tOk hnt rfl ?_ ?_ | refine regD (T := tab) tOk mixedR hnt rfl (by decide +kernel) ?_ ?_ | refine tr_block ?_ | refine tr_skip ?_)
    · (dsimp only [AllP]; (repeat' first | exact trivial | assumption | exact Nat.le_of_ble_eq_true rfl | apply And.intro | decide | intro _ | exact rfl))
    refine tr_cond rfl (fun _ => ?_) (fun h => nomatch (show true = false from h))
    repeat' (first | refine tr_seq ?_ | refine reg (T := tab) tOk hnt rfl ?_ ?_ | refine regD (T := tab) tOk mixedR hnt rfl (by decide +kernel) ?_ ?_ | refine tr_block ?_ | refine tr_skip ?_)
    · (dsimp only [AllP]; (repeat' first | exact trivial | assumption | exact Nat.le_of_ble_eq_true rfl | apply And.intro | decide | intro _ | exact rfl))
    exact tr_ret ⟨.inr rfl, _, _, rfl, trivial, rfl⟩
  | some d =>
  have hg : Gl mode l := fun h => nomatch h.symm.trans hO
  rw [hO] at hr
  have hpl := incP_len mode 64 l i hl
  generalize hP : incP mode 64 l i = ps at hpl ⊢
  have hP : incP mode 64 l i ++ ([] : List Byt).reverse = ps := by
    rw [hP]
    exact List.append_nil _
  have hil : i < l.length := by omega
  repeat' (first | refine tr_seq ?_ | refine tr_block ?_ | refine tr_skip ?_)
  refine tr_region (lex (T := tab) tOk hnt rfl ?_ (call rfl rfl rfl rfl rfl rfl rfl hnt (hr) (lex (T := tab) tOk hnt rfl ?_ (Lex.nil _)))) ?_
  · (dsimp only [AllP]; (repeat' first | exact trivial | assumption | exact Nat.le_of_ble_eq_true rfl | apply And.intro | decide | intro _ | exact rfl))
  · (dsimp only [AllP]; (repeat' first | exact trivial | assumption | exact Nat.le_of_ble_eq_true rfl | apply And.intro | decide | intro _ | exact rfl))
  repeat' (first | refine tr_seq ?_ | refine reg (T := tab) tOk hnt rfl ?_ ?_ | refine regD (T := tab) tOk mixedR hnt rfl (by decide +kernel) ?_ ?_ | refine tr_block ?_ | refine tr_skip ?_)
  · (dsimp only [AllP]; (repeat' first | exact trivial | assumption | exact Nat.le_of_ble_eq_true rfl | apply And.intro | decide | intro _ | exact rfl))
  refine tr_cond rfl (fun h => nomatch (show false = true from h)) (fun _ => ?_)
  repeat' (first | refine tr_seq ?_ | refine reg (T := tab) tOk hnt rfl ?_ ?_ | refine regD (T := tab) tOk mixedR hnt rfl (by decide +kernel) ?_ ?_ | refine tr_block ?_ | refine tr_skip ?_)
  · (dsimp only [AllP]; (repeat' first | exact trivial | assumption | exact Nat.le_of_ble_eq_true rfl | apply And.intro | decide | intro _ | exact rfl))
  repeat' (first | refine tr_seq ?_ | refine tr_block ?_ | refine tr_skip ?_)
  refine tr_loop (σ := Nat × List Byt × Nat × List Byt) (fun x => St.of [(0, .one (.e (eI mode))), (1, .one (.e (eLists x.2.1))), (2, .one (.e (eI (x.2.2.1 : Int)))), (11, .one (.own 72 0))] [(72, ⟨0, .row 1 (eLs x.2.2.2), 0⟩)]) (fun x => incP mode x.1 x.2.1 x.2.2.1 ++ x.2.2.2.reverse = ps ∧ x.2.1.length ≤ x.1 ∧ x.2.1.length ≤ 64 ∧ x.2.2.1 < x.2.1.length ∧ Gl mode x.2.1 ∧ x.2.2.2.length + x.1 = 64) (fun x => x.1) ((64, l, i, [])) (le_of (ad := [72]) (by refine ⟨?_, ?_, ?_, ?_, trivial⟩ <;> first | exact trivial | rfl | exact ⟨rfl, rfl⟩ | exact ⟨rfl, rfl, rfl⟩ | exact ⟨rfl, rfl, rfl, rfl⟩ | exact ⟨rfl, rfl, rfl, rfl, rfl⟩ | exact congrArg (fun z : Int => E.v (.int .i64 z)) (wrap64_id (by omega) (by omega))) (memOk_new rfl (by decide) trivial)) ⟨hP, hl, hl, hil, hg, rfl⟩ ?_
  clear hg hO hr hne hc hll hl hil hP
  rintro ⟨f, l, i, down⟩ ⟨j1, j2, j3, j4, j5, j6⟩
  dsimp only at j1 j2 j3 j4 j5 j6 ⊢
  have hll := lsLen l
  repeat' (first | refine tr_seq ?_ | refine reg (T := tab) tOk hnt rfl ?_ ?_ | refine regD (T := tab) tOk mixedR hnt rfl (by decide +kernel) ?_ ?_ | refine tr_block ?_ | refine tr_skip ?_)
  · (dsimp only [AllP]; (repeat' first | exact trivial | assumption | exact Nat.le_of_ble_eq_true rfl | apply And.intro | decide | intro _ | exact rfl))
  repeat' (first | refine tr_seq ?_ | refine tr_block ?_ | refine tr_skip ?_)
  refine tr_cond rfl (fun hc => ?_) (fun hc => ?_)
  · have hc : (1 : Int) < ((l.map fun p => [eBytes p]).length : Int) := of_decide_eq_true hc
    obtain ⟨f, rfl⟩ : ∃ g, f = g + 1 := ⟨f - 1, by omega⟩
    have h2 : 2 ≤ l.length := by omega
    have hh := hf_lt h2
    have a0 : (hf l.length : Int) ≤ ((l.map fun p => [eBytes p]).length : Int) := by omega
    have a01 : (0 : Int) ≤ (hf l.length : Int) := by omega
    have a3 := lsOne l
    have hfn : FnD Tryd.prog 63 [.one (.e (eI ((l.map fun p => [eBytes p]).length : Int)))] (.one (.e (eI (hf l.length : Int)))) := by
      rw [hll]
      exact below_fn l.length h2 j3
    have hrt := fun b => rollG_fn hm (ne_of_len (pin_lt b h2).1) (by have := (pin_lt b h2).2; omega) (pin_gl b h2 j3 j5)
    have hnx := fun b => pin_lt b h2
    have hgx := fun b => pin_gl b h2 j3 j5
    have lT := lsTake l (hf l.length)
    have lD := lsDrop l (hf l.length)
    have pl1 := pin_len true h2
    have pl2 := pin_len false h2
    have hol : (eLs down).length ≤ 64 := by rw [List.length_map]; omega
    rw [incP, if_neg (by omega)] at j1
    repeat' (first | refine tr_seq ?_ | refine tr_block ?_ | refine tr_skip ?_)
    refine tr_region (lex (T := tab) tOk hnt rfl ?_ (call rfl rfl rfl rfl rfl rfl rfl hnt (hfn) (lex (T := tab) tOk hnt rfl ?_ (Lex.nil _)))) ?_
    · (dsimp only [AllP]; (repeat' first | exact trivial | assumption | exact Nat.le_of_ble_eq_true rfl | apply And.intro | decide | intro _ | exact rfl))
    · (dsimp only [AllP]; (repeat' first | exact trivial | assumption | exact Nat.le_of_ble_eq_true rfl | apply And.intro | decide | intro _ | exact rfl))
    repeat' (first | refine tr_seq ?_ | refine reg (T := tab) tOk hnt rfl ?_ ?_ | refine regD (T := tab) tOk mixedR hnt rfl (by decide +kernel) ?_ ?_ | refine tr_block ?_ | refine tr_skip ?_)
    · (dsimp only [AllP]; (repeat' first | exact trivial | assumption | exact Nat.le_of_ble_eq_true rfl | apply And.intro | exact eCells_len1 _ _ ‹_› | exact eCells_isByte _ _ ‹_› | intro _ | exact rfl | omega))
    · (dsimp only [AllP]; (repeat' first | exact trivial | assumption | exact Nat.le_of_ble_eq_true rfl | apply And.intro | decide | intro _ | exact rfl))
    repeat' (first | refine tr_seq ?_ | refine tr_block ?_ | refine tr_skip ?_)
    refine tr_cond rfl (fun hc => ?_) (fun hc => ?_)
    · have hc : (i : Int) < (hf l.length : Int) := of_decide_eq_true hc
      have hc : i < hf l.length := by omega
      simp only [if_pos hc, decide_eq_true hc, Bool.not_true] at j1
      have hR := hrt false
      have hn := hnx true
      rw [show eLists (pin false l) = _ from lD] at hR
      repeat' (first | refine tr_seq ?_ | refine reg (T := tab) tOk hnt rfl ?_ ?_ | refine regD (T := tab) tOk mixedR hnt rfl (by decide +kernel) ?_ ?_ | refine tr_block ?_ | refine tr_skip ?_)
      · (dsimp only [AllP]; (repeat' first | exact trivial | assumption | exact Nat.le_of_ble_eq_true rfl | apply And.intro | exact eCells_len1 _ _ ‹_› | exact eCells_isByte _ _ ‹_› | intro _ | exact rfl | omega))
      repeat' (first | refine tr_seq ?_ | refine tr_block ?_ | refine tr_skip ?_)
      refine tr_region (lex (T := tab) tOk hnt rfl ?_ (call rfl rfl rfl rfl rfl rfl rfl hnt (hR) (lex (T := tab) tOk hnt rfl ?_ (Lex.nil _)))) ?_
      · (dsimp only [AllP]; (repeat' first | exact trivial | assumption | exact Nat.le_of_ble_eq_true rfl | apply And.intro | exact eCells_len1 _ _ ‹_› | exact eCells_isByte _ _ ‹_› | intro _ | exact rfl | omega))
      · (dsimp only [AllP]; (repeat' first | exact trivial | assumption | exact Nat.le_of_ble_eq_true rfl | apply And.intro | decide | intro _ | exact rfl))
      repeat' (first | refine tr_seq ?_ | refine reg (T := tab) tOk hnt rfl ?_ ?_ | refine regD (T := tab) tOk mixedR hnt rfl (by decide +kernel) ?_ ?_ | refine tr_block ?_ | refine tr_skip ?_)
      · (dsimp only [AllP]; (repeat' first | exact trivial | assumption | exact Nat.le_of_ble_eq_true rfl | apply And.intro | exact eCells_len1 _ _ ‹_› | exact eCells_isByte _ _ ‹_› | intro _ | exact rfl | omega | exact Nat.le_trans (Nat.add_le_add_right hol 1) (by decide) | exact Nat.le_trans (Nat.mul_le_mul_right _ (Nat.add_le_add_right hol 1)) (by decide) | exact Nat.le_trans (Nat.add_le_add_left hol 0) (by decide) | exact Nat.le_trans (Nat.mul_le_mul_right _ (Nat.add_le_add_left hol 0)) (by decide)))
      refine ⟨(f, pin true l, i, down ++ [rvL mode (pin false l)]), ⟨?_, ?_, ?_, ?_, hgx true, ?_⟩, Nat.lt_succ_self _, le_of (ad := []) ⟨rfl, lT.symm, rfl, ⟨rfl, rfl, rfl, rfl⟩, trivial⟩ (memOk_row rfl rfl (eLs_snoc _ _) trivial)⟩
      · rw [← j1]
        simp
      · dsimp only
        omega
      · dsimp only
        omega
      · dsimp only
        rw [pl1]
        exact hc
      · dsimp only
        rw [List.length_append, List.length_singleton]
        omega
    have hc : ¬ (i : Int) < (hf l.length : Int) := of_decide_eq_false hc
    have hc : ¬ i < hf l.length := by omega
    simp only [if_neg hc, decide_eq_false hc, Bool.not_false] at j1
    have hR := hrt true
    have hn := hnx false
    have hwi : IntKind.i64.wrap ((i : Int) - (hf l.length : Int)) = ((i - hf l.length : Nat) : Int) := by
      rw [wrap64_id (by omega) (by omega)]
      omega
    rw [show eLists (pin true l) = _ from lT] at hR
    repeat' (first | refine tr_seq ?_ | refine reg (T := tab) tOk hnt rfl ?_ ?_ | refine regD (T := tab) tOk mixedR hnt rfl (by decide +kernel) ?_ ?_ | refine tr_block ?_ | refine tr_skip ?_)
    · (dsimp only [AllP]; (repeat' first | exact trivial | assumption | exact Nat.le_of_ble_eq_true rfl | apply And.intro | exact eCells_len1 _ _ ‹_› | exact eCells_isByte _ _ ‹_› | intro _ | exact rfl | omega))
    repeat' (first | refine tr_seq ?_ | refine tr_block ?_ | refine tr_skip ?_)
    refine tr_region (lex (T := tab) tOk hnt rfl ?_ (call rfl rfl rfl rfl rfl rfl rfl hnt (hR) (lex (T := tab) tOk hnt rfl ?_ (Lex.nil _)))) ?_
    · (dsimp only [AllP]; (repeat' first | exact trivial | assumption | exact Nat.le_of_ble_eq_true rfl | apply And.intro | exact eCells_len1 _ _ ‹_› | exact eCells_isByte _ _ ‹_› | intro _ | exact rfl | omega))
    · (dsimp only [AllP]; (repeat' first | exact trivial | assumption | exact Nat.le_of_ble_eq_true rfl | apply And.intro | decide | intro _ | exact rfl))
    repeat' (first | refine tr_seq ?_ | refine reg (T := tab) tOk hnt rfl ?_ ?_ | refine regD (T := tab) tOk mixedR hnt rfl (by decide +kernel) ?_ ?_ | refine tr_block ?_ | refine tr_skip ?_)
    · (dsimp only [AllP]; (repeat' first | exact trivial | assumption | exact Nat.le_of_ble_eq_true rfl | apply And.intro | exact eCells_len1 _ _ ‹_› | exact eCells_isByte _ _ ‹_› | intro _ | exact rfl | omega | exact Nat.le_trans (Nat.add_le_add_right hol 1) (by decide) | exact Nat.le_trans (Nat.mul_le_mul_right _ (Nat.add_le_add_right hol 1)) (by decide) | exact Nat.le_trans (Nat.add_le_add_left hol 0) (by decide) | exact Nat.le_trans (Nat.mul_le_mul_right _ (Nat.add_le_add_left hol 0)) (by decide)))
    refine ⟨(f, pin false l, i - hf l.length, down ++ [rvL mode (pin true l)]), ⟨?_, ?_, ?_, ?_, hgx false, ?_⟩, Nat.lt_succ_self _, le_of (ad := []) ⟨rfl, lD.symm, congrArg (fun z : Int => E.v (.int .i64 z)) hwi, ⟨rfl, rfl, rfl, rfl⟩, trivial⟩ (memOk_row rfl rfl (eLs_snoc _ _) trivial)⟩
    · rw [← j1]
      simp
    · dsimp only
      omega
    · dsimp only
      omega
    · dsimp only
      rw [pl2]
      show i - hf l.length < l.length - hf l.length
      omega
    · dsimp only
      rw [List.length_append, List.length_singleton]
      omega
  have hc : ¬ (1 : Int) < ((l.map fun p => [eBytes p]).length : Int) := of_decide_eq_false hc
  have hem : incP mode f l i = [] := by
    cases f with
    | zero => rfl
    | succ f => rw [incP, if_pos (by omega)]
  rw [hem] at j1
  have hdl : down.length ≤ (1000000 + 0) := by omega
  have ht := turned_fn down hdl
  rw [show down.reverse = ps from j1] at ht
  refine tr_exit ?_
  repeat' (first | refine tr_seq ?_ | refine tr_block ?_ | refine tr_skip ?_)
  refine tr_region (lex (T := tab) tOk hnt rfl ?_ (callU rfl rfl rfl rfl rfl rfl rfl hnt (ht) (lex (T := tab) tOk hnt rfl ?_ (Lex.nil _)))) ?_
  · (dsimp only [AllP]; (repeat' first | exact trivial | assumption | exact Nat.le_of_ble_eq_true rfl | apply And.intro | decide | intro _ | exact rfl))
  · (dsimp only [AllP]; (repeat' first | exact trivial | assumption | exact Nat.le_of_ble_eq_true rfl | apply And.intro | decide | intro _ | exact rfl))
  exact tr_ret ⟨.inr rfl, _, _, rfl, trivial, rfl⟩
set_option maxRecDepth 10000 in
theorem includes_fn (mode : Int) (l : List Byt) (i : Int) : FnG Tryd.prog 9 gK [.one (.e (eI mode)), .one (.e (eLists l)), .one (.e (eI i))] (.v (.bool true)) := by
  refine fn_introG (T := tab) tOk Tryd.func9 rfl (by kernel_rfl) (by simp [Tryd.ntmps9]) ?_
  intro X hX
  have hnt : X.nt = 33 := hX
  clear hX
  have h1 := Include_fn mode l i
  have h2 := IncludeOf_fn mode l i
  have h3 := incF_len mode l i
  generalize incF mode l i = r at *
  obtain ⟨b, e⟩ := r
  repeat' (first | refine tr_seq ?_ | refine reg (T := tab) tOk hnt rfl ?_ ?_ | refine regD (T := tab) tOk mixedR hnt rfl (by decide +kernel) ?_ ?_ | refine tr_block ?_ | refine tr_skip ?_)
  · (dsimp only [AllP]; (repeat' first | exact trivial | assumption | exact Nat.le_of_ble_eq_true rfl | apply And.intro | decide | intro _ | exact rfl))
  repeat' (first | refine tr_seq ?_ | refine tr_block ?_ | refine tr_skip ?_)
  refine tr_region (lex (T := tab) tOk hnt rfl ?_ (callV rfl rfl rfl rfl rfl rfl rfl hnt rfl (h1) (lex (T := tab) tOk hnt rfl ?_ (Lex.nil _)))) ?_
  · (dsimp only [AllP]; (repeat' first | exact trivial | assumption | exact Nat.le_of_ble_eq_true rfl | apply And.intro | decide | intro _ | exact rfl))
  · (dsimp only [AllP]; (repeat' first | exact trivial | assumption | exact Nat.le_of_ble_eq_true rfl | apply And.intro | decide | intro _ | exact rfl))
  repeat' (first | refine tr_seq ?_ | refine tr_block ?_ | refine tr_skip ?_)
  refine tr_region (lex (T := tab) tOk hnt rfl ?_ (call rfl rfl rfl rfl rfl rfl rfl hnt (h2) (lex (T := tab) tOk hnt rfl ?_ (Lex.nil _)))) ?_
  · (dsimp only [AllP]; (repeat' first | exact trivial | assumption | exact Nat.le_of_ble_eq_true rfl | apply And.intro | decide | intro _ | exact rfl))
  · (dsimp only [AllP]; (repeat' first | exact trivial | assumption | exact Nat.le_of_ble_eq_true rfl | apply And.intro | decide | intro _ | exact rfl))
  repeat' (first | refine tr_seq ?_ | refine tr_block ?_ | refine tr_skip ?_)
  refine tr_region (lex (T := tab) tOk hnt rfl ?_ (callG rfl rfl rfl rfl rfl rfl hnt rfl (fun hq => ?_) (fun hq => sameLs_fn b h3) (lex (T := tab) tOk hnt rfl ?_ (Lex.nil _)))) ?_
  · (dsimp only [AllP]; (repeat' first | exact trivial | assumption | exact Nat.le_of_ble_eq_true rfl | apply And.intro | decide | intro _ | exact rfl))
  · exact ⟨hq, hq⟩
  · exact ⟨trivial, fun h => h⟩
  refine tr_ret ⟨.inr rfl, _, _, rfl, by trivial, ?_⟩
  simp
  rfl
end Go.Proofs.YtjpmghphkkhcjaaDoor
