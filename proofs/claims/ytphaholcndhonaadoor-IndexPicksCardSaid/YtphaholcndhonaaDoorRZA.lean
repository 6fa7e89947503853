/- Trees of the program: nodes, the chain of nodes that is built. No condition. -/
import Derived.Test.YtphaholcndhonaaDoorAbTab
import Derived.Test.YtphaholcndhonaaDoorAbJ
import Derived.Test.YtphaholcndhonaaDoorAbD
namespace Go.Proofs.YtphaholcndhonaaDoor.Tr
open Go Go.RowKit Go.Proofs.YtphaholcndhonaaDoor.Ab
set_option linter.unusedSimpArgs false
set_option linter.unusedVariables false

theorem mixedR : Tryd.prog.follows .mixedOrders = true := by kernel_rfl
structure Nd where
  k : List (List UInt8)
  v : List Int
  c : List Int
def nd0 : Nd := ⟨[], [], []⟩
def eKy (b : List UInt8) : E := .v (.string (strB b))
def eKs (l : List (List UInt8)) : List (List E) := l.map fun b => [eKy b]
def eIs (l : List Int) : List (List E) := l.map fun x => [eI x]
def eNd (n : Nd) : List E := [.sl (eKs n.k), .sl (eIs n.v), .sl (eIs n.c)]
def eTr (t : List Nd) : List E := [.sl (t.map eNd)]
/-- the cells of the node that stands for node i -/
def ndE (t : List Nd) : Nat → Nat → List E
  | 0, _ => []
  | f + 1, i => [.sl (eKs (t.getD i nd0).k), .sl (eIs (t.getD i nd0).v), .sl ((t.getD i nd0).c.map fun k => [.pt (ndE t f k.toNat)])]
def shN (n : Nd) : Prop := 1 ≤ n.k.length ∧ n.k.length ≤ 3 ∧ n.v.length = n.k.length ∧ (n.c = [] ∨ n.c.length = n.k.length + 1)
def kdN (t : List Nd) (i : Nat) : Prop := ∀ k ∈ (t.getD i nd0).c, (i : Int) < k ∧ k < (t.length : Int)
structure gT (t : List Nd) : Prop where
  len : t.length ≤ 100
  sh : ∀ i, i < t.length → shN (t.getD i nd0)
  kd : ∀ i, i < t.length → kdN t i
theorem ndsGet (t : List Nd) {i : Nat} (h : i < t.length) : (t.map eNd).getD i [] = eNd (t.getD i nd0) := by
  rw [List.getD_eq_getElem?_getD, List.getElem?_map, List.getElem?_eq_getElem h, List.getD_eq_getElem?_getD, List.getElem?_eq_getElem h]
  rfl
theorem isGet (l : List Int) {i : Nat} (h : i < l.length) : (eIs l).getD i [] = [eI (l.getD i 0)] := by
  unfold eIs
  rw [List.getD_eq_getElem?_getD, List.getElem?_map, List.getElem?_eq_getElem h, List.getD_eq_getElem?_getD, List.getElem?_eq_getElem h]
  rfl
theorem ksGet (l : List (List UInt8)) {i : Nat} (h : i < l.length) : (eKs l).getD i [] = [eKy (l.getD i [])] := by
  unfold eKs
  rw [List.getD_eq_getElem?_getD, List.getElem?_map, List.getElem?_eq_getElem h, List.getD_eq_getElem?_getD, List.getElem?_eq_getElem h]
  rfl
theorem csGet (l : List Int) (p : Nat → List E) {i : Nat} (h : i < l.length) : (l.map fun k => [E.pt (p k.toNat)]).getD i [] = [.pt (p (l.getD i 0).toNat)] := by
  rw [List.getD_eq_getElem?_getD, List.getElem?_map, List.getElem?_eq_getElem h, List.getD_eq_getElem?_getD, List.getElem?_eq_getElem h]
  rfl
theorem takeS {α : Type} {l : List α} {i : Nat} {d : α} (h : i < l.length) : l.take (i + 1) = l.take i ++ [l.getD i d] := by
  rw [List.take_add_one, List.getElem?_eq_getElem h, List.getD_eq_getElem?_getD, List.getElem?_eq_getElem h]
  rfl
theorem isCell (l : List Int) : ∀ cs ∈ eIs l, cs.length = 1 := fun cs h => by obtain ⟨x, _, rfl⟩ := List.mem_map.1 h; rfl
theorem ksCell (l : List (List UInt8)) : ∀ cs ∈ eKs l, cs.length = 1 := fun cs h => by obtain ⟨x, _, rfl⟩ := List.mem_map.1 h; rfl
theorem isLen (l : List Int) : (eIs l).length = l.length := List.length_map ..
theorem ksLen (l : List (List UInt8)) : (eKs l).length = l.length := List.length_map ..
theorem trGet (t : List Nd) {i : Nat} (h : i < t.length) : ((eTr t).getD (0 + 0) E.dflt).xs.getD i [] = eNd (t.getD i nd0) := ndsGet t h
set_option maxRecDepth 10000 in
set_option maxHeartbeats 2000000 in
theorem of_step (t : List Nd) (g : gT t) (f : Nat) (ih : ∀ i, i < t.length → t.length ≤ f + i → FnD Tryd.prog 159 [.agg (.es (eTr t)), .one (.e (eI (i : Int)))] (.one (.e (.pt (ndE t f i))))) (i : Nat) (hi : i < t.length) (hf : t.length ≤ f + 1 + i) : FnD Tryd.prog 159 [.agg (.es (eTr t)), .one (.e (eI (i : Int)))] (.one (.e (.pt (ndE t (f + 1) i)))) := by
  refine fn_intro (T := tab) tOk Tryd.func159 rfl (by kernel_rfl) (by simp [Tryd.ntmps159]) ?_
  intro X hX
  have hnt : X.nt = 45 := hX
  clear hX
  have hl : ((eTr t).getD (0 + 0) E.dflt).xs.length = t.length := List.length_map ..
  have hg := trGet t hi
  obtain ⟨s1, s2, s3, s4⟩ := g.sh i hi
  have hkd := g.kd i hi
  unfold kdN at hkd
  generalize hn : t.getD i nd0 = n at *
  have hcn := isLen n.c
  have hcl : n.c.length ≤ 4 := by rcases s4 with s4 | s4 <;> simp [s4] <;> omega
  have hkl := ksLen n.k
  have hvl := isLen n.v
  repeat' (first | refine tr_seq ?_ | refine tr_block ?_ | refine tr_skip ?_)
  first | refine reg (T := tab) tOk hnt rfl ?_ ?_ | refine regD (T := tab) tOk mixedR hnt rfl (by decide +kernel) ?_ ?_
  · (dsimp only [AllP]; (repeat' first | exact trivial | assumption | exact Nat.le_of_ble_eq_true rfl | apply And.intro | exact eCells_len1 _ _ ‹_› | exact eCells_isByte _ _ ‹_› | (intro hh_; have hg_ := hh_; (try simp only [condT_ff, condF_tt, notE_t, notE_f, Bool.and_eq_true, ne_eq, decide_eq_true_eq, decide_eq_false_iff_not] at hg_)) | intro _ | exact rfl | omega))
    all_goals trace_state
  repeat' (first | refine tr_seq ?_ | refine tr_block ?_ | refine tr_skip ?_)
  first | refine reg (T := tab) tOk hnt rfl ?_ ?_ | refine regD (T := tab) tOk mixedR hnt rfl (by decide +kernel) ?_ ?_
  · rw [Int.toNat_natCast, hg]
    (dsimp only [AllP]; (repeat' first | exact trivial | assumption | exact Nat.le_of_ble_eq_true rfl | apply And.intro | exact eCells_len1 _ _ ‹_› | exact eCells_isByte _ _ ‹_› | (intro hh_; have hg_ := hh_; (try simp only [condT_ff, condF_tt, notE_t, notE_f, Bool.and_eq_true, ne_eq, decide_eq_true_eq, decide_eq_false_iff_not] at hg_)) | intro _ | exact rfl | omega))
    all_goals first | omega | trace_state
  rw [Int.toNat_natCast, hg]
  have m1 : ([] : List (List E)).length + (eIs n.v).length ≤ maxLen := by rw [hvl]; show 0 + n.v.length ≤ maxLen; unfold maxLen; omega
  have m2 : ([] : List (List E)).length + (eKs n.k).length ≤ maxLen := by rw [hkl]; show 0 + n.k.length ≤ maxLen; unfold maxLen; omega
  have m3 : (([] : List (List E)).length + (eIs n.v).length) * 8 ≤ 140737488355328 := by rw [hvl]; show (0 + n.v.length) * 8 ≤ _; omega
  have m4 : (([] : List (List E)).length + (eKs n.k).length) * 16 ≤ 140737488355328 := by rw [hkl]; show (0 + n.k.length) * 16 ≤ _; omega
  repeat' (first | refine tr_seq ?_ | refine tr_block ?_ | refine tr_skip ?_)
  first | refine reg (T := tab) tOk hnt rfl ?_ ?_ | refine regD (T := tab) tOk mixedR hnt rfl (by decide +kernel) ?_ ?_
  · (dsimp only [AllP]; (repeat' first | exact trivial | assumption | exact Nat.le_of_ble_eq_true rfl | apply And.intro | exact eCells_len1 _ _ ‹_› | exact eCells_isByte _ _ ‹_› | (intro hh_; have hg_ := hh_; (try simp only [condT_ff, condF_tt, notE_t, notE_f, Bool.and_eq_true, ne_eq, decide_eq_true_eq, decide_eq_false_iff_not] at hg_)) | intro _ | exact rfl | omega))
    all_goals first | exact isCell _ _ ‹_› | exact ksCell _ _ ‹_› | exact m1 | exact m2 | exact m3 | exact m4 | trace_state
  repeat' (first | refine tr_seq ?_ | refine tr_block ?_ | refine tr_skip ?_)
  first | refine reg (T := tab) tOk hnt rfl ?_ ?_ | refine regD (T := tab) tOk mixedR hnt rfl (by decide +kernel) ?_ ?_
  · (dsimp only [AllP]; (repeat' first | exact trivial | assumption | exact Nat.le_of_ble_eq_true rfl | apply And.intro | exact eCells_len1 _ _ ‹_› | exact eCells_isByte _ _ ‹_› | (intro hh_; have hg_ := hh_; (try simp only [condT_ff, condF_tt, notE_t, notE_f, Bool.and_eq_true, ne_eq, decide_eq_true_eq, decide_eq_false_iff_not] at hg_)) | intro _ | exact rfl | omega))
    all_goals trace_state
  repeat' (first | refine tr_seq ?_ | refine tr_block ?_ | refine tr_skip ?_)
  refine tr_loop (σ := Nat) (fun j => St.of [(2, .one (.ptr 2 0 0)), (6, .one (.ptr 23 0 0)), (25, .one (.e (.sl (eIs n.c)))), (26, .one (.e (eI (((eIs n.c).length : Nat) : Int)))), (27, .one (.e (eI (j : Int))))] [(2, ⟨0, .box (.es (eTr t)), 0⟩), (23, ⟨0, .box (.ds [.own 14 0, .own 18 0, .own 42 0]), 0⟩), (14, ⟨0, .row 1 (eKs n.k), 0⟩), (18, ⟨0, .row 1 (eIs n.v), 0⟩), (42, ⟨0, .row 1 ((n.c.take j).map fun k => [.pt (ndE t f k.toNat)]), 0⟩)]) (fun j => j ≤ n.c.length) (fun j => n.c.length - j) (0) (le_of (ad := [42]) (by refine ⟨?_, ?_, ?_, ?_, ?_, trivial⟩ <;> first | exact trivial | rfl | exact ⟨rfl, rfl⟩ | exact ⟨rfl, rfl, rfl⟩ | exact ⟨rfl, rfl, rfl, rfl⟩ | exact ⟨rfl, rfl, rfl, rfl, rfl⟩ | exact congrArg (fun z : Int => E.v (.int .i64 z)) (wrap64_id (by omega) (by omega)) | exact congrArg (fun z : Int => E.v (.int .u8 z)) (by assumption) | exact congrArg (fun z : ByteArray => E.v (.string z)) (by assumption) | (refine ⟨rfl, ?_⟩; repeat' first | exact trivial | rfl | apply And.intro)) (memOk_box rfl rfl rfl (memOk_box rfl rfl ⟨⟨rfl, rfl, rfl, rfl⟩, ⟨rfl, rfl, rfl, rfl⟩, ⟨rfl, rfl⟩, trivial⟩ (memOk_row rfl rfl rfl (memOk_row rfl rfl rfl (memOk_new rfl (by decide) trivial)))))) (Nat.zero_le _) ?_
  rintro j jl
  repeat' (first | refine tr_seq ?_ | refine reg (T := tab) tOk hnt rfl ?_ ?_ | refine regD (T := tab) tOk mixedR hnt rfl (by decide +kernel) ?_ ?_ | refine tr_block ?_ | refine tr_skip ?_)
  · (dsimp only [AllP]; (repeat' first | exact trivial | assumption | exact Nat.le_of_ble_eq_true rfl | apply And.intro | decide | intro _ | exact rfl))
  repeat' (first | refine tr_seq ?_ | refine tr_block ?_ | refine tr_skip ?_)
  refine tr_cond rfl (fun hc => ?_) (fun hc => ?_)
  · simp only [condT_tt, condT_ff, condF_tt, condF_ff, notE_t, notE_f, decide_eq_true_eq, decide_eq_false_iff_not] at hc
    (try simp only [hcn] at hc)
    (try simp only [condT_tt, condT_ff, condF_tt, condF_ff, notE_t, notE_f, decide_eq_true_eq, decide_eq_false_iff_not] at hc)
    have hlt : j < n.c.length := by omega
    have hgc := isGet n.c hlt
    have hmem : n.c.getD j 0 ∈ n.c := by rw [List.getD_eq_getElem?_getD, List.getElem?_eq_getElem hlt]; exact List.getElem_mem hlt
    obtain ⟨hk1, hk2⟩ := hkd _ hmem
    have hts := takeS (l := n.c) (d := 0) hlt
    generalize n.c.getD j 0 = k at *
    obtain ⟨q, rfl⟩ : ∃ q : Nat, k = (q : Int) := ⟨k.toNat, by omega⟩
    have hq := ih q (by omega) (by omega)
    repeat' (first | refine tr_seq ?_ | refine tr_block ?_ | refine tr_skip ?_)
    first | refine reg (T := tab) tOk hnt rfl ?_ ?_ | refine regD (T := tab) tOk mixedR hnt rfl (by decide +kernel) ?_ ?_
    · rw [Int.toNat_natCast, hgc]
      (dsimp only [AllP]; (repeat' first | exact trivial | assumption | exact Nat.le_of_ble_eq_true rfl | apply And.intro | exact eCells_len1 _ _ ‹_› | exact eCells_isByte _ _ ‹_› | (intro hh_; have hg_ := hh_; (try simp only [condT_ff, condF_tt, notE_t, notE_f, Bool.and_eq_true, ne_eq, decide_eq_true_eq, decide_eq_false_iff_not] at hg_)) | intro _ | exact rfl | omega))
      all_goals trace_state
    rw [Int.toNat_natCast, hgc]
    have hml : ((n.c.take j).map fun k => [E.pt (ndE t f k.toNat)]).length = j := by rw [List.length_map, List.length_take]; omega
    have m5 : ((n.c.take j).map fun k => [E.pt (ndE t f k.toNat)]).length + [[E.pt (ndE t f q)]].length ≤ maxLen := by rw [hml]; show j + 1 ≤ maxLen; unfold maxLen; omega
    have m6 : (((n.c.take j).map fun k => [E.pt (ndE t f k.toNat)]).length + [[E.pt (ndE t f q)]].length) * 8 ≤ 140737488355328 := by rw [hml]; show (j + 1) * 8 ≤ _; omega
    have hou : ((n.c.take j).map fun k => [E.pt (ndE t f k.toNat)]) ++ [[E.pt (ndE t f q)]] = (n.c.take (j + 1)).map fun k => [E.pt (ndE t f k.toNat)] := by
      rw [hts, List.map_append]
      rfl
    have h64 : IntKind.i64.wrap ((j : Int) + 1) = ((j + 1 : Nat) : Int) := wrap64_id (by omega) (by omega)
    repeat' (first | refine tr_seq ?_ | refine tr_block ?_ | refine tr_skip ?_)
    refine tr_draw (T := tab) tOk hnt mixedR (lexD (T := tab) rfl ?_ (callD rfl rfl rfl rfl rfl rfl rfl rfl (hq) (lexD (T := tab) rfl ?_ (.nil _)))) (by decide +kernel) ?_
    · (dsimp only [AllP]; (repeat' first | exact trivial | assumption | exact Nat.le_of_ble_eq_true rfl | apply And.intro | exact eCells_len1 _ _ ‹_› | exact eCells_isByte _ _ ‹_› | (intro hh_; have hg_ := hh_; (try simp only [condT_ff, condF_tt, notE_t, notE_f, Bool.and_eq_true, ne_eq, decide_eq_true_eq, decide_eq_false_iff_not] at hg_)) | intro _ | exact rfl | omega))
      all_goals trace_state
    · (dsimp only [AllP]; (repeat' first | exact trivial | assumption | exact Nat.le_of_ble_eq_true rfl | apply And.intro | exact eCells_len1 _ _ ‹_› | exact eCells_isByte _ _ ‹_› | (intro hh_; have hg_ := hh_; (try simp only [condT_ff, condF_tt, notE_t, notE_f, Bool.and_eq_true, ne_eq, decide_eq_true_eq, decide_eq_false_iff_not] at hg_)) | intro _ | exact rfl | omega))
      all_goals first | exact m5 | exact m6 | trace_state
    repeat' (first | refine tr_seq ?_ | refine tr_block ?_ | refine tr_skip ?_)
    first | refine reg (T := tab) tOk hnt rfl ?_ ?_ | refine regD (T := tab) tOk mixedR hnt rfl (by decide +kernel) ?_ ?_
    · (dsimp only [AllP]; (repeat' first | exact trivial | assumption | exact Nat.le_of_ble_eq_true rfl | apply And.intro | exact eCells_len1 _ _ ‹_› | exact eCells_isByte _ _ ‹_› | (intro hh_; have hg_ := hh_; (try simp only [condT_ff, condF_tt, notE_t, notE_f, Bool.and_eq_true, ne_eq, decide_eq_true_eq, decide_eq_false_iff_not] at hg_)) | intro _ | exact rfl | omega))
      all_goals trace_state
    rw [h64]
    refine ⟨(j + 1), (by omega), by omega, le_of (ad := []) (by refine ⟨?_, ?_, ?_, ?_, ?_, trivial⟩ <;> first | exact trivial | rfl | exact ⟨rfl, rfl⟩ | exact ⟨rfl, rfl, rfl⟩ | exact ⟨rfl, rfl, rfl, rfl⟩ | exact ⟨rfl, rfl, rfl, rfl, rfl⟩ | exact congrArg (fun z : Int => E.v (.int .i64 z)) (wrap64_id (by omega) (by omega)) | exact congrArg (fun z : Int => E.v (.int .u8 z)) (by assumption) | exact congrArg (fun z : ByteArray => E.v (.string z)) (by assumption) | (refine ⟨rfl, ?_⟩; repeat' first | exact trivial | rfl | apply And.intro)) (memOk_box rfl rfl rfl (memOk_box rfl rfl ⟨⟨rfl, rfl, rfl, rfl⟩, ⟨rfl, rfl, rfl, rfl⟩, ⟨rfl, rfl, rfl, rfl⟩, trivial⟩ (memOk_row rfl rfl rfl (memOk_row rfl rfl rfl (memOk_row rfl rfl hou trivial)))))⟩
  simp only [condT_tt, condT_ff, condF_tt, condF_ff, notE_t, notE_f, decide_eq_true_eq, decide_eq_false_iff_not] at hc
  (try simp only [hcn] at hc)
  (try simp only [condT_tt, condT_ff, condF_tt, condF_ff, notE_t, notE_f, decide_eq_true_eq, decide_eq_false_iff_not] at hc)
  refine tr_exit ?_
  obtain rfl : j = n.c.length := by omega
  rw [List.take_length]
  refine tr_le (le_box 23 rfl rfl rfl) ?_
  repeat' (first | refine tr_seq ?_ | refine reg (T := tab) tOk hnt rfl ?_ ?_ | refine regD (T := tab) tOk mixedR hnt rfl (by decide +kernel) ?_ ?_ | refine tr_block ?_ | refine tr_skip ?_)
  · (dsimp only [AllP]; (repeat' first | exact trivial | assumption | exact Nat.le_of_ble_eq_true rfl | apply And.intro | decide | intro _ | exact rfl))
  refine tr_le (le_frzP 4 rfl rfl) ?_
  refine tr_ret ⟨.inr rfl, _, _, rfl, trivial, ?_⟩
  show D.one (.e (.pt [E.sl (eKs n.k), E.sl (eIs n.v), E.sl (n.c.map fun k => [E.pt (ndE t f k.toNat)])])) = .one (.e (.pt (ndE t (f + 1) i)))
  rw [ndE, hn]
theorem of_fn (t : List Nd) (g : gT t) : ∀ (f i : Nat), i < t.length → t.length ≤ f + i → FnD Tryd.prog 159 [.agg (.es (eTr t)), .one (.e (eI (i : Int)))] (.one (.e (.pt (ndE t f i))))
  | 0, i, hi, hf => absurd hi (by omega)
  | f + 1, i, hi, hf => of_step t g f (of_fn t g f) i hi hf
set_option maxRecDepth 10000 in
set_option maxHeartbeats 2000000 in
theorem root_fn (t : List Nd) (g : gT t) : FnD Tryd.prog 128 [.agg (.es (eTr t))] ((if t.length = 0 then .one (.e (.v (.pointer none))) else .one (.e (.pt (ndE t t.length 0))))) := by
  refine fn_intro (T := tab) tOk Tryd.func128 rfl (by kernel_rfl) (by simp [Tryd.ntmps128]) ?_
  intro X hX
  have hnt : X.nt = 9 := hX
  clear hX
  have hl : ((eTr t).getD (0 + 0) E.dflt).xs.length = t.length := List.length_map ..
  repeat' (first | refine tr_seq ?_ | refine reg (T := tab) tOk hnt rfl ?_ ?_ | refine regD (T := tab) tOk mixedR hnt rfl (by decide +kernel) ?_ ?_ | refine tr_block ?_ | refine tr_skip ?_)
  · (dsimp only [AllP]; (repeat' first | exact trivial | assumption | exact Nat.le_of_ble_eq_true rfl | apply And.intro | decide | intro _ | exact rfl))
  · (dsimp only [AllP]; (repeat' first | exact trivial | assumption | exact Nat.le_of_ble_eq_true rfl | apply And.intro | decide | intro _ | exact rfl))
  repeat' (first | refine tr_seq ?_ | refine tr_block ?_ | refine tr_skip ?_)
  refine tr_cond rfl (fun hc => ?_) (fun hc => ?_)
  · simp only [condT_tt, condT_ff, condF_tt, condF_ff, notE_t, notE_f, decide_eq_true_eq, decide_eq_false_iff_not] at hc
    (try simp only [hl] at hc)
    (try simp only [condT_tt, condT_ff, condF_tt, condF_ff, notE_t, notE_f, decide_eq_true_eq, decide_eq_false_iff_not] at hc)
    rw [if_pos (by omega)]
    repeat' (first | refine tr_seq ?_ | refine reg (T := tab) tOk hnt rfl ?_ ?_ | refine regD (T := tab) tOk mixedR hnt rfl (by decide +kernel) ?_ ?_ | refine tr_block ?_ | refine tr_skip ?_)
    · (dsimp only [AllP]; (repeat' first | exact trivial | assumption | exact Nat.le_of_ble_eq_true rfl | apply And.intro | decide | intro _ | exact rfl))
    exact tr_ret ⟨.inr rfl, _, _, rfl, trivial, rfl⟩
  simp only [condT_tt, condT_ff, condF_tt, condF_ff, notE_t, notE_f, decide_eq_true_eq, decide_eq_false_iff_not] at hc
  (try simp only [hl] at hc)
  (try simp only [condT_tt, condT_ff, condF_tt, condF_ff, notE_t, notE_f, decide_eq_true_eq, decide_eq_false_iff_not] at hc)
  rw [if_neg (by omega)]
  have h0 := of_fn t g t.length 0 (by omega) (by omega)
  repeat' (first | refine tr_seq ?_ | refine tr_block ?_ | refine tr_skip ?_)
  refine tr_region (lex (T := tab) tOk hnt rfl ?_ (call rfl rfl rfl rfl rfl rfl rfl hnt (h0) (lex (T := tab) tOk hnt rfl ?_ (Lex.nil _)))) ?_
  · (dsimp only [AllP]; (repeat' first | exact trivial | assumption | exact Nat.le_of_ble_eq_true rfl | apply And.intro | exact eCells_len1 _ _ ‹_› | exact eCells_isByte _ _ ‹_› | (intro hh_; have hg_ := hh_; (try simp only [condT_ff, condF_tt, notE_t, notE_f, Bool.and_eq_true, ne_eq, decide_eq_true_eq, decide_eq_false_iff_not] at hg_)) | intro _ | exact rfl | omega))
  · (dsimp only [AllP]; (repeat' first | exact trivial | assumption | exact Nat.le_of_ble_eq_true rfl | apply And.intro | exact eCells_len1 _ _ ‹_› | exact eCells_isByte _ _ ‹_› | (intro hh_; have hg_ := hh_; (try simp only [condT_ff, condF_tt, notE_t, notE_f, Bool.and_eq_true, ne_eq, decide_eq_true_eq, decide_eq_false_iff_not] at hg_)) | intro _ | exact rfl | omega))
  exact tr_ret ⟨.inr rfl, _, _, rfl, trivial, rfl⟩
end Go.Proofs.YtphaholcndhonaaDoor.Tr
namespace Go.Proofs.YtphaholcndhonaaDoor.Tr
open Go Go.RowKit Go.Proofs.YtphaholcndhonaaDoor.Ab
set_option linter.unusedSimpArgs false
set_option linter.unusedVariables false

def eBo (b : Bool) : E := .v (.bool b)
abbrev OS := Bool × Bool × List UInt8
def msO (s : OS) : List (Nat × Blk) := [(900000, ⟨0, .box (.es [eBo s.1]), 0⟩), (900001, ⟨0, .box (.es [eBo s.2.1]), 0⟩), (900002, ⟨0, .box (.es [eKy s.2.2]), 0⟩)]
def stO (s : OS) (k : List UInt8) : OS := (bif s.1 then bif s.2.1 then true else strLt (strB s.2.2) (strB k) else false, false, k)
set_option maxRecDepth 10000 in
set_option maxHeartbeats 2000000 in
theorem ord_fn (s : OS) (k : List UInt8) (v : Int) : FnH Tryd.prog 158 [] (msO s) [.one (.e (eKy k)), .one (.e (eI v)), .one (.ptr 900000 0 0), .one (.ptr 900001 0 0), .one (.ptr 900002 0 0)] (.tup []) (msO (stO s k)) := by
  refine fn_introH (T := tab) tOk Tryd.func158 rfl (by kernel_rfl) (by simp [Tryd.ntmps158]) rfl rfl ?_
  intro X hX
  have hnt : X.nt = 17 := hX
  clear hX
  repeat' (first | refine tr_seq ?_ | refine tr_block ?_ | refine tr_skip ?_)
  first | refine reg (T := tab) tOk hnt rfl ?_ ?_ | refine regD (T := tab) tOk mixedR hnt rfl (by decide +kernel) ?_ ?_
  · (dsimp only [AllP]; (repeat' first | exact trivial | assumption | exact Nat.le_of_ble_eq_true rfl | apply And.intro | exact eCells_len1 _ _ ‹_› | exact eCells_isByte _ _ ‹_› | (intro hh_; have hg_ := hh_; (try simp only [condT_ff, condF_tt, notE_t, notE_f, Bool.and_eq_true, ne_eq, decide_eq_true_eq, decide_eq_false_iff_not] at hg_)) | intro _ | exact rfl | omega))
  repeat' (first | refine tr_seq ?_ | refine tr_block ?_ | refine tr_skip ?_)
  first | refine reg (T := tab) tOk hnt rfl ?_ ?_ | refine regD (T := tab) tOk mixedR hnt rfl (by decide +kernel) ?_ ?_
  · (dsimp only [AllP]; (repeat' first | exact trivial | assumption | exact Nat.le_of_ble_eq_true rfl | apply And.intro | exact eCells_len1 _ _ ‹_› | exact eCells_isByte _ _ ‹_› | (intro hh_; have hg_ := hh_; (try simp only [condT_ff, condF_tt, notE_t, notE_f, Bool.and_eq_true, ne_eq, decide_eq_true_eq, decide_eq_false_iff_not] at hg_)) | intro _ | exact rfl | omega))
  refine ⟨.inl rfl, _, _, _, rfl, trivial, rfl, fun X => le_of (ad := []) ⟨trivial, ⟨rfl, rfl, rfl, rfl, rfl⟩, ⟨rfl, rfl, rfl, rfl, rfl⟩, ⟨rfl, rfl, rfl, rfl, rfl⟩, trivial⟩ (memOk_box rfl rfl rfl (memOk_box rfl rfl rfl (memOk_box rfl rfl rfl trivial)))⟩
/-- the pairs, in order -/
def prS (t : List Nd) (p : Nat → List (List UInt8 × Int)) (n : Nd) (j : Nat) : List (List UInt8 × Int) := (if n.c.length = 0 then [] else p (n.c.getD j 0).toNat) ++ [(n.k.getD j [], n.v.getD j 0)]
def prP (t : List Nd) (p : Nat → List (List UInt8 × Int)) (n : Nd) (j : Nat) : List (List UInt8 × Int) := ((List.range j).map (prS t p n)).flatten
def prF (t : List Nd) : Nat → Nat → List (List UInt8 × Int)
  | 0, _ => []
  | f + 1, i => prP t (prF t f) (t.getD i nd0) (t.getD i nd0).k.length ++ (if (t.getD i nd0).c.length = 0 then [] else prF t f ((t.getD i nd0).c.getD (t.getD i nd0).k.length 0).toNat)
theorem prP_succ (t : List Nd) (p : Nat → List (List UInt8 × Int)) (n : Nd) (j : Nat) : prP t p n (j + 1) = prP t p n j ++ prS t p n j := by
  unfold prP
  rw [List.range_succ, List.map_append, List.flatten_append]
  simp
def foO (s : OS) (l : List (List UInt8 × Int)) : OS := l.foldl (fun s p => stO s p.1) s
theorem foO_app (s : OS) (l r : List (List UInt8 × Int)) : foO s (l ++ r) = foO (foO s l) r := List.foldl_append
abbrev cloO : D := .one (.clo 158 [(900000, 0, 0), (900001, 0, 0), (900002, 0, 0)])
set_option maxRecDepth 10000 in
set_option maxHeartbeats 2000000 in
theorem eachO_step (t : List Nd) (g : gT t) (f : Nat) (ih : ∀ i s, i < t.length → t.length ≤ f + i → FnH Tryd.prog 127 [] (msO s) [.one (.e (.pt (ndE t f i))), cloO] (.tup []) (msO (foO s (prF t f i)))) (i : Nat) (s0 : OS) (hi : i < t.length) (hf : t.length ≤ f + 1 + i) : FnH Tryd.prog 127 [] (msO s0) [.one (.e (.pt (ndE t (f + 1) i))), cloO] (.tup []) (msO (foO s0 (prF t (f + 1) i))) := by
  refine fn_introH (T := tab) tOk Tryd.func127 rfl (by kernel_rfl) (by simp [Tryd.ntmps127]) rfl rfl ?_
  intro X hX
  have hnt : X.nt = 63 := hX
  clear hX
  obtain ⟨s1, s2, s3, s4⟩ := g.sh i hi
  have hkd := g.kd i hi
  unfold kdN at hkd
  have hE : ndE t (f + 1) i = [.sl (eKs (t.getD i nd0).k), .sl (eIs (t.getD i nd0).v), .sl ((t.getD i nd0).c.map fun k => [.pt (ndE t f k.toNat)])] := rfl
  have hP : prF t (f + 1) i = prP t (prF t f) (t.getD i nd0) (t.getD i nd0).k.length ++ (if (t.getD i nd0).c.length = 0 then [] else prF t f ((t.getD i nd0).c.getD (t.getD i nd0).k.length 0).toNat) := rfl
  rw [hE, hP]
  clear hE hP
  generalize hn : t.getD i nd0 = n at *
  have hcl : n.c.length ≤ 4 := by rcases s4 with s4 | s4 <;> simp [s4] <;> omega
  have hkl := ksLen n.k
  have hvl := isLen n.v
  let ND : List E := [.sl (eKs n.k), .sl (eIs n.v), .sl (n.c.map fun k => [.pt (ndE t f k.toNat)])]
  have hpl : ((List.drop 2 ND).getD 0 E.dflt).xs.length = n.c.length := List.length_map ..
  have hvl2 : ((List.drop 1 ND).getD 0 E.dflt).xs.length = n.v.length := List.length_map ..
  have hpg : ∀ j, j < n.c.length → ((List.drop 2 ND).getD 0 E.dflt).xs.getD j [] = [.pt (ndE t f (n.c.getD j 0).toNat)] := fun j h => csGet n.c (ndE t f) h
  have hvg : ∀ j, j < n.v.length → ((List.drop 1 ND).getD 0 E.dflt).xs.getD j [] = [eI (n.v.getD j 0)] := fun j h => isGet n.v h
  dsimp only [ND] at hpl hvl2 hpg hvg
  repeat' (first | refine tr_seq ?_ | refine tr_block ?_ | refine tr_skip ?_)
  first | refine reg (T := tab) tOk hnt rfl ?_ ?_ | refine regD (T := tab) tOk mixedR hnt rfl (by decide +kernel) ?_ ?_
  · (dsimp only [AllP]; (repeat' first | exact trivial | assumption | exact Nat.le_of_ble_eq_true rfl | apply And.intro | exact eCells_len1 _ _ ‹_› | exact eCells_isByte _ _ ‹_› | (intro hh_; have hg_ := hh_; (try simp only [condT_ff, condF_tt, notE_t, notE_f, Bool.and_eq_true, ne_eq, decide_eq_true_eq, decide_eq_false_iff_not] at hg_)) | intro _ | exact rfl | omega))
    all_goals trace_state
  repeat' (first | refine tr_seq ?_ | refine tr_block ?_ | refine tr_skip ?_)
  refine tr_cond rfl (fun hc => ?_) (fun hc => ?_)
  · exact absurd hc (by decide)
  repeat' (first | refine tr_seq ?_ | refine tr_block ?_ | refine tr_skip ?_)
  first | refine reg (T := tab) tOk hnt rfl ?_ ?_ | refine regD (T := tab) tOk mixedR hnt rfl (by decide +kernel) ?_ ?_
  · (dsimp only [AllP]; (repeat' first | exact trivial | assumption | exact Nat.le_of_ble_eq_true rfl | apply And.intro | exact eCells_len1 _ _ ‹_› | exact eCells_isByte _ _ ‹_› | (intro hh_; have hg_ := hh_; (try simp only [condT_ff, condF_tt, notE_t, notE_f, Bool.and_eq_true, ne_eq, decide_eq_true_eq, decide_eq_false_iff_not] at hg_)) | intro _ | exact rfl | omega))
    all_goals trace_state
  repeat' (first | refine tr_seq ?_ | refine tr_block ?_ | refine tr_skip ?_)
  refine tr_loop (σ := Nat) (fun j => St.of [(0, .one (.e (.pt [.sl (eKs n.k), .sl (eIs n.v), .sl (n.c.map fun k => [.pt (ndE t f k.toNat)])]))), (1, cloO), (11, .one (.e (.sl (eKs n.k)))), (12, .one (.e (eI (((eKs n.k).length : Nat) : Int)))), (13, .one (.e (eI (j : Int)))), (900000, .one (.ptr 900000 0 0)), (900001, .one (.ptr 900001 0 0)), (900002, .one (.ptr 900002 0 0))] [(900000, ⟨0, .box (.es [eBo (foO s0 (prP t (prF t f) n j)).1]), 0⟩), (900001, ⟨0, .box (.es [eBo (foO s0 (prP t (prF t f) n j)).2.1]), 0⟩), (900002, ⟨0, .box (.es [eKy (foO s0 (prP t (prF t f) n j)).2.2]), 0⟩)]) (fun j => j ≤ n.k.length) (fun j => n.k.length - j) (0) (le_of (ad := []) (by refine ⟨?_, ?_, ?_, ?_, ?_, ?_, ?_, ?_, trivial⟩ <;> first | exact trivial | rfl | exact ⟨rfl, rfl⟩ | exact ⟨rfl, rfl, rfl⟩ | exact ⟨rfl, rfl, rfl, rfl⟩ | exact ⟨rfl, rfl, rfl, rfl, rfl⟩ | exact congrArg (fun z : Int => E.v (.int .i64 z)) (wrap64_id (by omega) (by omega)) | exact congrArg (fun z : Int => E.v (.int .u8 z)) (by assumption) | exact congrArg (fun z : ByteArray => E.v (.string z)) (by assumption) | (refine ⟨rfl, ?_⟩; repeat' first | exact trivial | rfl | apply And.intro)) (memOk_box rfl rfl rfl (memOk_box rfl rfl rfl (memOk_box rfl rfl rfl trivial)))) (Nat.zero_le _) ?_
  · rintro j jl
    have hps := prP_succ t (prF t f) n j
    have hfs : foO s0 (prP t (prF t f) n (j + 1)) = foO (foO s0 (prP t (prF t f) n j)) (prS t (prF t f) n j) := by rw [hps, foO_app]
    generalize hSj : foO s0 (prP t (prF t f) n j) = S at *
    repeat' (first | refine tr_seq ?_ | refine reg (T := tab) tOk hnt rfl ?_ ?_ | refine regD (T := tab) tOk mixedR hnt rfl (by decide +kernel) ?_ ?_ | refine tr_block ?_ | refine tr_skip ?_)
    · (dsimp only [AllP]; (repeat' first | exact trivial | assumption | exact Nat.le_of_ble_eq_true rfl | apply And.intro | decide | intro _ | exact rfl))
    repeat' (first | refine tr_seq ?_ | refine tr_block ?_ | refine tr_skip ?_)
    refine tr_cond rfl (fun hc => ?_) (fun hc => ?_)
    · simp only [condT_tt, condT_ff, condF_tt, condF_ff, notE_t, notE_f, decide_eq_true_eq, decide_eq_false_iff_not] at hc
      (try simp only [hkl] at hc)
      (try simp only [condT_tt, condT_ff, condF_tt, condF_ff, notE_t, notE_f, decide_eq_true_eq, decide_eq_false_iff_not] at hc)
      have hlt : j < n.k.length := by omega
      have hkg := ksGet n.k hlt
      have hvg := hvg j (by omega)
      generalize hky : n.k.getD j [] = ky at *
      generalize hvx : n.v.getD j 0 = vl at *
      repeat' (first | refine tr_seq ?_ | refine tr_block ?_ | refine tr_skip ?_)
      first | refine reg (T := tab) tOk hnt rfl ?_ ?_ | refine regD (T := tab) tOk mixedR hnt rfl (by decide +kernel) ?_ ?_
      · rw [Int.toNat_natCast, hkg]
        (dsimp only [AllP]; (repeat' first | exact trivial | assumption | exact Nat.le_of_ble_eq_true rfl | apply And.intro | exact eCells_len1 _ _ ‹_› | exact eCells_isByte _ _ ‹_› | (intro hh_; have hg_ := hh_; (try simp only [condT_ff, condF_tt, notE_t, notE_f, Bool.and_eq_true, ne_eq, decide_eq_true_eq, decide_eq_false_iff_not] at hg_)) | intro _ | exact rfl | omega))
        all_goals trace_state
      rw [Int.toNat_natCast, hkg]
      first | refine tr_join (σ := OS) (fun S' => St.of [(0, .one (.e (.pt [.sl (eKs n.k), .sl (eIs n.v), .sl (n.c.map fun k => [.pt (ndE t f k.toNat)])]))), (1, cloO), (4, .one (.e (eI (j : Int)))), (5, .one (.e (eKy ky))), (11, .one (.e (.sl (eKs n.k)))), (12, .one (.e (eI (((eKs n.k).length : Nat) : Int)))), (13, .one (.e (eI (j : Int)))), (900000, .one (.ptr 900000 0 0)), (900001, .one (.ptr 900001 0 0)), (900002, .one (.ptr 900002 0 0))] [(900000, ⟨0, .box (.es [eBo S'.1]), 0⟩), (900001, ⟨0, .box (.es [eBo S'.2.1]), 0⟩), (900002, ⟨0, .box (.es [eKy S'.2.2]), 0⟩)]) (fun S' => S' = foO S (if n.c.length = 0 then [] else prF t f (n.c.getD j 0).toNat)) ?_ ?_ | refine tr_seq (tr_join (σ := OS) (fun S' => St.of [(0, .one (.e (.pt [.sl (eKs n.k), .sl (eIs n.v), .sl (n.c.map fun k => [.pt (ndE t f k.toNat)])]))), (1, cloO), (4, .one (.e (eI (j : Int)))), (5, .one (.e (eKy ky))), (11, .one (.e (.sl (eKs n.k)))), (12, .one (.e (eI (((eKs n.k).length : Nat) : Int)))), (13, .one (.e (eI (j : Int)))), (900000, .one (.ptr 900000 0 0)), (900001, .one (.ptr 900001 0 0)), (900002, .one (.ptr 900002 0 0))] [(900000, ⟨0, .box (.es [eBo S'.1]), 0⟩), (900001, ⟨0, .box (.es [eBo S'.2.1]), 0⟩), (900002, ⟨0, .box (.es [eKy S'.2.2]), 0⟩)]) (fun S' => S' = foO S (if n.c.length = 0 then [] else prF t f (n.c.getD j 0).toNat)) ?_ ?_)
      · repeat' (first | refine tr_seq ?_ | refine tr_block ?_ | refine tr_skip ?_)
        first | refine reg (T := tab) tOk hnt rfl ?_ ?_ | refine regD (T := tab) tOk mixedR hnt rfl (by decide +kernel) ?_ ?_
        · (dsimp only [AllP]; (repeat' first | exact trivial | assumption | exact Nat.le_of_ble_eq_true rfl | apply And.intro | exact eCells_len1 _ _ ‹_› | exact eCells_isByte _ _ ‹_› | (intro hh_; have hg_ := hh_; (try simp only [condT_ff, condF_tt, notE_t, notE_f, Bool.and_eq_true, ne_eq, decide_eq_true_eq, decide_eq_false_iff_not] at hg_)) | intro _ | exact rfl | omega))
          all_goals trace_state
        repeat' (first | refine tr_seq ?_ | refine tr_block ?_ | refine tr_skip ?_)
        refine tr_cond rfl (fun hc => ?_) (fun hc => ?_)
        · simp only [condT_tt, condT_ff, condF_tt, condF_ff, notE_t, notE_f, decide_eq_true_eq, decide_eq_false_iff_not] at hc
          (try simp only [hpl] at hc)
          (try simp only [condT_tt, condT_ff, condF_tt, condF_ff, notE_t, notE_f, decide_eq_true_eq, decide_eq_false_iff_not] at hc)
          have hc4 : n.c.length = n.k.length + 1 := by
            rcases s4 with s4 | s4
            · rw [s4] at hc; exact absurd hc (by decide)
            · exact s4
          have hjc : j < n.c.length := by omega
          have hpg := hpg j hjc
          have hmem : n.c.getD j 0 ∈ n.c := by rw [List.getD_eq_getElem?_getD, List.getElem?_eq_getElem hjc]; exact List.getElem_mem hjc
          obtain ⟨hk1, hk2⟩ := hkd _ hmem
          rw [if_neg (by omega)]
          generalize n.c.getD j 0 = k at *
          obtain ⟨q, rfl⟩ : ∃ q : Nat, k = (q : Int) := ⟨k.toNat, by omega⟩
          have hq := ih q S (by omega) (by omega)
          rw [Int.toNat_natCast] at hpg
          rw [Int.toNat_natCast]
          have hpe : ndE t f q = ((((List.drop 2 ND).getD 0 E.dflt).xs.getD j []).getD 0 E.dflt).cs := by
            rw [show ((List.drop 2 ND).getD 0 E.dflt).xs.getD j [] = [.pt (ndE t f q)] from hpg]
            rfl
          dsimp only [ND] at hpe
          have hjz : Int.toNat (j : Int) = j := Int.toNat_natCast j
          rw [← hjz] at hpe
          rw [hpe] at hq
          generalize foO S (prF t f q) = S1 at *
          repeat' (first | refine tr_seq ?_ | refine tr_block ?_ | refine tr_skip ?_)
          refine tr_region (lex (T := tab) tOk hnt rfl ?_ (callH (us := []) [(900000, 900000), (900001, 900001), (900002, 900002)] [] [] rfl rfl rfl rfl (hq) (by repeat' first | exact .nil | refine .lent rfl rfl rfl ?_ | refine .data rfl ?_) (fun _ => rfl) rfl rfl hnt rfl rfl (by repeat' first | exact trivial | rfl | apply And.intro) (by repeat' first | exact trivial | rfl | apply And.intro) (lex (T := tab) tOk hnt rfl ?_ (Lex.nil _)))) ?_
          · rw [Int.toNat_natCast, hpg]
            (dsimp only [AllP]; (repeat' first | exact trivial | assumption | exact Nat.le_of_ble_eq_true rfl | apply And.intro | exact eCells_len1 _ _ ‹_› | exact eCells_isByte _ _ ‹_› | (intro hh_; have hg_ := hh_; (try simp only [condT_ff, condF_tt, notE_t, notE_f, Bool.and_eq_true, ne_eq, decide_eq_true_eq, decide_eq_false_iff_not] at hg_)) | intro _ | exact rfl | omega))
            all_goals trace_state
          · (dsimp only [AllP]; (repeat' first | exact trivial | assumption | exact Nat.le_of_ble_eq_true rfl | apply And.intro | exact eCells_len1 _ _ ‹_› | exact eCells_isByte _ _ ‹_› | (intro hh_; have hg_ := hh_; (try simp only [condT_ff, condF_tt, notE_t, notE_f, Bool.and_eq_true, ne_eq, decide_eq_true_eq, decide_eq_false_iff_not] at hg_)) | intro _ | exact rfl | omega))
            all_goals trace_state
          repeat' (first | refine tr_seq ?_ | refine tr_block ?_ | refine tr_skip ?_)
          refine ⟨S1, rfl, le_of (ad := []) (by refine ⟨?_, ?_, ?_, ?_, ?_, ?_, ?_, ?_, ?_, ?_, trivial⟩ <;> first | exact trivial | rfl | exact ⟨rfl, rfl⟩ | exact ⟨rfl, rfl, rfl⟩ | exact ⟨rfl, rfl, rfl, rfl⟩ | exact ⟨rfl, rfl, rfl, rfl, rfl⟩ | exact congrArg (fun z : Int => E.v (.int .i64 z)) (wrap64_id (by omega) (by omega)) | exact congrArg (fun z : Int => E.v (.int .u8 z)) (by assumption) | exact congrArg (fun z : ByteArray => E.v (.string z)) (by assumption) | (refine ⟨rfl, ?_⟩; repeat' first | exact trivial | rfl | apply And.intro)) (memOk_box rfl rfl rfl (memOk_box rfl rfl rfl (memOk_box rfl rfl rfl trivial)))⟩
        simp only [condT_tt, condT_ff, condF_tt, condF_ff, notE_t, notE_f, decide_eq_true_eq, decide_eq_false_iff_not] at hc
        (try simp only [hpl] at hc)
        (try simp only [condT_tt, condT_ff, condF_tt, condF_ff, notE_t, notE_f, decide_eq_true_eq, decide_eq_false_iff_not] at hc)
        rw [if_pos (by omega)]
        repeat' (first | refine tr_seq ?_ | refine tr_block ?_ | refine tr_skip ?_)
        refine ⟨S, rfl, le_of (ad := []) (by refine ⟨?_, ?_, ?_, ?_, ?_, ?_, ?_, ?_, ?_, ?_, trivial⟩ <;> first | exact trivial | rfl | exact ⟨rfl, rfl⟩ | exact ⟨rfl, rfl, rfl⟩ | exact ⟨rfl, rfl, rfl, rfl⟩ | exact ⟨rfl, rfl, rfl, rfl, rfl⟩ | exact congrArg (fun z : Int => E.v (.int .i64 z)) (wrap64_id (by omega) (by omega)) | exact congrArg (fun z : Int => E.v (.int .u8 z)) (by assumption) | exact congrArg (fun z : ByteArray => E.v (.string z)) (by assumption) | (refine ⟨rfl, ?_⟩; repeat' first | exact trivial | rfl | apply And.intro)) (memOk_box rfl rfl rfl (memOk_box rfl rfl rfl (memOk_box rfl rfl rfl trivial)))⟩
      rintro S' hS'
      have ho := ord_fn S' ky ((((List.drop 1 ND).getD 0 E.dflt).xs.getD (Int.toNat (j : Int)) []).getD 0 E.dflt).int
      dsimp only [ND] at ho
      have h64 : IntKind.i64.wrap ((j : Int) + 1) = ((j + 1 : Nat) : Int) := wrap64_id (by omega) (by omega)
      have hS2 : stO S' ky = foO s0 (prP t (prF t f) n (j + 1)) := by
        rw [hfs, hS']
        unfold prS
        rw [foO_app, hky]
        rfl
      generalize hS3 : stO S' ky = S2 at *
      repeat' (first | refine tr_seq ?_ | refine tr_block ?_ | refine tr_skip ?_)
      refine tr_region (lex (T := tab) tOk hnt rfl ?_ (callH (us := []) [(900000, 900000), (900001, 900001), (900002, 900002)] [] [] rfl rfl rfl rfl (ho) (by repeat' first | exact .nil | refine .lent rfl rfl rfl ?_ | refine .data rfl ?_) (fun _ => rfl) rfl rfl hnt rfl rfl (by repeat' first | exact trivial | rfl | apply And.intro) (by repeat' first | exact trivial | rfl | apply And.intro) (lex (T := tab) tOk hnt rfl ?_ (Lex.nil _)))) ?_
      · rw [Int.toNat_natCast, hvg]
        (dsimp only [AllP]; (repeat' first | exact trivial | assumption | exact Nat.le_of_ble_eq_true rfl | apply And.intro | exact eCells_len1 _ _ ‹_› | exact eCells_isByte _ _ ‹_› | (intro hh_; have hg_ := hh_; (try simp only [condT_ff, condF_tt, notE_t, notE_f, Bool.and_eq_true, ne_eq, decide_eq_true_eq, decide_eq_false_iff_not] at hg_)) | intro _ | exact rfl | omega))
        all_goals trace_state
      · (dsimp only [AllP]; (repeat' first | exact trivial | assumption | exact Nat.le_of_ble_eq_true rfl | apply And.intro | exact eCells_len1 _ _ ‹_› | exact eCells_isByte _ _ ‹_› | (intro hh_; have hg_ := hh_; (try simp only [condT_ff, condF_tt, notE_t, notE_f, Bool.and_eq_true, ne_eq, decide_eq_true_eq, decide_eq_false_iff_not] at hg_)) | intro _ | exact rfl | omega))
        all_goals trace_state
      repeat' (first | refine tr_seq ?_ | refine tr_block ?_ | refine tr_skip ?_)
      first | refine reg (T := tab) tOk hnt rfl ?_ ?_ | refine regD (T := tab) tOk mixedR hnt rfl (by decide +kernel) ?_ ?_
      · (dsimp only [AllP]; (repeat' first | exact trivial | assumption | exact Nat.le_of_ble_eq_true rfl | apply And.intro | exact eCells_len1 _ _ ‹_› | exact eCells_isByte _ _ ‹_› | (intro hh_; have hg_ := hh_; (try simp only [condT_ff, condF_tt, notE_t, notE_f, Bool.and_eq_true, ne_eq, decide_eq_true_eq, decide_eq_false_iff_not] at hg_)) | intro _ | exact rfl | omega))
        all_goals trace_state
      rw [h64, hS2]
      refine ⟨(j + 1), (by omega), by omega, le_of (ad := []) (by refine ⟨?_, ?_, ?_, ?_, ?_, ?_, ?_, ?_, trivial⟩ <;> first | exact trivial | rfl | exact ⟨rfl, rfl⟩ | exact ⟨rfl, rfl, rfl⟩ | exact ⟨rfl, rfl, rfl, rfl⟩ | exact ⟨rfl, rfl, rfl, rfl, rfl⟩ | exact congrArg (fun z : Int => E.v (.int .i64 z)) (wrap64_id (by omega) (by omega)) | exact congrArg (fun z : Int => E.v (.int .u8 z)) (by assumption) | exact congrArg (fun z : ByteArray => E.v (.string z)) (by assumption) | (refine ⟨rfl, ?_⟩; repeat' first | exact trivial | rfl | apply And.intro)) (memOk_box rfl rfl rfl (memOk_box rfl rfl rfl (memOk_box rfl rfl rfl trivial)))⟩
    simp only [condT_tt, condT_ff, condF_tt, condF_ff, notE_t, notE_f, decide_eq_true_eq, decide_eq_false_iff_not] at hc
    (try simp only [hkl] at hc)
    (try simp only [condT_tt, condT_ff, condF_tt, condF_ff, notE_t, notE_f, decide_eq_true_eq, decide_eq_false_iff_not] at hc)
    refine tr_exit ?_
    obtain rfl : j = n.k.length := by omega
    repeat' (first | refine tr_seq ?_ | refine tr_block ?_ | refine tr_skip ?_)
    first | refine reg (T := tab) tOk hnt rfl ?_ ?_ | refine regD (T := tab) tOk mixedR hnt rfl (by decide +kernel) ?_ ?_
    · (dsimp only [AllP]; (repeat' first | exact trivial | assumption | exact Nat.le_of_ble_eq_true rfl | apply And.intro | exact eCells_len1 _ _ ‹_› | exact eCells_isByte _ _ ‹_› | (intro hh_; have hg_ := hh_; (try simp only [condT_ff, condF_tt, notE_t, notE_f, Bool.and_eq_true, ne_eq, decide_eq_true_eq, decide_eq_false_iff_not] at hg_)) | intro _ | exact rfl | omega))
      all_goals trace_state
    repeat' (first | refine tr_seq ?_ | refine tr_block ?_ | refine tr_skip ?_)
    refine tr_cond rfl (fun hc => ?_) (fun hc => ?_)
    · simp only [condT_tt, condT_ff, condF_tt, condF_ff, notE_t, notE_f, decide_eq_true_eq, decide_eq_false_iff_not] at hc
      (try simp only [hpl] at hc)
      (try simp only [condT_tt, condT_ff, condF_tt, condF_ff, notE_t, notE_f, decide_eq_true_eq, decide_eq_false_iff_not] at hc)
      have hc4 : n.c.length = n.k.length + 1 := by
        rcases s4 with s4 | s4
        · rw [s4] at hc; exact absurd hc (by decide)
        · exact s4
      have hjc : n.k.length < n.c.length := by omega
      have hpg := hpg n.k.length hjc
      have hmem : n.c.getD n.k.length 0 ∈ n.c := by rw [List.getD_eq_getElem?_getD, List.getElem?_eq_getElem hjc]; exact List.getElem_mem hjc
      obtain ⟨hk1, hk2⟩ := hkd _ hmem
      rw [if_neg (by omega), foO_app, hSj]
      generalize n.c.getD n.k.length 0 = k at *
      obtain ⟨q, rfl⟩ : ∃ q : Nat, k = (q : Int) := ⟨k.toNat, by omega⟩
      have hq := ih q S (by omega) (by omega)
      rw [Int.toNat_natCast] at hpg
      rw [Int.toNat_natCast]
      have hpe : ndE t f q = ((((List.drop 2 ND).getD 0 E.dflt).xs.getD n.k.length []).getD 0 E.dflt).cs := by
        rw [show ((List.drop 2 ND).getD 0 E.dflt).xs.getD n.k.length [] = [.pt (ndE t f q)] from hpg]
        rfl
      dsimp only [ND] at hpe
      have hjz : Int.toNat ((((eKs n.k).length : Nat) : Int)) = n.k.length := by rw [hkl]; exact Int.toNat_natCast _
      rw [← hjz] at hpe
      rw [hpe] at hq
      generalize foO S (prF t f q) = S1 at *
      repeat' (first | refine tr_seq ?_ | refine tr_block ?_ | refine tr_skip ?_)
      refine tr_draw (T := tab) tOk hnt mixedR (lexD (T := tab) rfl ?_ (callHD [(900000, 900000), (900001, 900001), (900002, 900002)] [] [] rfl rfl rfl rfl (hq) (by repeat' first | exact .nil | refine .lent rfl rfl rfl ?_ | refine .data rfl ?_) rfl rfl rfl rfl rfl (by repeat' first | exact trivial | rfl | apply And.intro) (by repeat' first | exact trivial | rfl | apply And.intro) (lexD (T := tab) rfl ?_ (.nil _)))) (by decide +kernel) ?_
      · have hkl0 : ((List.drop 0 ND).getD 0 E.dflt).xs.length = n.k.length := hkl
        have hjk : Int.toNat (((((List.drop 0 ND).getD 0 E.dflt).xs.length : Nat) : Int)) = n.k.length := by rw [hkl0]; exact Int.toNat_natCast _
        dsimp only [ND] at hjk hkl0
        rw [hjk, hpg]
        (dsimp only [AllP]; (repeat' first | exact trivial | assumption | exact Nat.le_of_ble_eq_true rfl | apply And.intro | exact eCells_len1 _ _ ‹_› | exact eCells_isByte _ _ ‹_› | (intro hh_; have hg_ := hh_; (try simp only [condT_ff, condF_tt, notE_t, notE_f, Bool.and_eq_true, ne_eq, decide_eq_true_eq, decide_eq_false_iff_not] at hg_)) | intro _ | exact rfl | omega))
        all_goals trace_state
      · (dsimp only [AllP]; (repeat' first | exact trivial | assumption | exact Nat.le_of_ble_eq_true rfl | apply And.intro | exact eCells_len1 _ _ ‹_› | exact eCells_isByte _ _ ‹_› | (intro hh_; have hg_ := hh_; (try simp only [condT_ff, condF_tt, notE_t, notE_f, Bool.and_eq_true, ne_eq, decide_eq_true_eq, decide_eq_false_iff_not] at hg_)) | intro _ | exact rfl | omega))
        all_goals trace_state
      refine ⟨.inl rfl, _, _, _, rfl, trivial, rfl, fun X => le_of (ad := []) ⟨trivial, ⟨rfl, rfl, rfl, rfl, rfl⟩, ⟨rfl, rfl, rfl, rfl, rfl⟩, ⟨rfl, rfl, rfl, rfl, rfl⟩, trivial⟩ (memOk_box rfl rfl rfl (memOk_box rfl rfl rfl (memOk_box rfl rfl rfl trivial)))⟩
    simp only [condT_tt, condT_ff, condF_tt, condF_ff, notE_t, notE_f, decide_eq_true_eq, decide_eq_false_iff_not] at hc
    (try simp only [hpl] at hc)
    (try simp only [condT_tt, condT_ff, condF_tt, condF_ff, notE_t, notE_f, decide_eq_true_eq, decide_eq_false_iff_not] at hc)
    rw [if_pos (by omega), List.append_nil, hSj]
    refine tr_skip ?_
    refine ⟨.inl rfl, _, _, _, rfl, trivial, rfl, fun X => le_of (ad := []) ⟨trivial, ⟨rfl, rfl, rfl, rfl, rfl⟩, ⟨rfl, rfl, rfl, rfl, rfl⟩, ⟨rfl, rfl, rfl, rfl, rfl⟩, trivial⟩ (memOk_box rfl rfl rfl (memOk_box rfl rfl rfl (memOk_box rfl rfl rfl trivial)))⟩
theorem eachO_fn (t : List Nd) (g : gT t) : ∀ (f i : Nat) (s : OS), i < t.length → t.length ≤ f + i → FnH Tryd.prog 127 [] (msO s) [.one (.e (.pt (ndE t f i))), cloO] (.tup []) (msO (foO s (prF t f i)))
  | 0, i, s, hi, hf => absurd hi (by omega)
  | f + 1, i, s, hi, hf => eachO_step t g f (eachO_fn t g f) i s hi hf
end Go.Proofs.YtphaholcndhonaaDoor.Tr
namespace Go.Proofs.YtphaholcndhonaaDoor.Tr
open Go Go.RowKit Go.Proofs.YtphaholcndhonaaDoor.Ab
set_option linter.unusedSimpArgs false
set_option linter.unusedVariables false

set_option maxRecDepth 10000 in
set_option maxHeartbeats 2000000 in
theorem eachNil_fn (s : OS) : FnH Tryd.prog 127 [] (msO s) [.one (.e (.v (.pointer none))), cloO] (.tup []) (msO s) := by
  refine fn_introH (T := tab) tOk Tryd.func127 rfl (by kernel_rfl) (by simp [Tryd.ntmps127]) rfl rfl ?_
  intro X hX
  have hnt : X.nt = 63 := hX
  clear hX
  repeat' (first | refine tr_seq ?_ | refine reg (T := tab) tOk hnt rfl ?_ ?_ | refine regD (T := tab) tOk mixedR hnt rfl (by decide +kernel) ?_ ?_ | refine tr_block ?_ | refine tr_skip ?_)
  · (dsimp only [AllP]; (repeat' first | exact trivial | assumption | exact Nat.le_of_ble_eq_true rfl | apply And.intro | decide | intro _ | exact rfl))
  repeat' (first | refine tr_seq ?_ | refine tr_block ?_ | refine tr_skip ?_)
  refine tr_cond rfl (fun hc => ?_) (fun hc => ?_)
  · refine tr_ret ⟨.inr rfl, _, _, _, rfl, trivial, rfl, fun X => le_of (ad := []) ⟨trivial, ⟨rfl, rfl, rfl, rfl, rfl⟩, ⟨rfl, rfl, rfl, rfl, rfl⟩, ⟨rfl, rfl, rfl, rfl, rfl⟩, trivial⟩ (memOk_box rfl rfl rfl (memOk_box rfl rfl rfl (memOk_box rfl rfl rfl trivial)))⟩
  exact absurd hc (by decide)
/-- from node i on: none that is not reached, and the leaves as deep as one another -/
def ordA (t : List Nd) (dp : List Int) : Nat → Nat → Int → Bool
  | 0, _, _ => true
  | k + 1, i, lf => if 0 < i ∧ dp.getD i 0 = 0 then false else
    if (t.getD i nd0).c.length = 0 then (if 0 ≤ lf ∧ dp.getD i 0 ≠ lf then false else ordA t dp k (i + 1) (dp.getD i 0)) else ordA t dp k (i + 1) lf
def ordT (t : List Nd) : Bool := (foO (true, true, []) (if t.length = 0 then [] else prF t t.length 0)).1
def ordF (t : List Nd) (dp : List Int) : Int := if ordA t dp t.length 0 (-1) = false then 3 else if ordT t = false then 3 else 0
set_option maxRecDepth 10000 in
set_option maxHeartbeats 2000000 in
theorem orderly_fn (t : List Nd) (g : gT t) (dp : List Int) (hd : dp.length = t.length) : FnD Tryd.prog 126 [.agg (.es (eTr t)), .one (.e (.sl (eIs dp)))] (.one (.e (eI (ordF t dp)))) := by
  refine fn_intro (T := tab) tOk Tryd.func126 rfl (by kernel_rfl) (by simp [Tryd.ntmps126]) ?_
  intro X hX
  have hnt : X.nt = 53 := hX
  clear hX
  have hl : ((eTr t).getD (0 + 0) E.dflt).xs.length = t.length := List.length_map ..
  have hdl := isLen dp
  repeat' (first | refine tr_seq ?_ | refine reg (T := tab) tOk hnt rfl ?_ ?_ | refine regD (T := tab) tOk mixedR hnt rfl (by decide +kernel) ?_ ?_ | refine tr_block ?_ | refine tr_skip ?_)
  · (dsimp only [AllP]; (repeat' first | exact trivial | assumption | exact Nat.le_of_ble_eq_true rfl | apply And.intro | decide | intro _ | exact rfl))
  · (dsimp only [AllP]; (repeat' first | exact trivial | assumption | exact Nat.le_of_ble_eq_true rfl | apply And.intro | decide | intro _ | exact rfl))
  · (dsimp only [AllP]; (repeat' first | exact trivial | assumption | exact Nat.le_of_ble_eq_true rfl | apply And.intro | decide | intro _ | exact rfl))
  repeat' (first | refine tr_seq ?_ | refine tr_block ?_ | refine tr_skip ?_)
  refine tr_loop (σ := Nat × Nat × Int) (fun x => St.of [(1, .one (.e (.sl (eIs dp)))), (2, .one (.ptr 2 0 0)), (5, .one (.e (eI x.2.2))), (12, .one (.e (.sl (t.map eNd)))), (13, .one (.e (eI (((t.map eNd).length : Nat) : Int)))), (14, .one (.e (eI (x.2.1 : Int))))] [(2, ⟨0, .box (.es (eTr t)), 0⟩)]) (fun x => x.1 + x.2.1 = t.length ∧ ordA t dp x.1 x.2.1 x.2.2 = ordA t dp t.length 0 (-1)) (fun x => x.1) ((t.length, 0, -1)) (le_of (ad := []) (by refine ⟨?_, ?_, ?_, ?_, ?_, ?_, trivial⟩ <;> first | exact trivial | rfl | exact ⟨rfl, rfl⟩ | exact ⟨rfl, rfl, rfl⟩ | exact ⟨rfl, rfl, rfl, rfl⟩ | exact ⟨rfl, rfl, rfl, rfl, rfl⟩ | exact congrArg (fun z : Int => E.v (.int .i64 z)) (wrap64_id (by omega) (by omega)) | exact congrArg (fun z : Int => E.v (.int .u8 z)) (by assumption) | exact congrArg (fun z : ByteArray => E.v (.string z)) (by assumption) | (refine ⟨rfl, ?_⟩; repeat' first | exact trivial | rfl | apply And.intro)) (memOk_box rfl rfl rfl trivial)) ⟨rfl, rfl⟩ ?_
  · rintro ⟨k, i, lf⟩ ⟨hk, hJ⟩
    dsimp only at hk hJ ⊢
    have hl2 : (t.map eNd).length = t.length := List.length_map ..
    repeat' (first | refine tr_seq ?_ | refine reg (T := tab) tOk hnt rfl ?_ ?_ | refine regD (T := tab) tOk mixedR hnt rfl (by decide +kernel) ?_ ?_ | refine tr_block ?_ | refine tr_skip ?_)
    · (dsimp only [AllP]; (repeat' first | exact trivial | assumption | exact Nat.le_of_ble_eq_true rfl | apply And.intro | decide | intro _ | exact rfl))
    repeat' (first | refine tr_seq ?_ | refine tr_block ?_ | refine tr_skip ?_)
    refine tr_cond rfl (fun hc => ?_) (fun hc => ?_)
    · simp only [condT_tt, condT_ff, condF_tt, condF_ff, notE_t, notE_f, decide_eq_true_eq, decide_eq_false_iff_not] at hc
      (try simp only [hl2] at hc)
      (try simp only [condT_tt, condT_ff, condF_tt, condF_ff, notE_t, notE_f, decide_eq_true_eq, decide_eq_false_iff_not] at hc)
      have hlt : i < t.length := by omega
      have hg := ndsGet t hlt
      have hgd := isGet dp (show i < dp.length by omega)
      obtain ⟨k, rfl⟩ : ∃ k', k = k' + 1 := ⟨k - 1, by omega⟩
      rw [ordA] at hJ
      repeat' (first | refine tr_seq ?_ | refine tr_block ?_ | refine tr_skip ?_)
      first | refine reg (T := tab) tOk hnt rfl ?_ ?_ | refine regD (T := tab) tOk mixedR hnt rfl (by decide +kernel) ?_ ?_
      · rw [Int.toNat_natCast, hg]
        (dsimp only [AllP]; (repeat' first | exact trivial | assumption | exact Nat.le_of_ble_eq_true rfl | apply And.intro | exact eCells_len1 _ _ ‹_› | exact eCells_isByte _ _ ‹_› | (intro hh_; have hg_ := hh_; (try simp only [condT_ff, condF_tt, notE_t, notE_f, Bool.and_eq_true, ne_eq, decide_eq_true_eq, decide_eq_false_iff_not] at hg_)) | intro _ | exact rfl | omega))
        all_goals trace_state
      rw [Int.toNat_natCast, hg]
      repeat' (first | refine tr_seq ?_ | refine tr_block ?_ | refine tr_skip ?_)
      first | refine reg (T := tab) tOk hnt rfl ?_ ?_ | refine regD (T := tab) tOk mixedR hnt rfl (by decide +kernel) ?_ ?_
      · rw [Int.toNat_natCast, hgd]
        (dsimp only [AllP]; (repeat' first | exact trivial | assumption | exact Nat.le_of_ble_eq_true rfl | apply And.intro | exact eCells_len1 _ _ ‹_› | exact eCells_isByte _ _ ‹_› | (intro hh_; have hg_ := hh_; (try simp only [condT_ff, condF_tt, notE_t, notE_f, Bool.and_eq_true, ne_eq, decide_eq_true_eq, decide_eq_false_iff_not] at hg_)) | intro _ | exact rfl | omega))
        all_goals trace_state
      rw [Int.toNat_natCast, hgd]
      generalize hT : ordA t dp t.length 0 (-1) = T at *
      have hOF : T = false → ordF t dp = 3 := fun h => by unfold ordF; rw [hT, h]; rfl
      generalize hdv : dp.getD i 0 = dv at *
      generalize hnn : t.getD i nd0 = n at *
      have hcn : ((List.take 3 (List.drop 0 (eNd n))).getD (0 + 2) E.dflt).xs.length = n.c.length := isLen n.c
      have hdi : ([eI dv].getD 0 E.dflt).int = dv := rfl
      have hlen := g.len
      have h64 : IntKind.i64.wrap ((i : Int) + 1) = ((i + 1 : Nat) : Int) := wrap64_id (by omega) (by omega)
      repeat' (first | refine tr_seq ?_ | refine tr_block ?_ | refine tr_skip ?_)
      refine tr_cond rfl (fun hc => ?_) (fun hc => ?_)
      · simp only [condT_tt, condT_ff, condF_tt, condF_ff, notE_t, notE_f, decide_eq_true_eq, decide_eq_false_iff_not] at hc
        (try simp only [hdi] at hc)
        (try simp only [condT_tt, condT_ff, condF_tt, condF_ff, notE_t, notE_f, decide_eq_true_eq, decide_eq_false_iff_not] at hc)
        rw [if_pos ⟨by omega, hc.2⟩] at hJ
        rw [hOF hJ.symm]
        repeat' (first | refine tr_seq ?_ | refine reg (T := tab) tOk hnt rfl ?_ ?_ | refine regD (T := tab) tOk mixedR hnt rfl (by decide +kernel) ?_ ?_ | refine tr_block ?_ | refine tr_skip ?_)
        · (dsimp only [AllP]; (repeat' first | exact trivial | assumption | exact Nat.le_of_ble_eq_true rfl | apply And.intro | decide | intro _ | exact rfl))
        exact tr_ret ⟨.inr rfl, _, _, rfl, trivial, rfl⟩
      simp only [condT_tt, condT_ff, condF_tt, condF_ff, notE_t, notE_f, decide_eq_true_eq, decide_eq_false_iff_not] at hc
      (try simp only [hdi] at hc)
      (try simp only [condT_tt, condT_ff, condF_tt, condF_ff, notE_t, notE_f, decide_eq_true_eq, decide_eq_false_iff_not] at hc)
      rw [if_neg (by omega)] at hJ
      repeat' (first | refine tr_seq ?_ | refine reg (T := tab) tOk hnt rfl ?_ ?_ | refine regD (T := tab) tOk mixedR hnt rfl (by decide +kernel) ?_ ?_ | refine tr_block ?_ | refine tr_skip ?_)
      · (dsimp only [AllP]; (repeat' first | exact trivial | assumption | exact Nat.le_of_ble_eq_true rfl | apply And.intro | decide | intro _ | exact rfl))
      repeat' (first | refine tr_seq ?_ | refine tr_block ?_ | refine tr_skip ?_)
      refine tr_cond rfl (fun hc => ?_) (fun hc => ?_)
      · simp only [condT_tt, condT_ff, condF_tt, condF_ff, notE_t, notE_f, decide_eq_true_eq, decide_eq_false_iff_not] at hc
        (try simp only [hcn] at hc)
        (try simp only [condT_tt, condT_ff, condF_tt, condF_ff, notE_t, notE_f, decide_eq_true_eq, decide_eq_false_iff_not] at hc)
        rw [if_pos (by omega)] at hJ
        repeat' (first | refine tr_seq ?_ | refine tr_block ?_ | refine tr_skip ?_)
        first | refine reg (T := tab) tOk hnt rfl ?_ ?_ | refine regD (T := tab) tOk mixedR hnt rfl (by decide +kernel) ?_ ?_
        · rw [Int.toNat_natCast, hgd]
          (dsimp only [AllP]; (repeat' first | exact trivial | assumption | exact Nat.le_of_ble_eq_true rfl | apply And.intro | exact eCells_len1 _ _ ‹_› | exact eCells_isByte _ _ ‹_› | (intro hh_; have hg_ := hh_; (try simp only [condT_ff, condF_tt, notE_t, notE_f, Bool.and_eq_true, ne_eq, decide_eq_true_eq, decide_eq_false_iff_not] at hg_)) | intro _ | exact rfl | omega))
          all_goals trace_state
        rw [Int.toNat_natCast, hgd]
        repeat' (first | refine tr_seq ?_ | refine tr_block ?_ | refine tr_skip ?_)
        refine tr_cond rfl (fun hc => ?_) (fun hc => ?_)
        · simp only [condT_tt, condT_ff, condF_tt, condF_ff, notE_t, notE_f, decide_eq_true_eq, decide_eq_false_iff_not] at hc
          (try simp only [hdi] at hc)
          (try simp only [condT_tt, condT_ff, condF_tt, condF_ff, notE_t, notE_f, decide_eq_true_eq, decide_eq_false_iff_not] at hc)
          rw [if_pos ⟨by omega, hc.2⟩] at hJ
          rw [hOF hJ.symm]
          repeat' (first | refine tr_seq ?_ | refine reg (T := tab) tOk hnt rfl ?_ ?_ | refine regD (T := tab) tOk mixedR hnt rfl (by decide +kernel) ?_ ?_ | refine tr_block ?_ | refine tr_skip ?_)
          · (dsimp only [AllP]; (repeat' first | exact trivial | assumption | exact Nat.le_of_ble_eq_true rfl | apply And.intro | decide | intro _ | exact rfl))
          exact tr_ret ⟨.inr rfl, _, _, rfl, trivial, rfl⟩
        simp only [condT_tt, condT_ff, condF_tt, condF_ff, notE_t, notE_f, decide_eq_true_eq, decide_eq_false_iff_not] at hc
        (try simp only [hdi] at hc)
        (try simp only [condT_tt, condT_ff, condF_tt, condF_ff, notE_t, notE_f, decide_eq_true_eq, decide_eq_false_iff_not] at hc)
        rw [if_neg (by omega)] at hJ
        repeat' (first | refine tr_seq ?_ | refine tr_block ?_ | refine tr_skip ?_)
        first | refine reg (T := tab) tOk hnt rfl ?_ ?_ | refine regD (T := tab) tOk mixedR hnt rfl (by decide +kernel) ?_ ?_
        · rw [Int.toNat_natCast, hgd]
          (dsimp only [AllP]; (repeat' first | exact trivial | assumption | exact Nat.le_of_ble_eq_true rfl | apply And.intro | exact eCells_len1 _ _ ‹_› | exact eCells_isByte _ _ ‹_› | (intro hh_; have hg_ := hh_; (try simp only [condT_ff, condF_tt, notE_t, notE_f, Bool.and_eq_true, ne_eq, decide_eq_true_eq, decide_eq_false_iff_not] at hg_)) | intro _ | exact rfl | omega))
          all_goals trace_state
        rw [Int.toNat_natCast, hgd]
        repeat' (first | refine tr_seq ?_ | refine reg (T := tab) tOk hnt rfl ?_ ?_ | refine regD (T := tab) tOk mixedR hnt rfl (by decide +kernel) ?_ ?_ | refine tr_block ?_ | refine tr_skip ?_)
        · (dsimp only [AllP]; (repeat' first | exact trivial | assumption | exact Nat.le_of_ble_eq_true rfl | apply And.intro | decide | intro _ | exact rfl))
        rw [h64]
        refine ⟨(k, i + 1, dv), ⟨by dsimp only; omega, hJ⟩, (Nat.lt_succ_self _), le_of (ad := []) (by refine ⟨?_, ?_, ?_, ?_, ?_, ?_, trivial⟩ <;> first | exact trivial | rfl | exact ⟨rfl, rfl⟩ | exact ⟨rfl, rfl, rfl⟩ | exact ⟨rfl, rfl, rfl, rfl⟩ | exact ⟨rfl, rfl, rfl, rfl, rfl⟩ | exact congrArg (fun z : Int => E.v (.int .i64 z)) (wrap64_id (by omega) (by omega)) | exact congrArg (fun z : Int => E.v (.int .u8 z)) (by assumption) | exact congrArg (fun z : ByteArray => E.v (.string z)) (by assumption) | (refine ⟨rfl, ?_⟩; repeat' first | exact trivial | rfl | apply And.intro)) (memOk_box rfl rfl rfl trivial)⟩
      simp only [condT_tt, condT_ff, condF_tt, condF_ff, notE_t, notE_f, decide_eq_true_eq, decide_eq_false_iff_not] at hc
      (try simp only [hcn] at hc)
      (try simp only [condT_tt, condT_ff, condF_tt, condF_ff, notE_t, notE_f, decide_eq_true_eq, decide_eq_false_iff_not] at hc)
      rw [if_neg (by omega)] at hJ
      repeat' (first | refine tr_seq ?_ | refine reg (T := tab) tOk hnt rfl ?_ ?_ | refine regD (T := tab) tOk mixedR hnt rfl (by decide +kernel) ?_ ?_ | refine tr_block ?_ | refine tr_skip ?_)
      · (dsimp only [AllP]; (repeat' first | exact trivial | assumption | exact Nat.le_of_ble_eq_true rfl | apply And.intro | decide | intro _ | exact rfl))
      rw [h64]
      refine ⟨(k, i + 1, lf), ⟨by dsimp only; omega, hJ⟩, (Nat.lt_succ_self _), le_of (ad := []) (by refine ⟨?_, ?_, ?_, ?_, ?_, ?_, trivial⟩ <;> first | exact trivial | rfl | exact ⟨rfl, rfl⟩ | exact ⟨rfl, rfl, rfl⟩ | exact ⟨rfl, rfl, rfl, rfl⟩ | exact ⟨rfl, rfl, rfl, rfl, rfl⟩ | exact congrArg (fun z : Int => E.v (.int .i64 z)) (wrap64_id (by omega) (by omega)) | exact congrArg (fun z : Int => E.v (.int .u8 z)) (by assumption) | exact congrArg (fun z : ByteArray => E.v (.string z)) (by assumption) | (refine ⟨rfl, ?_⟩; repeat' first | exact trivial | rfl | apply And.intro)) (memOk_box rfl rfl rfl trivial)⟩
    simp only [condT_tt, condT_ff, condF_tt, condF_ff, notE_t, notE_f, decide_eq_true_eq, decide_eq_false_iff_not] at hc
    (try simp only [hl2] at hc)
    (try simp only [condT_tt, condT_ff, condF_tt, condF_ff, notE_t, notE_f, decide_eq_true_eq, decide_eq_false_iff_not] at hc)
    refine tr_exit ?_
    obtain rfl : k = 0 := by omega
    have hJ : true = ordA t dp t.length 0 (-1) := hJ
    have hOF : ordF t dp = if ordT t = false then 3 else 0 := by unfold ordF; rw [← hJ]; exact if_neg (by decide)
    rw [hOF]
    have hr := root_fn t g
    unfold ordT
    repeat' (first | refine tr_seq ?_ | refine reg (T := tab) tOk hnt rfl ?_ ?_ | refine regD (T := tab) tOk mixedR hnt rfl (by decide +kernel) ?_ ?_ | refine tr_block ?_ | refine tr_skip ?_)
    · (dsimp only [AllP]; (repeat' first | exact trivial | assumption | exact Nat.le_of_ble_eq_true rfl | apply And.intro | decide | intro _ | exact rfl))
    by_cases h0 : t.length = 0
    · rw [if_pos h0] at hr ⊢
      have hE := eachNil_fn (true, true, [])
      repeat' (first | refine tr_seq ?_ | refine tr_block ?_ | refine tr_skip ?_)
      refine tr_region (lex (T := tab) tOk hnt rfl ?_ (call rfl rfl rfl rfl rfl rfl rfl hnt (hr) (lex (T := tab) tOk hnt rfl ?_ (callH (us := []) [(900000, 10), (900001, 9), (900002, 8)] [] [] rfl rfl rfl rfl (hE) (by repeat' first | exact .nil | refine .lent rfl rfl rfl ?_ | refine .data rfl ?_) (fun _ => rfl) rfl rfl hnt rfl rfl (by repeat' first | exact trivial | rfl | apply And.intro) (by repeat' first | exact trivial | rfl | apply And.intro) (lex (T := tab) tOk hnt rfl ?_ (Lex.nil _)))))) ?_
      · (dsimp only [AllP]; (repeat' first | exact trivial | assumption | exact Nat.le_of_ble_eq_true rfl | apply And.intro | exact eCells_len1 _ _ ‹_› | exact eCells_isByte _ _ ‹_› | (intro hh_; have hg_ := hh_; (try simp only [condT_ff, condF_tt, notE_t, notE_f, Bool.and_eq_true, ne_eq, decide_eq_true_eq, decide_eq_false_iff_not] at hg_)) | intro _ | exact rfl | omega))
        all_goals trace_state
      · (dsimp only [AllP]; (repeat' first | exact trivial | assumption | exact Nat.le_of_ble_eq_true rfl | apply And.intro | exact eCells_len1 _ _ ‹_› | exact eCells_isByte _ _ ‹_› | (intro hh_; have hg_ := hh_; (try simp only [condT_ff, condF_tt, notE_t, notE_f, Bool.and_eq_true, ne_eq, decide_eq_true_eq, decide_eq_false_iff_not] at hg_)) | intro _ | exact rfl | omega))
        all_goals trace_state
      · (dsimp only [AllP]; (repeat' first | exact trivial | assumption | exact Nat.le_of_ble_eq_true rfl | apply And.intro | exact eCells_len1 _ _ ‹_› | exact eCells_isByte _ _ ‹_› | (intro hh_; have hg_ := hh_; (try simp only [condT_ff, condF_tt, notE_t, notE_f, Bool.and_eq_true, ne_eq, decide_eq_true_eq, decide_eq_false_iff_not] at hg_)) | intro _ | exact rfl | omega))
        all_goals trace_state
      refine tr_le (s' := St.of [(10, .one (.ptr 10 0 0))] [(10, ⟨0, .box (.es [eBo true]), 0⟩)]) (le_of (ad := []) (by refine ⟨?_, trivial⟩ <;> first | exact trivial | rfl | exact ⟨rfl, rfl⟩ | exact ⟨rfl, rfl, rfl⟩ | exact ⟨rfl, rfl, rfl, rfl⟩ | exact ⟨rfl, rfl, rfl, rfl, rfl⟩ | exact congrArg (fun z : Int => E.v (.int .i64 z)) (wrap64_id (by omega) (by omega)) | exact congrArg (fun z : Int => E.v (.int .u8 z)) (by assumption) | exact congrArg (fun z : ByteArray => E.v (.string z)) (by assumption) | (refine ⟨rfl, ?_⟩; repeat' first | exact trivial | rfl | apply And.intro)) (memOk_box rfl rfl rfl trivial)) ?_
      repeat' (first | refine tr_seq ?_ | refine reg (T := tab) tOk hnt rfl ?_ ?_ | refine regD (T := tab) tOk mixedR hnt rfl (by decide +kernel) ?_ ?_ | refine tr_block ?_ | refine tr_skip ?_)
      · (dsimp only [AllP]; (repeat' first | exact trivial | assumption | exact Nat.le_of_ble_eq_true rfl | apply And.intro | decide | intro _ | exact rfl))
      repeat' (first | refine tr_seq ?_ | refine tr_block ?_ | refine tr_skip ?_)
      refine tr_cond rfl (fun hc => ?_) (fun hc => ?_)
      · exact absurd hc (by decide)
      repeat' (first | refine tr_seq ?_ | refine reg (T := tab) tOk hnt rfl ?_ ?_ | refine regD (T := tab) tOk mixedR hnt rfl (by decide +kernel) ?_ ?_ | refine tr_block ?_ | refine tr_skip ?_)
      · (dsimp only [AllP]; (repeat' first | exact trivial | assumption | exact Nat.le_of_ble_eq_true rfl | apply And.intro | decide | intro _ | exact rfl))
      exact tr_ret ⟨.inr rfl, _, _, rfl, trivial, rfl⟩
    rw [if_neg h0] at hr ⊢
    have hE := eachO_fn t g t.length 0 (true, true, []) (by omega) (by omega)
    generalize foO (true, true, []) (prF t t.length 0) = S at *
    obtain ⟨ok, fi, la⟩ := S
    repeat' (first | refine tr_seq ?_ | refine tr_block ?_ | refine tr_skip ?_)
    refine tr_region (lex (T := tab) tOk hnt rfl ?_ (call rfl rfl rfl rfl rfl rfl rfl hnt (hr) (lex (T := tab) tOk hnt rfl ?_ (callH (us := []) [(900000, 10), (900001, 9), (900002, 8)] [] [] rfl rfl rfl rfl (hE) (by repeat' first | exact .nil | refine .lent rfl rfl rfl ?_ | refine .data rfl ?_) (fun _ => rfl) rfl rfl hnt rfl rfl (by repeat' first | exact trivial | rfl | apply And.intro) (by repeat' first | exact trivial | rfl | apply And.intro) (lex (T := tab) tOk hnt rfl ?_ (Lex.nil _)))))) ?_
    · (dsimp only [AllP]; (repeat' first | exact trivial | assumption | exact Nat.le_of_ble_eq_true rfl | apply And.intro | exact eCells_len1 _ _ ‹_› | exact eCells_isByte _ _ ‹_› | (intro hh_; have hg_ := hh_; (try simp only [condT_ff, condF_tt, notE_t, notE_f, Bool.and_eq_true, ne_eq, decide_eq_true_eq, decide_eq_false_iff_not] at hg_)) | intro _ | exact rfl | omega))
      all_goals trace_state
    · (dsimp only [AllP]; (repeat' first | exact trivial | assumption | exact Nat.le_of_ble_eq_true rfl | apply And.intro | exact eCells_len1 _ _ ‹_› | exact eCells_isByte _ _ ‹_› | (intro hh_; have hg_ := hh_; (try simp only [condT_ff, condF_tt, notE_t, notE_f, Bool.and_eq_true, ne_eq, decide_eq_true_eq, decide_eq_false_iff_not] at hg_)) | intro _ | exact rfl | omega))
      all_goals trace_state
    · (dsimp only [AllP]; (repeat' first | exact trivial | assumption | exact Nat.le_of_ble_eq_true rfl | apply And.intro | exact eCells_len1 _ _ ‹_› | exact eCells_isByte _ _ ‹_› | (intro hh_; have hg_ := hh_; (try simp only [condT_ff, condF_tt, notE_t, notE_f, Bool.and_eq_true, ne_eq, decide_eq_true_eq, decide_eq_false_iff_not] at hg_)) | intro _ | exact rfl | omega))
      all_goals trace_state
    refine tr_le (s' := St.of [(10, .one (.ptr 10 0 0))] [(10, ⟨0, .box (.es [eBo ok]), 0⟩)]) (le_of (ad := []) (by refine ⟨?_, trivial⟩ <;> first | exact trivial | rfl | exact ⟨rfl, rfl⟩ | exact ⟨rfl, rfl, rfl⟩ | exact ⟨rfl, rfl, rfl, rfl⟩ | exact ⟨rfl, rfl, rfl, rfl, rfl⟩ | exact congrArg (fun z : Int => E.v (.int .i64 z)) (wrap64_id (by omega) (by omega)) | exact congrArg (fun z : Int => E.v (.int .u8 z)) (by assumption) | exact congrArg (fun z : ByteArray => E.v (.string z)) (by assumption) | (refine ⟨rfl, ?_⟩; repeat' first | exact trivial | rfl | apply And.intro)) (memOk_box rfl rfl rfl trivial)) ?_
    cases ok with
    | false =>
      repeat' (first | refine tr_seq ?_ | refine reg (T := tab) tOk hnt rfl ?_ ?_ | refine regD (T := tab) tOk mixedR hnt rfl (by decide +kernel) ?_ ?_ | refine tr_block ?_ | refine tr_skip ?_)
      · (dsimp only [AllP]; (repeat' first | exact trivial | assumption | exact Nat.le_of_ble_eq_true rfl | apply And.intro | decide | intro _ | exact rfl))
      repeat' (first | refine tr_seq ?_ | refine tr_block ?_ | refine tr_skip ?_)
      refine tr_cond rfl (fun hc => ?_) (fun hc => ?_)
      · repeat' (first | refine tr_seq ?_ | refine reg (T := tab) tOk hnt rfl ?_ ?_ | refine regD (T := tab) tOk mixedR hnt rfl (by decide +kernel) ?_ ?_ | refine tr_block ?_ | refine tr_skip ?_)
        · (dsimp only [AllP]; (repeat' first | exact trivial | assumption | exact Nat.le_of_ble_eq_true rfl | apply And.intro | decide | intro _ | exact rfl))
        exact tr_ret ⟨.inr rfl, _, _, rfl, trivial, rfl⟩
      exact absurd hc (by decide)
    | true =>
      repeat' (first | refine tr_seq ?_ | refine reg (T := tab) tOk hnt rfl ?_ ?_ | refine regD (T := tab) tOk mixedR hnt rfl (by decide +kernel) ?_ ?_ | refine tr_block ?_ | refine tr_skip ?_)
      · (dsimp only [AllP]; (repeat' first | exact trivial | assumption | exact Nat.le_of_ble_eq_true rfl | apply And.intro | decide | intro _ | exact rfl))
      repeat' (first | refine tr_seq ?_ | refine tr_block ?_ | refine tr_skip ?_)
      refine tr_cond rfl (fun hc => ?_) (fun hc => ?_)
      · exact absurd hc (by decide)
      repeat' (first | refine tr_seq ?_ | refine reg (T := tab) tOk hnt rfl ?_ ?_ | refine regD (T := tab) tOk mixedR hnt rfl (by decide +kernel) ?_ ?_ | refine tr_block ?_ | refine tr_skip ?_)
      · (dsimp only [AllP]; (repeat' first | exact trivial | assumption | exact Nat.le_of_ble_eq_true rfl | apply And.intro | decide | intro _ | exact rfl))
      exact tr_ret ⟨.inr rfl, _, _, rfl, trivial, rfl⟩
end Go.Proofs.YtphaholcndhonaaDoor.Tr
namespace Go.Proofs.YtphaholcndhonaaDoor.Tr
open Go Go.RowKit Go.Proofs.YtphaholcndhonaaDoor.Ab
set_option linter.unusedSimpArgs false
set_option linter.unusedVariables false

/-- keys from j on: none too long -/
def kA (l : List (List UInt8)) : Nat → Nat → Bool
  | 0, _ => true
  | k + 1, j => if 60 < (l.getD j []).length then false else kA l k (j + 1)
def chA (t : List Nd) : Nat → Nat → Nat → Bool
  | 0, _, a => decide (a ≤ 100)
  | k + 1, i, a => if kA (t.getD i nd0).k (t.getD i nd0).k.length 0 = false then false else if 100 < (t.getD i nd0).k.length then false else chA t k (i + 1) (a + (t.getD i nd0).k.length)
def badN (n : Nd) : Prop := ((n.k.length < 1 ∨ 3 < n.k.length) ∨ n.v.length ≠ n.k.length) ∨ (n.c.length ≠ 0 ∧ n.c.length ≠ n.k.length + 1)
instance (n : Nd) : Decidable (badN n) := inferInstanceAs (Decidable (_ ∨ _))
def kdA (t : List Nd) (i : Nat) (c : List Int) : Nat → Nat → List Int → Option (List Int)
  | 0, _, dp => some dp
  | k + 1, j, dp => if (c.getD j 0 ≤ (i : Int) ∨ (t.length : Int) ≤ c.getD j 0) ∨ 0 < dp.getD (c.getD j 0).toNat 0 then none else kdA t i c k (j + 1) (dp.set (c.getD j 0).toNat (dp.getD i 0 + 1))
def stA (t : List Nd) : Nat → Nat → List Int → Option (List Int)
  | 0, _, dp => some dp
  | k + 1, i, dp => if badN (t.getD i nd0) then none else match kdA t i (t.getD i nd0).c (t.getD i nd0).c.length 0 dp with
    | some dp' => stA t k (i + 1) dp'
    | none => none
def zI (n : Nat) : List Int := List.replicate n 0
theorem chA_len (t : List Nd) : ∀ (k i a : Nat), chA t k i a = true → ∀ j, i ≤ j → j < i + k → (t.getD j nd0).k.length ≤ 100
  | 0, i, a, _, j, h1, h2 => absurd h2 (by omega)
  | k + 1, i, a, h, j, h1, h2 => by
    rw [chA] at h
    split at h
    · cases h
    split at h
    · cases h
    rename_i hl
    by_cases hj : j = i
    · subst hj; omega
    · exact chA_len t k (i + 1) _ h j (by omega) (by omega)
theorem eIs_rep (n : Nat) : List.replicate n [eI 0] = eIs (zI n) := by unfold eIs zI; rw [List.map_replicate]
theorem isVal (l : List Int) (p : Nat) : (((eIs l).getD p []).getD 0 E.dflt).int = l.getD p 0 := by
  by_cases h : p < l.length
  · rw [isGet l h]; rfl
  · have hz := isLen l
    rw [List.getD_eq_getElem?_getD (l := l), List.getElem?_eq_none (by omega), List.getD_eq_getElem?_getD (l := eIs l), List.getElem?_eq_none (by omega)]
    rfl
theorem not_bad {n : Nd} (h : ¬ badN n) : shN n := by
  unfold badN at h
  unfold shN
  refine ⟨by omega, by omega, by omega, ?_⟩
  by_cases hc : n.c.length = 0
  · exact .inl (List.eq_nil_of_length_eq_zero hc)
  · exact .inr (by omega)
def dpOk (dp : List Int) : Prop := ∀ q, 0 ≤ dp.getD q 0 ∧ dp.getD q 0 ≤ (q : Int)
theorem dpOk_z (n : Nat) : dpOk (zI n) := fun q => by
  have : (zI n).getD q 0 = 0 := by
    unfold zI
    rw [List.getD_eq_getElem?_getD, List.getElem?_replicate]
    split <;> rfl
  rw [this]
  omega
theorem setEl_is (dp : List Int) {q : Nat} (h : q < dp.length) (v : Int) : setEl (eIs dp) q 0 1 [eI v] = eIs (dp.set q v) := by
  unfold setEl
  rw [isGet dp h]
  unfold eIs
  rw [List.map_set]
  rfl
theorem getD_set (dp : List Int) (q : Nat) (v : Int) (r : Nat) : (dp.set q v).getD r 0 = if q = r ∧ r < dp.length then v else dp.getD r 0 := by
  rw [List.getD_eq_getElem?_getD, List.getElem?_set, List.getD_eq_getElem?_getD]
  by_cases h : q = r
  · subst h
    by_cases h2 : q < dp.length
    · simp [h2]
    · simp [h2, List.getElem?_eq_none (Nat.le_of_not_lt h2)]
  · simp [h]
theorem dpOk_set {dp : List Int} (h : dpOk dp) {i q : Nat} (hq : i < q) : dpOk (dp.set q (dp.getD i 0 + 1)) := fun r => by
  rw [getD_set]
  split
  · rename_i hr
    have := h i
    omega
  · exact h r
def chkF (t : List Nd) : Int := if 100 < t.length then 1 else if chA t t.length 0 0 = false then 1 else match stA t t.length 0 (zI t.length) with
  | some dp => ordF t dp
  | none => 3
set_option maxRecDepth 10000 in
set_option maxHeartbeats 2000000 in
theorem Check_fn (t : List Nd) (hm : ∀ i, (t.getD i nd0).k.length ≤ maxLen) : FnD Tryd.prog 68 [.agg (.es (eTr t))] (.one (.e (eI (chkF t)))) := by
  refine fn_intro (T := tab) tOk Tryd.func68 rfl (by kernel_rfl) (by simp [Tryd.ntmps68]) ?_
  intro X hX
  have hnt : X.nt = 131 := hX
  clear hX
  have hl : ((eTr t).getD (0 + 0) E.dflt).xs.length = t.length := List.length_map ..
  have hl2 : (t.map eNd).length = t.length := List.length_map ..
  repeat' (first | refine tr_seq ?_ | refine reg (T := tab) tOk hnt rfl ?_ ?_ | refine regD (T := tab) tOk mixedR hnt rfl (by decide +kernel) ?_ ?_ | refine tr_block ?_ | refine tr_skip ?_)
  · (dsimp only [AllP]; (repeat' first | exact trivial | assumption | exact Nat.le_of_ble_eq_true rfl | apply And.intro | decide | intro _ | exact rfl))
  · (dsimp only [AllP]; (repeat' first | exact trivial | assumption | exact Nat.le_of_ble_eq_true rfl | apply And.intro | decide | intro _ | exact rfl))
  repeat' (first | refine tr_seq ?_ | refine tr_block ?_ | refine tr_skip ?_)
  refine tr_cond rfl (fun hc => ?_) (fun hc => ?_)
  · simp only [condT_tt, condT_ff, condF_tt, condF_ff, notE_t, notE_f, decide_eq_true_eq, decide_eq_false_iff_not] at hc
    (try simp only [hl] at hc)
    (try simp only [condT_tt, condT_ff, condF_tt, condF_ff, notE_t, notE_f, decide_eq_true_eq, decide_eq_false_iff_not] at hc)
    unfold chkF
    rw [if_pos (by omega)]
    repeat' (first | refine tr_seq ?_ | refine reg (T := tab) tOk hnt rfl ?_ ?_ | refine regD (T := tab) tOk mixedR hnt rfl (by decide +kernel) ?_ ?_ | refine tr_block ?_ | refine tr_skip ?_)
    · (dsimp only [AllP]; (repeat' first | exact trivial | assumption | exact Nat.le_of_ble_eq_true rfl | apply And.intro | decide | intro _ | exact rfl))
    exact tr_ret ⟨.inr rfl, _, _, rfl, trivial, rfl⟩
  simp only [condT_tt, condT_ff, condF_tt, condF_ff, notE_t, notE_f, decide_eq_true_eq, decide_eq_false_iff_not] at hc
  (try simp only [hl] at hc)
  (try simp only [condT_tt, condT_ff, condF_tt, condF_ff, notE_t, notE_f, decide_eq_true_eq, decide_eq_false_iff_not] at hc)
  have hlen : t.length ≤ 100 := by omega
  repeat' (first | refine tr_seq ?_ | refine tr_block ?_ | refine tr_skip ?_)
  first | refine reg (T := tab) tOk hnt rfl ?_ ?_ | refine regD (T := tab) tOk mixedR hnt rfl (by decide +kernel) ?_ ?_
  · (dsimp only [AllP]; (repeat' first | exact trivial | assumption | exact Nat.le_of_ble_eq_true rfl | apply And.intro | exact eCells_len1 _ _ ‹_› | exact eCells_isByte _ _ ‹_› | (intro hh_; have hg_ := hh_; (try simp only [condT_ff, condF_tt, notE_t, notE_f, Bool.and_eq_true, ne_eq, decide_eq_true_eq, decide_eq_false_iff_not] at hg_)) | intro _ | exact rfl | omega))
  repeat' (first | refine tr_seq ?_ | refine tr_block ?_ | refine tr_skip ?_)
  first | refine reg (T := tab) tOk hnt rfl ?_ ?_ | refine regD (T := tab) tOk mixedR hnt rfl (by decide +kernel) ?_ ?_
  · (dsimp only [AllP]; (repeat' first | exact trivial | assumption | exact Nat.le_of_ble_eq_true rfl | apply And.intro | exact eCells_len1 _ _ ‹_› | exact eCells_isByte _ _ ‹_› | (intro hh_; have hg_ := hh_; (try simp only [condT_ff, condF_tt, notE_t, notE_f, Bool.and_eq_true, ne_eq, decide_eq_true_eq, decide_eq_false_iff_not] at hg_)) | intro _ | exact rfl | omega))
  repeat' (first | refine tr_seq ?_ | refine tr_block ?_ | refine tr_skip ?_)
  refine tr_loop (σ := Nat × Nat × Nat) (fun x => St.of [(1, .one (.ptr 1 0 0)), (3, .one (.e (eI (x.2.2 : Int)))), (18, .one (.e (.sl (t.map eNd)))), (19, .one (.e (eI (((t.map eNd).length : Nat) : Int)))), (20, .one (.e (eI (x.2.1 : Int))))] [(1, ⟨0, .box (.es (eTr t)), 0⟩)]) (fun x => x.1 + x.2.1 = t.length ∧ x.2.2 ≤ 100 * x.2.1 ∧ chA t x.1 x.2.1 x.2.2 = chA t t.length 0 0) (fun x => x.1) ((t.length, 0, 0)) (le_of (ad := []) (by refine ⟨?_, ?_, ?_, ?_, ?_, trivial⟩ <;> first | exact trivial | rfl | exact ⟨rfl, rfl⟩ | exact ⟨rfl, rfl, rfl⟩ | exact ⟨rfl, rfl, rfl, rfl⟩ | exact ⟨rfl, rfl, rfl, rfl, rfl⟩ | exact congrArg (fun z : Int => E.v (.int .i64 z)) (wrap64_id (by omega) (by omega)) | exact congrArg (fun z : Int => E.v (.int .u8 z)) (by assumption) | exact congrArg (fun z : ByteArray => E.v (.string z)) (by assumption) | (refine ⟨rfl, ?_⟩; repeat' first | exact trivial | rfl | apply And.intro)) (memOk_box rfl rfl rfl trivial)) ⟨rfl, Nat.zero_le _, rfl⟩ ?_
  · rintro ⟨k, i, al⟩ ⟨hk, hal, hJ⟩
    dsimp only at hk hal hJ ⊢
    repeat' (first | refine tr_seq ?_ | refine reg (T := tab) tOk hnt rfl ?_ ?_ | refine regD (T := tab) tOk mixedR hnt rfl (by decide +kernel) ?_ ?_ | refine tr_block ?_ | refine tr_skip ?_)
    · (dsimp only [AllP]; (repeat' first | exact trivial | assumption | exact Nat.le_of_ble_eq_true rfl | apply And.intro | decide | intro _ | exact rfl))
    repeat' (first | refine tr_seq ?_ | refine tr_block ?_ | refine tr_skip ?_)
    refine tr_cond rfl (fun hc => ?_) (fun hc => ?_)
    · simp only [condT_tt, condT_ff, condF_tt, condF_ff, notE_t, notE_f, decide_eq_true_eq, decide_eq_false_iff_not] at hc
      (try simp only [hl2] at hc)
      (try simp only [condT_tt, condT_ff, condF_tt, condF_ff, notE_t, notE_f, decide_eq_true_eq, decide_eq_false_iff_not] at hc)
      have hlt : i < t.length := by omega
      have hg := ndsGet t hlt
      obtain ⟨k, rfl⟩ : ∃ k', k = k' + 1 := ⟨k - 1, by omega⟩
      rw [chA] at hJ
      generalize hT : chA t t.length 0 0 = T at *
      have hCF : T = false → chkF t = 1 := fun h => by unfold chkF; rw [if_neg (by omega), hT, h]; rfl
      generalize hnn : t.getD i nd0 = n at *
      repeat' (first | refine tr_seq ?_ | refine tr_block ?_ | refine tr_skip ?_)
      first | refine reg (T := tab) tOk hnt rfl ?_ ?_ | refine regD (T := tab) tOk mixedR hnt rfl (by decide +kernel) ?_ ?_
      · rw [Int.toNat_natCast, hg]
        (dsimp only [AllP]; (repeat' first | exact trivial | assumption | exact Nat.le_of_ble_eq_true rfl | apply And.intro | exact eCells_len1 _ _ ‹_› | exact eCells_isByte _ _ ‹_› | (intro hh_; have hg_ := hh_; (try simp only [condT_ff, condF_tt, notE_t, notE_f, Bool.and_eq_true, ne_eq, decide_eq_true_eq, decide_eq_false_iff_not] at hg_)) | intro _ | exact rfl | omega))
        all_goals trace_state
      rw [Int.toNat_natCast, hg]
      repeat' (first | refine tr_seq ?_ | refine reg (T := tab) tOk hnt rfl ?_ ?_ | refine regD (T := tab) tOk mixedR hnt rfl (by decide +kernel) ?_ ?_ | refine tr_block ?_ | refine tr_skip ?_)
      · (dsimp only [AllP]; (repeat' first | exact trivial | assumption | exact Nat.le_of_ble_eq_true rfl | apply And.intro | decide | intro _ | exact rfl))
      have hkn : ((List.take 3 (List.drop 0 (eNd n))).getD (0 + 0) E.dflt).xs.length = n.k.length := ksLen n.k
      have hkx : ((List.take 3 (List.drop 0 (eNd n))).getD (0 + 0) E.dflt).xs = eKs n.k := rfl
      have hmx : n.k.length ≤ maxLen := by rw [← hnn]; exact hm i
      unfold maxLen at hmx
      repeat' (first | refine tr_seq ?_ | refine tr_block ?_ | refine tr_skip ?_)
      refine tr_loop (σ := Nat × Nat) (fun y => St.of [(1, .one (.ptr 1 0 0)), (3, .one (.e (eI (al : Int)))), (5, .one (.ptr 5 0 0)), (18, .one (.e (.sl (t.map eNd)))), (19, .one (.e (eI (((t.map eNd).length : Nat) : Int)))), (20, .one (.e (eI (i : Int)))), (25, .one (.e (.sl (eKs n.k)))), (26, .one (.e (eI (((eKs n.k).length : Nat) : Int)))), (27, .one (.e (eI (y.2 : Int))))] [(1, ⟨0, .box (.es (eTr t)), 0⟩), (5, ⟨0, .box (.es (eNd n)), 0⟩)]) (fun y => y.1 + y.2 = n.k.length ∧ kA n.k y.1 y.2 = kA n.k n.k.length 0) (fun y => y.1) ((n.k.length, 0)) (le_of (ad := []) (by refine ⟨?_, ?_, ?_, ?_, ?_, ?_, ?_, ?_, ?_, trivial⟩ <;> first | exact trivial | rfl | exact ⟨rfl, rfl⟩ | exact ⟨rfl, rfl, rfl⟩ | exact ⟨rfl, rfl, rfl, rfl⟩ | exact ⟨rfl, rfl, rfl, rfl, rfl⟩ | exact congrArg (fun z : Int => E.v (.int .i64 z)) (wrap64_id (by omega) (by omega)) | exact congrArg (fun z : Int => E.v (.int .u8 z)) (by assumption) | exact congrArg (fun z : ByteArray => E.v (.string z)) (by assumption) | (refine ⟨rfl, ?_⟩; repeat' first | exact trivial | rfl | apply And.intro)) (memOk_box rfl rfl rfl (memOk_box rfl rfl rfl trivial))) ⟨rfl, rfl⟩ ?_
      · rintro ⟨r, j⟩ ⟨hr, hK⟩
        dsimp only at hr hK ⊢
        have hkl := ksLen n.k
        repeat' (first | refine tr_seq ?_ | refine reg (T := tab) tOk hnt rfl ?_ ?_ | refine regD (T := tab) tOk mixedR hnt rfl (by decide +kernel) ?_ ?_ | refine tr_block ?_ | refine tr_skip ?_)
        · (dsimp only [AllP]; (repeat' first | exact trivial | assumption | exact Nat.le_of_ble_eq_true rfl | apply And.intro | decide | intro _ | exact rfl))
        repeat' (first | refine tr_seq ?_ | refine tr_block ?_ | refine tr_skip ?_)
        refine tr_cond rfl (fun hc => ?_) (fun hc => ?_)
        · simp only [condT_tt, condT_ff, condF_tt, condF_ff, notE_t, notE_f, decide_eq_true_eq, decide_eq_false_iff_not] at hc
          (try simp only [hkl] at hc)
          (try simp only [condT_tt, condT_ff, condF_tt, condF_ff, notE_t, notE_f, decide_eq_true_eq, decide_eq_false_iff_not] at hc)
          have hjl : j < n.k.length := by omega
          have hkg := ksGet n.k hjl
          obtain ⟨r, rfl⟩ : ∃ r', r = r' + 1 := ⟨r - 1, by omega⟩
          rw [kA] at hK
          generalize hky : n.k.getD j [] = ky at *
          have hks : (strB ky).size = ky.length := strB_size ky
          have hes : ([eKy ky].getD 0 E.dflt).str = strB ky := rfl
          repeat' (first | refine tr_seq ?_ | refine tr_block ?_ | refine tr_skip ?_)
          first | refine reg (T := tab) tOk hnt rfl ?_ ?_ | refine regD (T := tab) tOk mixedR hnt rfl (by decide +kernel) ?_ ?_
          · rw [Int.toNat_natCast, hkg]
            (dsimp only [AllP]; (repeat' first | exact trivial | assumption | exact Nat.le_of_ble_eq_true rfl | apply And.intro | exact eCells_len1 _ _ ‹_› | exact eCells_isByte _ _ ‹_› | (intro hh_; have hg_ := hh_; (try simp only [condT_ff, condF_tt, notE_t, notE_f, Bool.and_eq_true, ne_eq, decide_eq_true_eq, decide_eq_false_iff_not] at hg_)) | intro _ | exact rfl | omega))
            all_goals trace_state
          rw [Int.toNat_natCast, hkg]
          repeat' (first | refine tr_seq ?_ | refine reg (T := tab) tOk hnt rfl ?_ ?_ | refine regD (T := tab) tOk mixedR hnt rfl (by decide +kernel) ?_ ?_ | refine tr_block ?_ | refine tr_skip ?_)
          · (dsimp only [AllP]; (repeat' first | exact trivial | assumption | exact Nat.le_of_ble_eq_true rfl | apply And.intro | decide | intro _ | exact rfl))
          repeat' (first | refine tr_seq ?_ | refine tr_block ?_ | refine tr_skip ?_)
          refine tr_cond rfl (fun hc => ?_) (fun hc => ?_)
          · simp only [condT_tt, condT_ff, condF_tt, condF_ff, notE_t, notE_f, decide_eq_true_eq, decide_eq_false_iff_not] at hc
            (try simp only [hes, hks] at hc)
            (try simp only [condT_tt, condT_ff, condF_tt, condF_ff, notE_t, notE_f, decide_eq_true_eq, decide_eq_false_iff_not] at hc)
            rw [if_pos (by omega)] at hK
            rw [if_pos hK.symm] at hJ
            rw [hCF hJ.symm]
            repeat' (first | refine tr_seq ?_ | refine reg (T := tab) tOk hnt rfl ?_ ?_ | refine regD (T := tab) tOk mixedR hnt rfl (by decide +kernel) ?_ ?_ | refine tr_block ?_ | refine tr_skip ?_)
            · (dsimp only [AllP]; (repeat' first | exact trivial | assumption | exact Nat.le_of_ble_eq_true rfl | apply And.intro | decide | intro _ | exact rfl))
            exact tr_ret ⟨.inr rfl, _, _, rfl, trivial, rfl⟩
          simp only [condT_tt, condT_ff, condF_tt, condF_ff, notE_t, notE_f, decide_eq_true_eq, decide_eq_false_iff_not] at hc
          (try simp only [hes, hks] at hc)
          (try simp only [condT_tt, condT_ff, condF_tt, condF_ff, notE_t, notE_f, decide_eq_true_eq, decide_eq_false_iff_not] at hc)
          rw [if_neg (by omega)] at hK
          have h64 : IntKind.i64.wrap ((j : Int) + 1) = ((j + 1 : Nat) : Int) := wrap64_id (by omega) (by omega)
          repeat' (first | refine tr_seq ?_ | refine reg (T := tab) tOk hnt rfl ?_ ?_ | refine regD (T := tab) tOk mixedR hnt rfl (by decide +kernel) ?_ ?_ | refine tr_block ?_ | refine tr_skip ?_)
          · (dsimp only [AllP]; (repeat' first | exact trivial | assumption | exact Nat.le_of_ble_eq_true rfl | apply And.intro | decide | intro _ | exact rfl))
          rw [h64]
          refine ⟨(r, j + 1), ⟨by dsimp only; omega, hK⟩, (Nat.lt_succ_self _), le_of (ad := []) (by refine ⟨?_, ?_, ?_, ?_, ?_, ?_, ?_, ?_, ?_, trivial⟩ <;> first | exact trivial | rfl | exact ⟨rfl, rfl⟩ | exact ⟨rfl, rfl, rfl⟩ | exact ⟨rfl, rfl, rfl, rfl⟩ | exact ⟨rfl, rfl, rfl, rfl, rfl⟩ | exact congrArg (fun z : Int => E.v (.int .i64 z)) (wrap64_id (by omega) (by omega)) | exact congrArg (fun z : Int => E.v (.int .u8 z)) (by assumption) | exact congrArg (fun z : ByteArray => E.v (.string z)) (by assumption) | (refine ⟨rfl, ?_⟩; repeat' first | exact trivial | rfl | apply And.intro)) (memOk_box rfl rfl rfl (memOk_box rfl rfl rfl trivial))⟩
        simp only [condT_tt, condT_ff, condF_tt, condF_ff, notE_t, notE_f, decide_eq_true_eq, decide_eq_false_iff_not] at hc
        (try simp only [hkl] at hc)
        (try simp only [condT_tt, condT_ff, condF_tt, condF_ff, notE_t, notE_f, decide_eq_true_eq, decide_eq_false_iff_not] at hc)
        refine tr_exit ?_
        obtain rfl : r = 0 := by omega
        have hK : true = kA n.k n.k.length 0 := hK
        rw [← hK, if_neg (by decide)] at hJ
        repeat' (first | refine tr_seq ?_ | refine reg (T := tab) tOk hnt rfl ?_ ?_ | refine regD (T := tab) tOk mixedR hnt rfl (by decide +kernel) ?_ ?_ | refine tr_block ?_ | refine tr_skip ?_)
        · (dsimp only [AllP]; (repeat' first | exact trivial | assumption | exact Nat.le_of_ble_eq_true rfl | apply And.intro | decide | intro _ | exact rfl))
        have hkn2 : ((eNd n).getD (0 + 0) E.dflt).xs.length = n.k.length := ksLen n.k
        repeat' (first | refine tr_seq ?_ | refine tr_block ?_ | refine tr_skip ?_)
        refine tr_cond rfl (fun hc => ?_) (fun hc => ?_)
        · simp only [condT_tt, condT_ff, condF_tt, condF_ff, notE_t, notE_f, decide_eq_true_eq, decide_eq_false_iff_not] at hc
          (try simp only [hkn, hkn2] at hc)
          (try simp only [condT_tt, condT_ff, condF_tt, condF_ff, notE_t, notE_f, decide_eq_true_eq, decide_eq_false_iff_not] at hc)
          rw [if_pos (by omega)] at hJ
          rw [hCF hJ.symm]
          repeat' (first | refine tr_seq ?_ | refine reg (T := tab) tOk hnt rfl ?_ ?_ | refine regD (T := tab) tOk mixedR hnt rfl (by decide +kernel) ?_ ?_ | refine tr_block ?_ | refine tr_skip ?_)
          · (dsimp only [AllP]; (repeat' first | exact trivial | assumption | exact Nat.le_of_ble_eq_true rfl | apply And.intro | decide | intro _ | exact rfl))
          exact tr_ret ⟨.inr rfl, _, _, rfl, trivial, rfl⟩
        simp only [condT_tt, condT_ff, condF_tt, condF_ff, notE_t, notE_f, decide_eq_true_eq, decide_eq_false_iff_not] at hc
        (try simp only [hkn, hkn2] at hc)
        (try simp only [condT_tt, condT_ff, condF_tt, condF_ff, notE_t, notE_f, decide_eq_true_eq, decide_eq_false_iff_not] at hc)
        rw [if_neg (by omega)] at hJ
        repeat' (first | refine tr_seq ?_ | refine tr_block ?_ | refine tr_skip ?_)
        first | refine reg (T := tab) tOk hnt rfl ?_ ?_ | refine regD (T := tab) tOk mixedR hnt rfl (by decide +kernel) ?_ ?_
        · (dsimp only [AllP]; (repeat' first | exact trivial | assumption | exact Nat.le_of_ble_eq_true rfl | apply And.intro | exact eCells_len1 _ _ ‹_› | exact eCells_isByte _ _ ‹_› | (intro hh_; have hg_ := hh_; (try simp only [condT_ff, condF_tt, notE_t, notE_f, Bool.and_eq_true, ne_eq, decide_eq_true_eq, decide_eq_false_iff_not] at hg_)) | intro _ | exact rfl | omega))
          all_goals trace_state
        have h65 : IntKind.i64.wrap ((al : Int) + ((((eNd n).getD (0 + 0) E.dflt).xs.length : Nat) : Int)) = ((al + n.k.length : Nat) : Int) := by
          rw [show ((eNd n).getD (0 + 0) E.dflt).xs.length = n.k.length from ksLen n.k]
          rw [wrap64_id (by omega) (by omega)]
          rfl
        have h64 : IntKind.i64.wrap ((i : Int) + 1) = ((i + 1 : Nat) : Int) := wrap64_id (by omega) (by omega)
        repeat' (first | refine tr_seq ?_ | refine reg (T := tab) tOk hnt rfl ?_ ?_ | refine regD (T := tab) tOk mixedR hnt rfl (by decide +kernel) ?_ ?_ | refine tr_block ?_ | refine tr_skip ?_)
        · (dsimp only [AllP]; (repeat' first | exact trivial | assumption | exact Nat.le_of_ble_eq_true rfl | apply And.intro | decide | intro _ | exact rfl))
        rw [h64, h65]
        refine ⟨(k, i + 1, al + n.k.length), ⟨by dsimp only; omega, by dsimp only; omega, hJ⟩, (Nat.lt_succ_self _), le_of (ad := []) (by refine ⟨?_, ?_, ?_, ?_, ?_, trivial⟩ <;> first | exact trivial | rfl | exact ⟨rfl, rfl⟩ | exact ⟨rfl, rfl, rfl⟩ | exact ⟨rfl, rfl, rfl, rfl⟩ | exact ⟨rfl, rfl, rfl, rfl, rfl⟩ | exact congrArg (fun z : Int => E.v (.int .i64 z)) (wrap64_id (by omega) (by omega)) | exact congrArg (fun z : Int => E.v (.int .u8 z)) (by assumption) | exact congrArg (fun z : ByteArray => E.v (.string z)) (by assumption) | (refine ⟨rfl, ?_⟩; repeat' first | exact trivial | rfl | apply And.intro)) (memOk_box rfl rfl rfl trivial)⟩
    simp only [condT_tt, condT_ff, condF_tt, condF_ff, notE_t, notE_f, decide_eq_true_eq, decide_eq_false_iff_not] at hc
    (try simp only [hl2] at hc)
    (try simp only [condT_tt, condT_ff, condF_tt, condF_ff, notE_t, notE_f, decide_eq_true_eq, decide_eq_false_iff_not] at hc)
    refine tr_exit ?_
    obtain rfl : k = 0 := by omega
    rw [chA] at hJ
    repeat' (first | refine tr_seq ?_ | refine reg (T := tab) tOk hnt rfl ?_ ?_ | refine regD (T := tab) tOk mixedR hnt rfl (by decide +kernel) ?_ ?_ | refine tr_block ?_ | refine tr_skip ?_)
    · (dsimp only [AllP]; (repeat' first | exact trivial | assumption | exact Nat.le_of_ble_eq_true rfl | apply And.intro | decide | intro _ | exact rfl))
    repeat' (first | refine tr_seq ?_ | refine tr_block ?_ | refine tr_skip ?_)
    refine tr_cond rfl (fun hc => ?_) (fun hc => ?_)
    · simp only [condT_tt, condT_ff, condF_tt, condF_ff, notE_t, notE_f, decide_eq_true_eq, decide_eq_false_iff_not] at hc
      have hCF : chkF t = 1 := by unfold chkF; rw [if_neg (by omega), ← hJ, if_pos (decide_eq_false (by omega))]
      rw [hCF]
      repeat' (first | refine tr_seq ?_ | refine reg (T := tab) tOk hnt rfl ?_ ?_ | refine regD (T := tab) tOk mixedR hnt rfl (by decide +kernel) ?_ ?_ | refine tr_block ?_ | refine tr_skip ?_)
      · (dsimp only [AllP]; (repeat' first | exact trivial | assumption | exact Nat.le_of_ble_eq_true rfl | apply And.intro | decide | intro _ | exact rfl))
      exact tr_ret ⟨.inr rfl, _, _, rfl, trivial, rfl⟩
    simp only [condT_tt, condT_ff, condF_tt, condF_ff, notE_t, notE_f, decide_eq_true_eq, decide_eq_false_iff_not] at hc
    have hCF : chkF t = match stA t t.length 0 (zI t.length) with
      | some dp => ordF t dp
      | none => 3 := by unfold chkF; rw [if_neg (by omega), ← hJ, if_neg (by rw [decide_eq_true (by omega)]; decide)]
    have hkl : ∀ j, j < t.length → (t.getD j nd0).k.length ≤ 100 := fun j hj => chA_len t t.length 0 0 (by rw [← hJ, decide_eq_true (by omega)]) j (Nat.zero_le _) (by omega)
    clear hJ
    rw [hCF]
    generalize hR : (match stA t t.length 0 (zI t.length) with
      | some dp => ordF t dp
      | none => (3 : Int)) = R at *
    repeat' (first | refine tr_seq ?_ | refine tr_block ?_ | refine tr_skip ?_)
    first | refine reg (T := tab) tOk hnt rfl ?_ ?_ | refine regD (T := tab) tOk mixedR hnt rfl (by decide +kernel) ?_ ?_
    · (dsimp only [AllP]; (repeat' first | exact trivial | assumption | exact Nat.le_of_ble_eq_true rfl | apply And.intro | exact eCells_len1 _ _ ‹_› | exact eCells_isByte _ _ ‹_› | (intro hh_; have hg_ := hh_; (try simp only [condT_ff, condF_tt, notE_t, notE_f, Bool.and_eq_true, ne_eq, decide_eq_true_eq, decide_eq_false_iff_not] at hg_)) | intro _ | exact rfl | omega))
      all_goals trace_state
    repeat' (first | refine tr_seq ?_ | refine tr_block ?_ | refine tr_skip ?_)
    first | refine reg (T := tab) tOk hnt rfl ?_ ?_ | refine regD (T := tab) tOk mixedR hnt rfl (by decide +kernel) ?_ ?_
    · (dsimp only [AllP]; (repeat' first | exact trivial | assumption | exact Nat.le_of_ble_eq_true rfl | apply And.intro | exact eCells_len1 _ _ ‹_› | exact eCells_isByte _ _ ‹_› | (intro hh_; have hg_ := hh_; (try simp only [condT_ff, condF_tt, notE_t, notE_f, Bool.and_eq_true, ne_eq, decide_eq_true_eq, decide_eq_false_iff_not] at hg_)) | intro _ | exact rfl | omega))
      all_goals trace_state
    repeat' (first | refine tr_seq ?_ | refine tr_block ?_ | refine tr_skip ?_)
    refine tr_loop (σ := Nat × Nat × List Int) (fun x => St.of [(1, .one (.ptr 1 0 0)), (8, .one (.own 50 0)), (52, .one (.e (.sl (t.map eNd)))), (53, .one (.e (eI (((t.map eNd).length : Nat) : Int)))), (54, .one (.e (eI (x.2.1 : Int))))] [(1, ⟨0, .box (.es (eTr t)), 0⟩), (50, ⟨0, .row 1 (eIs x.2.2), 0⟩)]) (fun x => x.1 + x.2.1 = t.length ∧ x.2.2.length = t.length ∧ dpOk x.2.2 ∧ (∀ j, j < x.2.1 → shN (t.getD j nd0) ∧ kdN t j) ∧ (match stA t x.1 x.2.1 x.2.2 with | some dp => ordF t dp | none => (3 : Int)) = R) (fun x => x.1) ((t.length, 0, zI t.length)) (le_of (ad := []) (by refine ⟨?_, ?_, ?_, ?_, ?_, trivial⟩ <;> first | exact trivial | rfl | exact ⟨rfl, rfl⟩ | exact ⟨rfl, rfl, rfl⟩ | exact ⟨rfl, rfl, rfl, rfl⟩ | exact ⟨rfl, rfl, rfl, rfl, rfl⟩ | exact congrArg (fun z : Int => E.v (.int .i64 z)) (wrap64_id (by omega) (by omega)) | exact congrArg (fun z : Int => E.v (.int .u8 z)) (by assumption) | exact congrArg (fun z : ByteArray => E.v (.string z)) (by assumption) | (refine ⟨rfl, ?_⟩; repeat' first | exact trivial | rfl | apply And.intro)) (memOk_box rfl rfl rfl (memOk_row rfl rfl (by show List.replicate (Int.toNat (((t.map eNd).length : Nat) : Int)) [eI 0] = eIs (zI t.length); rw [Int.toNat_natCast, hl2, eIs_rep]) trivial))) ⟨rfl, List.length_replicate, dpOk_z _, (fun j h => absurd h (Nat.not_lt_zero _)), hR⟩ ?_
    · rintro ⟨k, i, dp⟩ ⟨hk, hdl, hdo, hgj, hJ⟩
      dsimp only at hk hdl hdo hgj hJ ⊢
      have hdn := isLen dp
      repeat' (first | refine tr_seq ?_ | refine reg (T := tab) tOk hnt rfl ?_ ?_ | refine regD (T := tab) tOk mixedR hnt rfl (by decide +kernel) ?_ ?_ | refine tr_block ?_ | refine tr_skip ?_)
      · (dsimp only [AllP]; (repeat' first | exact trivial | assumption | exact Nat.le_of_ble_eq_true rfl | apply And.intro | decide | intro _ | exact rfl))
      repeat' (first | refine tr_seq ?_ | refine tr_block ?_ | refine tr_skip ?_)
      refine tr_cond rfl (fun hc => ?_) (fun hc => ?_)
      · simp only [condT_tt, condT_ff, condF_tt, condF_ff, notE_t, notE_f, decide_eq_true_eq, decide_eq_false_iff_not] at hc
        (try simp only [hl2] at hc)
        (try simp only [condT_tt, condT_ff, condF_tt, condF_ff, notE_t, notE_f, decide_eq_true_eq, decide_eq_false_iff_not] at hc)
        have hlt : i < t.length := by omega
        have hg := ndsGet t hlt
        obtain ⟨k, rfl⟩ : ∃ k', k = k' + 1 := ⟨k - 1, by omega⟩
        rw [stA] at hJ
        generalize hnn : t.getD i nd0 = n at *
        repeat' (first | refine tr_seq ?_ | refine tr_block ?_ | refine tr_skip ?_)
        first | refine reg (T := tab) tOk hnt rfl ?_ ?_ | refine regD (T := tab) tOk mixedR hnt rfl (by decide +kernel) ?_ ?_
        · rw [Int.toNat_natCast, hg]
          (dsimp only [AllP]; (repeat' first | exact trivial | assumption | exact Nat.le_of_ble_eq_true rfl | apply And.intro | exact eCells_len1 _ _ ‹_› | exact eCells_isByte _ _ ‹_› | (intro hh_; have hg_ := hh_; (try simp only [condT_ff, condF_tt, notE_t, notE_f, Bool.and_eq_true, ne_eq, decide_eq_true_eq, decide_eq_false_iff_not] at hg_)) | intro _ | exact rfl | omega))
          all_goals trace_state
        rw [Int.toNat_natCast, hg]
        repeat' (first | refine tr_seq ?_ | refine tr_block ?_ | refine tr_skip ?_)
        first | refine reg (T := tab) tOk hnt rfl ?_ ?_ | refine regD (T := tab) tOk mixedR hnt rfl (by decide +kernel) ?_ ?_
        · (dsimp only [AllP]; (repeat' first | exact trivial | assumption | exact Nat.le_of_ble_eq_true rfl | apply And.intro | exact eCells_len1 _ _ ‹_› | exact eCells_isByte _ _ ‹_› | (intro hh_; have hg_ := hh_; (try simp only [condT_ff, condF_tt, notE_t, notE_f, Bool.and_eq_true, ne_eq, decide_eq_true_eq, decide_eq_false_iff_not] at hg_)) | intro _ | exact rfl | omega))
          all_goals trace_state
        have f1 : ((List.take 3 (List.drop 0 (eNd n))).getD (0 + 0) E.dflt).xs.length = n.k.length := ksLen n.k
        have f2 : ((List.take 3 (List.drop 0 (eNd n))).getD (0 + 1) E.dflt).xs.length = n.v.length := isLen n.v
        have f3 : ((List.take 3 (List.drop 0 (eNd n))).getD (0 + 2) E.dflt).xs.length = n.c.length := isLen n.c
        have f4 : IntKind.i64.wrap ((n.k.length : Int) + 1) = (n.k.length : Int) + 1 := wrap64_id (by have := hkl i hlt; rw [hnn] at this; omega) (by have := hkl i hlt; rw [hnn] at this; omega)
        repeat' (first | refine tr_seq ?_ | refine tr_block ?_ | refine tr_skip ?_)
        refine tr_cond rfl (fun hc => ?_) (fun hc => ?_)
        · simp only [condT_tt, condT_ff, condF_tt, condF_ff, notE_t, notE_f, decide_eq_true_eq, decide_eq_false_iff_not] at hc
          (try simp only [f1, f2, f3, f4] at hc)
          (try simp only [condT_tt, condT_ff, condF_tt, condF_ff, notE_t, notE_f, decide_eq_true_eq, decide_eq_false_iff_not] at hc)
          have hb : badN n := by
            unfold badN
            omega
          rw [if_pos hb] at hJ
          have hJ : (3 : Int) = R := hJ
          rw [← hJ]
          repeat' (first | refine tr_seq ?_ | refine reg (T := tab) tOk hnt rfl ?_ ?_ | refine regD (T := tab) tOk mixedR hnt rfl (by decide +kernel) ?_ ?_ | refine tr_block ?_ | refine tr_skip ?_)
          · (dsimp only [AllP]; (repeat' first | exact trivial | assumption | exact Nat.le_of_ble_eq_true rfl | apply And.intro | decide | intro _ | exact rfl))
          exact tr_ret ⟨.inr rfl, _, _, rfl, trivial, rfl⟩
        simp only [condT_tt, condT_ff, condF_tt, condF_ff, notE_t, notE_f, decide_eq_true_eq, decide_eq_false_iff_not] at hc
        (try simp only [f1, f2, f3, f4] at hc)
        (try simp only [condT_tt, condT_ff, condF_tt, condF_ff, notE_t, notE_f, decide_eq_true_eq, decide_eq_false_iff_not] at hc)
        have hb : ¬ badN n := by
          unfold badN
          omega
        rw [if_neg hb] at hJ
        repeat' (first | refine tr_seq ?_ | refine tr_block ?_ | refine tr_skip ?_)
        first | refine reg (T := tab) tOk hnt rfl ?_ ?_ | refine regD (T := tab) tOk mixedR hnt rfl (by decide +kernel) ?_ ?_
        · (dsimp only [AllP]; (repeat' first | exact trivial | assumption | exact Nat.le_of_ble_eq_true rfl | apply And.intro | exact eCells_len1 _ _ ‹_› | exact eCells_isByte _ _ ‹_› | (intro hh_; have hg_ := hh_; (try simp only [condT_ff, condF_tt, notE_t, notE_f, Bool.and_eq_true, ne_eq, decide_eq_true_eq, decide_eq_false_iff_not] at hg_)) | intro _ | exact rfl | omega))
          all_goals trace_state
        have hsh := not_bad hb
        obtain ⟨s1, s2, s3, s4⟩ := id hsh
        have hcl : n.c.length ≤ 4 := by rcases s4 with s4 | s4 <;> simp [s4] <;> omega
        generalize hK0 : kdA t i n.c n.c.length 0 dp = K0 at *
        repeat' (first | refine tr_seq ?_ | refine tr_block ?_ | refine tr_skip ?_)
        refine tr_loop (σ := Nat × Nat × List Int) (fun y => St.of [(1, .one (.ptr 1 0 0)), (8, .one (.own 50 0)), (9, .one (.e (eI (i : Int)))), (52, .one (.e (.sl (t.map eNd)))), (53, .one (.e (eI (((t.map eNd).length : Nat) : Int)))), (54, .one (.e (eI (i : Int)))), (95, .one (.e (.sl (eIs n.c)))), (96, .one (.e (eI (((eIs n.c).length : Nat) : Int)))), (97, .one (.e (eI (y.2.1 : Int))))] [(1, ⟨0, .box (.es (eTr t)), 0⟩), (50, ⟨0, .row 1 (eIs y.2.2), 0⟩)]) (fun y => y.1 + y.2.1 = n.c.length ∧ y.2.2.length = t.length ∧ dpOk y.2.2 ∧ (∀ j, j < y.2.1 → (i : Int) < n.c.getD j 0 ∧ n.c.getD j 0 < (t.length : Int)) ∧ kdA t i n.c y.1 y.2.1 y.2.2 = K0) (fun y => y.1) ((n.c.length, 0, dp)) (le_of (ad := []) (by refine ⟨?_, ?_, ?_, ?_, ?_, ?_, ?_, ?_, ?_, trivial⟩ <;> first | exact trivial | rfl | exact ⟨rfl, rfl⟩ | exact ⟨rfl, rfl, rfl⟩ | exact ⟨rfl, rfl, rfl, rfl⟩ | exact ⟨rfl, rfl, rfl, rfl, rfl⟩ | exact congrArg (fun z : Int => E.v (.int .i64 z)) (wrap64_id (by omega) (by omega)) | exact congrArg (fun z : Int => E.v (.int .u8 z)) (by assumption) | exact congrArg (fun z : ByteArray => E.v (.string z)) (by assumption) | (refine ⟨rfl, ?_⟩; repeat' first | exact trivial | rfl | apply And.intro)) (memOk_box rfl rfl rfl (memOk_row rfl rfl rfl trivial))) ⟨rfl, hdl, hdo, (fun j h => absurd h (Nat.not_lt_zero _)), hK0⟩ ?_
        · rintro ⟨r, j, dq⟩ ⟨hr, hql, hqo, hqj, hK⟩
          dsimp only at hr hql hqo hqj hK ⊢
          have hcn := isLen n.c
          have hqn := isLen dq
          repeat' (first | refine tr_seq ?_ | refine reg (T := tab) tOk hnt rfl ?_ ?_ | refine regD (T := tab) tOk mixedR hnt rfl (by decide +kernel) ?_ ?_ | refine tr_block ?_ | refine tr_skip ?_)
          · (dsimp only [AllP]; (repeat' first | exact trivial | assumption | exact Nat.le_of_ble_eq_true rfl | apply And.intro | decide | intro _ | exact rfl))
          repeat' (first | refine tr_seq ?_ | refine tr_block ?_ | refine tr_skip ?_)
          refine tr_cond rfl (fun hc => ?_) (fun hc => ?_)
          · simp only [condT_tt, condT_ff, condF_tt, condF_ff, notE_t, notE_f, decide_eq_true_eq, decide_eq_false_iff_not] at hc
            (try simp only [hcn] at hc)
            (try simp only [condT_tt, condT_ff, condF_tt, condF_ff, notE_t, notE_f, decide_eq_true_eq, decide_eq_false_iff_not] at hc)
            have hjl : j < n.c.length := by omega
            have hkg := isGet n.c hjl
            have hqig := isGet dq (show i < dq.length by omega)
            obtain ⟨r, rfl⟩ : ∃ r', r = r' + 1 := ⟨r - 1, by omega⟩
            rw [kdA] at hK
            generalize hq : n.c.getD j 0 = q at *
            repeat' (first | refine tr_seq ?_ | refine tr_block ?_ | refine tr_skip ?_)
            first | refine reg (T := tab) tOk hnt rfl ?_ ?_ | refine regD (T := tab) tOk mixedR hnt rfl (by decide +kernel) ?_ ?_
            · rw [Int.toNat_natCast, hkg]
              (dsimp only [AllP]; (repeat' first | exact trivial | assumption | exact Nat.le_of_ble_eq_true rfl | apply And.intro | exact eCells_len1 _ _ ‹_› | exact eCells_isByte _ _ ‹_› | (intro hh_; have hg_ := hh_; (try simp only [condT_ff, condF_tt, notE_t, notE_f, Bool.and_eq_true, ne_eq, decide_eq_true_eq, decide_eq_false_iff_not] at hg_)) | intro _ | exact rfl | omega))
              all_goals trace_state
            rw [Int.toNat_natCast, hkg]
            have hqi : ([eI q].getD 0 E.dflt).int = q := rfl
            have c1 : (¬ q ≤ (i : Int) ∧ ¬ (t.length : Int) ≤ q) → (eIs dq).getD q.toNat [] = [eI (dq.getD q.toNat 0)] := fun h => isGet dq (by omega)
            have hb0 := hqo i
            repeat' (first | refine tr_seq ?_ | refine tr_block ?_ | refine tr_skip ?_)
            first | refine reg (T := tab) tOk hnt rfl ?_ ?_ | refine regD (T := tab) tOk mixedR hnt rfl (by decide +kernel) ?_ ?_
            · rw [hqi]
              (dsimp only [AllP]; (repeat' first | exact trivial | assumption | exact Nat.le_of_ble_eq_true rfl | apply And.intro | exact eCells_len1 _ _ ‹_› | exact eCells_isByte _ _ ‹_› | (intro hh_; have hg_ := hh_; (try simp only [condT_ff, condF_tt, notE_t, notE_f, Bool.and_eq_true, ne_eq, decide_eq_true_eq, decide_eq_false_iff_not] at hg_)) | intro _ | exact rfl | omega))
              all_goals (first | (rw [hl] at hg_; rw [c1 hg_]; first | exact Nat.zero_lt_one | exact rfl) | trace_state)
            rw [hqi]
            repeat' (first | refine tr_seq ?_ | refine tr_block ?_ | refine tr_skip ?_)
            refine tr_cond rfl (fun hc => ?_) (fun hc => ?_)
            · simp only [condT_tt, condT_ff, condF_tt, condF_ff, notE_t, notE_f, decide_eq_true_eq, decide_eq_false_iff_not] at hc
              (try simp only [hl, isVal] at hc)
              (try simp only [condT_tt, condT_ff, condF_tt, condF_ff, notE_t, notE_f, decide_eq_true_eq, decide_eq_false_iff_not] at hc)
              rw [if_pos (by omega)] at hK
              subst hK
              have hJ : (3 : Int) = R := hJ
              rw [← hJ]
              repeat' (first | refine tr_seq ?_ | refine reg (T := tab) tOk hnt rfl ?_ ?_ | refine regD (T := tab) tOk mixedR hnt rfl (by decide +kernel) ?_ ?_ | refine tr_block ?_ | refine tr_skip ?_)
              · (dsimp only [AllP]; (repeat' first | exact trivial | assumption | exact Nat.le_of_ble_eq_true rfl | apply And.intro | decide | intro _ | exact rfl))
              exact tr_ret ⟨.inr rfl, _, _, rfl, trivial, rfl⟩
            simp only [condT_tt, condT_ff, condF_tt, condF_ff, notE_t, notE_f, decide_eq_true_eq, decide_eq_false_iff_not] at hc
            (try simp only [hl, isVal] at hc)
            (try simp only [condT_tt, condT_ff, condF_tt, condF_ff, notE_t, notE_f, decide_eq_true_eq, decide_eq_false_iff_not] at hc)
            rw [if_neg (by omega)] at hK
            have hin : ¬ q ≤ (i : Int) ∧ ¬ (t.length : Int) ≤ q := hc.1
            have f5 := setEl_is dq (show q.toNat < dq.length by omega) (dq.getD i 0 + 1)
            have f6 : IntKind.i64.wrap (dq.getD i 0 + 1) = dq.getD i 0 + 1 := wrap64_id (by omega) (by omega)
            have f7 : IntKind.i64.wrap ((j : Int) + 1) = ((j + 1 : Nat) : Int) := wrap64_id (by omega) (by omega)
            repeat' (first | refine tr_seq ?_ | refine tr_block ?_ | refine tr_skip ?_)
            first | refine reg (T := tab) tOk hnt rfl ?_ ?_ | refine regD (T := tab) tOk mixedR hnt rfl (by decide +kernel) ?_ ?_
            · rw [Int.toNat_natCast, hqig]
              (dsimp only [AllP]; (repeat' first | exact trivial | assumption | exact Nat.le_of_ble_eq_true rfl | apply And.intro | exact eCells_len1 _ _ ‹_› | exact eCells_isByte _ _ ‹_› | (intro hh_; have hg_ := hh_; (try simp only [condT_ff, condF_tt, notE_t, notE_f, Bool.and_eq_true, ne_eq, decide_eq_true_eq, decide_eq_false_iff_not] at hg_)) | intro _ | exact rfl | omega))
              all_goals trace_state
            have f8 : setEl (eIs dq) q.toNat 0 1 [eI (IntKind.i64.wrap (dq.getD i 0 + 1))] = eIs (dq.set q.toNat (dq.getD i 0 + 1)) := by rw [f6]; exact f5
            rw [Int.toNat_natCast, hqig]
            repeat' (first | refine tr_seq ?_ | refine reg (T := tab) tOk hnt rfl ?_ ?_ | refine regD (T := tab) tOk mixedR hnt rfl (by decide +kernel) ?_ ?_ | refine tr_block ?_ | refine tr_skip ?_)
            · (dsimp only [AllP]; (repeat' first | exact trivial | assumption | exact Nat.le_of_ble_eq_true rfl | apply And.intro | decide | intro _ | exact rfl))
            rw [f7]
            have hqj' : ∀ j', j' < j + 1 → (i : Int) < n.c.getD j' 0 ∧ n.c.getD j' 0 < (t.length : Int) := fun j' h => by
              by_cases e : j' = j
              · subst e; rw [hq]; omega
              · exact hqj j' (by omega)
            refine ⟨(r, j + 1, dq.set q.toNat (dq.getD i 0 + 1)), ⟨by dsimp only; omega, by dsimp only; rw [List.length_set]; exact hql, dpOk_set hqo (by omega), hqj', hK⟩, (Nat.lt_succ_self _), le_of (ad := []) (by refine ⟨?_, ?_, ?_, ?_, ?_, ?_, ?_, ?_, ?_, trivial⟩ <;> first | exact trivial | rfl | exact ⟨rfl, rfl⟩ | exact ⟨rfl, rfl, rfl⟩ | exact ⟨rfl, rfl, rfl, rfl⟩ | exact ⟨rfl, rfl, rfl, rfl, rfl⟩ | exact congrArg (fun z : Int => E.v (.int .i64 z)) (wrap64_id (by omega) (by omega)) | exact congrArg (fun z : Int => E.v (.int .u8 z)) (by assumption) | exact congrArg (fun z : ByteArray => E.v (.string z)) (by assumption) | (refine ⟨rfl, ?_⟩; repeat' first | exact trivial | rfl | apply And.intro)) (memOk_box rfl rfl rfl (memOk_row rfl rfl f8 trivial))⟩
          simp only [condT_tt, condT_ff, condF_tt, condF_ff, notE_t, notE_f, decide_eq_true_eq, decide_eq_false_iff_not] at hc
          (try simp only [hcn] at hc)
          (try simp only [condT_tt, condT_ff, condF_tt, condF_ff, notE_t, notE_f, decide_eq_true_eq, decide_eq_false_iff_not] at hc)
          refine tr_exit ?_
          obtain rfl : r = 0 := by omega
          rw [kdA] at hK
          subst hK
          have hJ : (match stA t k (i + 1) dq with | some dp => ordF t dp | none => (3 : Int)) = R := hJ
          have f7 : IntKind.i64.wrap ((i : Int) + 1) = ((i + 1 : Nat) : Int) := wrap64_id (by omega) (by omega)
          have hkd : kdN t i := fun k' hk' => by
            rw [hnn] at hk'
            obtain ⟨p, hp, rfl⟩ := List.mem_iff_getElem.1 hk'
            have := hqj p (by omega)
            rw [List.getD_eq_getElem?_getD, List.getElem?_eq_getElem hp] at this
            exact this
          repeat' (first | refine tr_seq ?_ | refine reg (T := tab) tOk hnt rfl ?_ ?_ | refine regD (T := tab) tOk mixedR hnt rfl (by decide +kernel) ?_ ?_ | refine tr_block ?_ | refine tr_skip ?_)
          · (dsimp only [AllP]; (repeat' first | exact trivial | assumption | exact Nat.le_of_ble_eq_true rfl | apply And.intro | decide | intro _ | exact rfl))
          rw [f7]
          have hgj' : ∀ j', j' < i + 1 → shN (t.getD j' nd0) ∧ kdN t j' := fun j' h => by
            by_cases e : j' = i
            · subst e; rw [hnn]; exact ⟨hsh, hkd⟩
            · exact hgj j' (by omega)
          refine ⟨(k, i + 1, dq), ⟨by dsimp only; omega, hql, hqo, hgj', hJ⟩, (Nat.lt_succ_self _), le_of (ad := []) (by refine ⟨?_, ?_, ?_, ?_, ?_, trivial⟩ <;> first | exact trivial | rfl | exact ⟨rfl, rfl⟩ | exact ⟨rfl, rfl, rfl⟩ | exact ⟨rfl, rfl, rfl, rfl⟩ | exact ⟨rfl, rfl, rfl, rfl, rfl⟩ | exact congrArg (fun z : Int => E.v (.int .i64 z)) (wrap64_id (by omega) (by omega)) | exact congrArg (fun z : Int => E.v (.int .u8 z)) (by assumption) | exact congrArg (fun z : ByteArray => E.v (.string z)) (by assumption) | (refine ⟨rfl, ?_⟩; repeat' first | exact trivial | rfl | apply And.intro)) (memOk_box rfl rfl rfl (memOk_row rfl rfl rfl trivial))⟩
      simp only [condT_tt, condT_ff, condF_tt, condF_ff, notE_t, notE_f, decide_eq_true_eq, decide_eq_false_iff_not] at hc
      (try simp only [hl2] at hc)
      (try simp only [condT_tt, condT_ff, condF_tt, condF_ff, notE_t, notE_f, decide_eq_true_eq, decide_eq_false_iff_not] at hc)
      refine tr_exit ?_
      obtain rfl : k = 0 := by omega
      have hJ : ordF t dp = R := hJ
      have gt : gT t := ⟨hlen, fun j hj => (hgj j (by omega)).1, fun j hj => (hgj j (by omega)).2⟩
      have ho := orderly_fn t gt dp hdl
      rw [hJ] at ho
      repeat' (first | refine tr_seq ?_ | refine tr_block ?_ | refine tr_skip ?_)
      refine tr_region (lex (T := tab) tOk hnt rfl ?_ (callU rfl rfl rfl rfl rfl rfl rfl hnt (ho) (lex (T := tab) tOk hnt rfl ?_ (Lex.nil _)))) ?_
      · (dsimp only [AllP]; (repeat' first | exact trivial | assumption | exact Nat.le_of_ble_eq_true rfl | apply And.intro | exact eCells_len1 _ _ ‹_› | exact eCells_isByte _ _ ‹_› | (intro hh_; have hg_ := hh_; (try simp only [condT_ff, condF_tt, notE_t, notE_f, Bool.and_eq_true, ne_eq, decide_eq_true_eq, decide_eq_false_iff_not] at hg_)) | intro _ | exact rfl | omega))
        all_goals trace_state
      · (dsimp only [AllP]; (repeat' first | exact trivial | assumption | exact Nat.le_of_ble_eq_true rfl | apply And.intro | exact eCells_len1 _ _ ‹_› | exact eCells_isByte _ _ ‹_› | (intro hh_; have hg_ := hh_; (try simp only [condT_ff, condF_tt, notE_t, notE_f, Bool.and_eq_true, ne_eq, decide_eq_true_eq, decide_eq_false_iff_not] at hg_)) | intro _ | exact rfl | omega))
        all_goals trace_state
      exact tr_ret ⟨.inr rfl, _, _, rfl, trivial, rfl⟩
end Go.Proofs.YtphaholcndhonaaDoor.Tr
namespace Go.Proofs.YtphaholcndhonaaDoor.Tr
open Go Go.RowKit Go.Proofs.YtphaholcndhonaaDoor.Ab
set_option linter.unusedSimpArgs false
set_option linter.unusedVariables false

abbrev Byt := List UInt8
abbrev eT (b : Byt) : E := eKy b
def cmpI (x y : Int) : Int := if x < y then -1 else if y < x then 1 else 0
def cmpT (x y : Byt) : Int := if Op.bytesLess x y = true then -1 else if x = y then 0 else 1
set_option maxRecDepth 10000 in
set_option maxHeartbeats 2000000 in
theorem sign_fn (n : Int) : FnD Tryd.prog 134 [.one (.e (eI n))] (.one (.e (eI (cmpI n 0)))) := by
  refine fn_intro (T := tab) tOk Tryd.func134 rfl (by kernel_rfl) (by simp [Tryd.ntmps134]) ?_
  intro X hX
  have hnt : X.nt = 7 := hX
  clear hX
  unfold cmpI
  repeat' (first | refine tr_seq ?_ | refine reg (T := tab) tOk hnt rfl ?_ ?_ | refine regD (T := tab) tOk mixedR hnt rfl (by decide +kernel) ?_ ?_ | refine tr_block ?_ | refine tr_skip ?_)
  · (dsimp only [AllP]; (repeat' first | exact trivial | assumption | exact Nat.le_of_ble_eq_true rfl | apply And.intro | decide | intro _ | exact rfl))
  · (dsimp only [AllP]; (repeat' first | exact trivial | assumption | exact Nat.le_of_ble_eq_true rfl | apply And.intro | decide | intro _ | exact rfl))
  repeat' (first | refine tr_seq ?_ | refine tr_block ?_ | refine tr_skip ?_)
  refine tr_cond rfl (fun hc => ?_) (fun hc => ?_)
  · simp only [condT_tt, condT_ff, condF_tt, condF_ff, notE_t, notE_f, decide_eq_true_eq, decide_eq_false_iff_not] at hc
    rw [if_neg (by omega), if_pos hc]
    repeat' (first | refine tr_seq ?_ | refine reg (T := tab) tOk hnt rfl ?_ ?_ | refine regD (T := tab) tOk mixedR hnt rfl (by decide +kernel) ?_ ?_ | refine tr_block ?_ | refine tr_skip ?_)
    · (dsimp only [AllP]; (repeat' first | exact trivial | assumption | exact Nat.le_of_ble_eq_true rfl | apply And.intro | decide | intro _ | exact rfl))
    exact tr_ret ⟨.inr rfl, _, _, rfl, trivial, rfl⟩
  simp only [condT_tt, condT_ff, condF_tt, condF_ff, notE_t, notE_f, decide_eq_true_eq, decide_eq_false_iff_not] at hc
  repeat' (first | refine tr_seq ?_ | refine reg (T := tab) tOk hnt rfl ?_ ?_ | refine regD (T := tab) tOk mixedR hnt rfl (by decide +kernel) ?_ ?_ | refine tr_block ?_ | refine tr_skip ?_)
  · (dsimp only [AllP]; (repeat' first | exact trivial | assumption | exact Nat.le_of_ble_eq_true rfl | apply And.intro | decide | intro _ | exact rfl))
  repeat' (first | refine tr_seq ?_ | refine tr_block ?_ | refine tr_skip ?_)
  refine tr_cond rfl (fun hc => ?_) (fun hc => ?_)
  · simp only [condT_tt, condT_ff, condF_tt, condF_ff, notE_t, notE_f, decide_eq_true_eq, decide_eq_false_iff_not] at hc
    rw [if_pos hc]
    repeat' (first | refine tr_seq ?_ | refine reg (T := tab) tOk hnt rfl ?_ ?_ | refine regD (T := tab) tOk mixedR hnt rfl (by decide +kernel) ?_ ?_ | refine tr_block ?_ | refine tr_skip ?_)
    · (dsimp only [AllP]; (repeat' first | exact trivial | assumption | exact Nat.le_of_ble_eq_true rfl | apply And.intro | decide | intro _ | exact rfl))
    exact tr_ret ⟨.inr rfl, _, _, rfl, trivial, rfl⟩
  simp only [condT_tt, condT_ff, condF_tt, condF_ff, notE_t, notE_f, decide_eq_true_eq, decide_eq_false_iff_not] at hc
  rw [if_neg hc, if_neg (by omega)]
  repeat' (first | refine tr_seq ?_ | refine reg (T := tab) tOk hnt rfl ?_ ?_ | refine regD (T := tab) tOk mixedR hnt rfl (by decide +kernel) ?_ ?_ | refine tr_block ?_ | refine tr_skip ?_)
  · (dsimp only [AllP]; (repeat' first | exact trivial | assumption | exact Nat.le_of_ble_eq_true rfl | apply And.intro | decide | intro _ | exact rfl))
  exact tr_ret ⟨.inr rfl, _, _, rfl, trivial, rfl⟩
theorem cmpT_cons (a b : UInt8) (x y : Byt) : cmpT (a :: x) (b :: y) = if a = b then cmpT x y else if a.toNat < b.toNat then -1 else 1 := by
  unfold cmpT
  have h1 : Op.bytesLess (a :: x) (b :: y) = (a < b || (a == b && Op.bytesLess x y)) := rfl
  rw [h1]
  by_cases h : a = b
  · subst h
    have h2 : ¬ (a < a) := UInt8.lt_irrefl a
    simp [h2]
  · have h3 : (a < b) ↔ a.toNat < b.toNat := UInt8.lt_iff_toNat_lt
    simp [h, h3]
theorem cmpT_nil (y : Byt) : cmpT [] y = cmpI (0 - (y.length : Int)) 0 := by
  cases y with
  | nil => rfl
  | cons b y =>
    unfold cmpI
    rw [if_pos (by rw [List.length_cons]; omega)]
    rfl
theorem cmpT_nil' (x : Byt) : cmpT x [] = cmpI ((x.length : Int) - 0) 0 := by
  cases x with
  | nil => rfl
  | cons a x =>
    unfold cmpI
    rw [if_neg (by rw [List.length_cons]; omega), if_pos (by rw [List.length_cons]; omega)]
    rfl
set_option maxRecDepth 10000 in
set_option maxHeartbeats 2000000 in
theorem bytesOrder_fn (x y : Byt) (hx : x.length ≤ maxLen) (hy : y.length ≤ maxLen) : FnD Tryd.prog 74 [.one (.e (eT x)), .one (.e (eT y))] (.one (.e (eI (cmpT x y)))) := by
  refine fn_intro (T := tab) tOk Tryd.func74 rfl (by kernel_rfl) (by simp [Tryd.ntmps74]) ?_
  intro X hX
  have hnt : X.nt = 38 := hX
  clear hX
  have lx : (strB x).size = x.length := strB_size x
  have ly : (strB y).size = y.length := strB_size y
  unfold maxLen at hx hy
  repeat' (first | refine tr_seq ?_ | refine reg (T := tab) tOk hnt rfl ?_ ?_ | refine regD (T := tab) tOk mixedR hnt rfl (by decide +kernel) ?_ ?_ | refine tr_block ?_ | refine tr_skip ?_)
  · (dsimp only [AllP]; (repeat' first | exact trivial | assumption | exact Nat.le_of_ble_eq_true rfl | apply And.intro | decide | intro _ | exact rfl))
  · (dsimp only [AllP]; (repeat' first | exact trivial | assumption | exact Nat.le_of_ble_eq_true rfl | apply And.intro | decide | intro _ | exact rfl))
  repeat' (first | refine tr_seq ?_ | refine tr_block ?_ | refine tr_skip ?_)
  refine tr_loop (σ := Nat) (fun i => St.of [(0, .one (.e (eT x))), (1, .one (.e (eT y))), (5, .one (.e (eI (i : Int))))] []) (fun i => cmpT (x.drop i) (y.drop i) = cmpT x y ∧ i ≤ x.length ∧ i ≤ y.length) (fun i => x.length - i) (0) (le_of (ad := []) (by refine ⟨?_, ?_, ?_, trivial⟩ <;> first | exact trivial | rfl | exact ⟨rfl, rfl⟩ | exact ⟨rfl, rfl, rfl⟩ | exact ⟨rfl, rfl, rfl, rfl⟩ | exact ⟨rfl, rfl, rfl, rfl, rfl⟩ | exact congrArg (fun z : Int => E.v (.int .i64 z)) (wrap64_id (by omega) (by omega)) | exact congrArg (fun z : Int => E.v (.int .u8 z)) (by assumption) | exact congrArg (fun z : ByteArray => E.v (.string z)) (by assumption) | (refine ⟨rfl, ?_⟩; repeat' first | exact trivial | rfl | apply And.intro)) trivial) ⟨rfl, Nat.zero_le _, Nat.zero_le _⟩ ?_
  rintro i ⟨hi, ix, iy⟩
  repeat' (first | refine tr_seq ?_ | refine reg (T := tab) tOk hnt rfl ?_ ?_ | refine regD (T := tab) tOk mixedR hnt rfl (by decide +kernel) ?_ ?_ | refine tr_block ?_ | refine tr_skip ?_)
  · (dsimp only [AllP]; (repeat' first | exact trivial | assumption | exact Nat.le_of_ble_eq_true rfl | apply And.intro | decide | intro _ | exact rfl))
  repeat' (first | refine tr_seq ?_ | refine tr_block ?_ | refine tr_skip ?_)
  refine tr_cond rfl (fun hc => ?_) (fun hc => ?_)
  · simp only [condT_tt, condT_ff, condF_tt, condF_ff, notE_t, notE_f, decide_eq_true_eq, decide_eq_false_iff_not] at hc
    (try simp only [lx, ly] at hc)
    (try simp only [condT_tt, condT_ff, condF_tt, condF_ff, notE_t, notE_f, decide_eq_true_eq, decide_eq_false_iff_not] at hc)
    have hxi : i < x.length := by omega
    have hyi : i < y.length := by omega
    have ex : x.drop i = x.getD i 0 :: x.drop (i + 1) := by
      rw [List.drop_eq_getElem_cons hxi, List.getD_eq_getElem?_getD, List.getElem?_eq_getElem hxi]
      rfl
    have ey : y.drop i = y.getD i 0 :: y.drop (i + 1) := by
      rw [List.drop_eq_getElem_cons hyi, List.getD_eq_getElem?_getD, List.getElem?_eq_getElem hyi]
      rfl
    rw [ex, ey, cmpT_cons] at hi
    have gx : (strB x).data.toList.getD (Int.toNat (i : Int)) 0 = x.getD i 0 := rfl
    have gy : (strB y).data.toList.getD (Int.toNat (i : Int)) 0 = y.getD i 0 := rfl
    repeat' (first | refine tr_seq ?_ | refine tr_block ?_ | refine tr_skip ?_)
    first | refine reg (T := tab) tOk hnt rfl ?_ ?_ | refine regD (T := tab) tOk mixedR hnt rfl (by decide +kernel) ?_ ?_
    · rw [lx, ly]
      (dsimp only [AllP]; (repeat' first | exact trivial | assumption | exact Nat.le_of_ble_eq_true rfl | apply And.intro | exact eCells_len1 _ _ ‹_› | exact eCells_isByte _ _ ‹_› | (intro hh_; have hg_ := hh_; (try simp only [condT_ff, condF_tt, notE_t, notE_f, Bool.and_eq_true, ne_eq, decide_eq_true_eq, decide_eq_false_iff_not] at hg_)) | intro _ | exact rfl | omega))
    repeat' (first | refine tr_seq ?_ | refine tr_block ?_ | refine tr_skip ?_)
    refine tr_cond rfl (fun hc => ?_) (fun hc => ?_)
    · simp only [condT_tt, condT_ff, condF_tt, condF_ff, notE_t, notE_f, decide_eq_true_eq, decide_eq_false_iff_not] at hc
      (try simp only [gx, gy] at hc)
      (try simp only [condT_tt, condT_ff, condF_tt, condF_ff, notE_t, notE_f, decide_eq_true_eq, decide_eq_false_iff_not] at hc)
      rw [if_neg (fun h => hc (by rw [h]))] at hi
      repeat' (first | refine tr_seq ?_ | refine tr_block ?_ | refine tr_skip ?_)
      first | refine reg (T := tab) tOk hnt rfl ?_ ?_ | refine regD (T := tab) tOk mixedR hnt rfl (by decide +kernel) ?_ ?_
      · rw [lx, ly]
        (dsimp only [AllP]; (repeat' first | exact trivial | assumption | exact Nat.le_of_ble_eq_true rfl | apply And.intro | exact eCells_len1 _ _ ‹_› | exact eCells_isByte _ _ ‹_› | (intro hh_; have hg_ := hh_; (try simp only [condT_ff, condF_tt, notE_t, notE_f, Bool.and_eq_true, ne_eq, decide_eq_true_eq, decide_eq_false_iff_not] at hg_)) | intro _ | exact rfl | omega))
      repeat' (first | refine tr_seq ?_ | refine tr_block ?_ | refine tr_skip ?_)
      refine tr_cond rfl (fun hc => ?_) (fun hc => ?_)
      · simp only [condT_tt, condT_ff, condF_tt, condF_ff, notE_t, notE_f, decide_eq_true_eq, decide_eq_false_iff_not] at hc
        (try simp only [gx, gy] at hc)
        (try simp only [condT_tt, condT_ff, condF_tt, condF_ff, notE_t, notE_f, decide_eq_true_eq, decide_eq_false_iff_not] at hc)
        rw [if_pos (by omega)] at hi
        rw [← hi]
        repeat' (first | refine tr_seq ?_ | refine reg (T := tab) tOk hnt rfl ?_ ?_ | refine regD (T := tab) tOk mixedR hnt rfl (by decide +kernel) ?_ ?_ | refine tr_block ?_ | refine tr_skip ?_)
        · (dsimp only [AllP]; (repeat' first | exact trivial | assumption | exact Nat.le_of_ble_eq_true rfl | apply And.intro | decide | intro _ | exact rfl))
        exact tr_ret ⟨.inr rfl, _, _, rfl, trivial, rfl⟩
      simp only [condT_tt, condT_ff, condF_tt, condF_ff, notE_t, notE_f, decide_eq_true_eq, decide_eq_false_iff_not] at hc
      (try simp only [gx, gy] at hc)
      (try simp only [condT_tt, condT_ff, condF_tt, condF_ff, notE_t, notE_f, decide_eq_true_eq, decide_eq_false_iff_not] at hc)
      rw [if_neg (by omega)] at hi
      rw [← hi]
      repeat' (first | refine tr_seq ?_ | refine reg (T := tab) tOk hnt rfl ?_ ?_ | refine regD (T := tab) tOk mixedR hnt rfl (by decide +kernel) ?_ ?_ | refine tr_block ?_ | refine tr_skip ?_)
      · (dsimp only [AllP]; (repeat' first | exact trivial | assumption | exact Nat.le_of_ble_eq_true rfl | apply And.intro | decide | intro _ | exact rfl))
      exact tr_ret ⟨.inr rfl, _, _, rfl, trivial, rfl⟩
    simp only [condT_tt, condT_ff, condF_tt, condF_ff, notE_t, notE_f, decide_eq_true_eq, decide_eq_false_iff_not] at hc
    (try simp only [gx, gy] at hc)
    (try simp only [condT_tt, condT_ff, condF_tt, condF_ff, notE_t, notE_f, decide_eq_true_eq, decide_eq_false_iff_not] at hc)
    rw [if_pos (UInt8.toNat_inj.1 (by omega))] at hi
    repeat' (first | refine tr_seq ?_ | refine reg (T := tab) tOk hnt rfl ?_ ?_ | refine regD (T := tab) tOk mixedR hnt rfl (by decide +kernel) ?_ ?_ | refine tr_block ?_ | refine tr_skip ?_)
    · (dsimp only [AllP]; (repeat' first | exact trivial | assumption | exact Nat.le_of_ble_eq_true rfl | apply And.intro | decide | intro _ | exact rfl))
    refine ⟨i + 1, ⟨hi, by omega, by omega⟩, by omega, le_of (ad := []) (by refine ⟨?_, ?_, ?_, trivial⟩ <;> first | exact trivial | rfl | exact ⟨rfl, rfl⟩ | exact ⟨rfl, rfl, rfl⟩ | exact ⟨rfl, rfl, rfl, rfl⟩ | exact ⟨rfl, rfl, rfl, rfl, rfl⟩ | exact congrArg (fun z : Int => E.v (.int .i64 z)) (wrap64_id (by omega) (by omega)) | exact congrArg (fun z : Int => E.v (.int .u8 z)) (by assumption) | exact congrArg (fun z : ByteArray => E.v (.string z)) (by assumption) | (refine ⟨rfl, ?_⟩; repeat' first | exact trivial | rfl | apply And.intro)) trivial⟩
  simp only [condT_tt, condT_ff, condF_tt, condF_ff, notE_t, notE_f, decide_eq_true_eq, decide_eq_false_iff_not] at hc
  (try simp only [lx, ly] at hc)
  (try simp only [condT_tt, condT_ff, condF_tt, condF_ff, notE_t, notE_f, decide_eq_true_eq, decide_eq_false_iff_not] at hc)
  refine tr_exit ?_
  have hs : cmpT x y = cmpI ((x.length : Int) - (y.length : Int)) 0 := by
    rw [← hi]
    rcases Nat.lt_or_ge i x.length with h | h
    · have : y.drop i = [] := List.drop_eq_nil_of_le (by omega)
      rw [this, cmpT_nil', List.length_drop]
      congr 1
      omega
    · have : x.drop i = [] := List.drop_eq_nil_of_le h
      rw [this, cmpT_nil, List.length_drop]
      congr 1
      omega
  rw [hs]
  have hw : IntKind.i64.wrap (((strB x).size : Int) - ((strB y).size : Int)) = (x.length : Int) - (y.length : Int) := by rw [lx, ly]; exact wrap64_id (by omega) (by omega)
  have hf := sign_fn ((x.length : Int) - (y.length : Int))
  rw [← hw] at hf
  repeat' (first | refine tr_seq ?_ | refine tr_block ?_ | refine tr_skip ?_)
  refine tr_region (lex (T := tab) tOk hnt rfl ?_ (call rfl rfl rfl rfl rfl rfl rfl hnt (hf) (lex (T := tab) tOk hnt rfl ?_ (Lex.nil _)))) ?_
  · (dsimp only [AllP]; (repeat' first | exact trivial | assumption | exact Nat.le_of_ble_eq_true rfl | apply And.intro | decide | intro _ | exact rfl))
  · (dsimp only [AllP]; (repeat' first | exact trivial | assumption | exact Nat.le_of_ble_eq_true rfl | apply And.intro | decide | intro _ | exact rfl))
  rw [hw]
  exact tr_ret ⟨.inr rfl, _, _, rfl, trivial, rfl⟩
theorem strLt_cmp (x y : Byt) : strLt (strB x) (strB y) = decide (cmpT x y < 0) := by
  have e : strLt (strB x) (strB y) = Op.bytesLess x y := by unfold strLt; rw [ByteArray.toList_eq, ByteArray.toList_eq, strB_list, strB_list]
  rw [e]
  unfold cmpT
  cases Op.bytesLess x y with
  | true => rfl
  | false =>
    by_cases h : x = y
    · rw [if_neg (by decide), if_pos h]; rfl
    · rw [if_neg (by decide), if_neg h]; rfl
end Go.Proofs.YtphaholcndhonaaDoor.Tr
namespace Go.Proofs.YtphaholcndhonaaDoor.Tr
open Go Go.RowKit Go.Proofs.YtphaholcndhonaaDoor.Ab
set_option linter.unusedSimpArgs false
set_option linter.unusedVariables false

abbrev Prs := List (Byt × Int)
abbrev IR := (Prs × Int × Bool) × List Int
def prI (n : Nd) (i : Nat) : Prs := if i < n.k.length then [(n.k.getD i [], n.v.getD i 0)] else []
def noR : Prs × Int × Bool := ([], 0, false)
def inL (t : List Nd) (rec : Nat → List Int → IR) (at_ : Nat) (n : Nd) : Nat → Nat → List Int → Prs → Int → IR
  | 0, _, sn, out, d => ((out, d + 1, true), sn)
  | r + 1, i, sn, out, d =>
    if n.c.length = 0 then inL t rec at_ n r (i + 1) sn (out ++ prI n i) d
    else if n.c.getD i 0 ≤ (at_ : Int) ∨ (t.length : Int) ≤ n.c.getD i 0 then (noR, sn)
    else if (rec (n.c.getD i 0).toNat sn).1.2.2 = false ∨ (0 < i ∧ (rec (n.c.getD i 0).toNat sn).1.2.1 ≠ d) then (noR, (rec (n.c.getD i 0).toNat sn).2)
    else inL t rec at_ n r (i + 1) (rec (n.c.getD i 0).toNat sn).2 (out ++ (rec (n.c.getD i 0).toNat sn).1.1 ++ prI n i) (rec (n.c.getD i 0).toNat sn).1.2.1
def inF (t : List Nd) : Nat → Nat → List Int → IR
  | 0, _, sn => (noR, sn)
  | f + 1, at_, sn => if badN (t.getD at_ nd0) ∨ 1 < (sn.set at_ (sn.getD at_ 0 + 1)).getD at_ 0 then (noR, sn.set at_ (sn.getD at_ 0 + 1))
    else inL t (inF t f) at_ (t.getD at_ nd0) ((t.getD at_ nd0).k.length + 1) 0 (sn.set at_ (sn.getD at_ 0 + 1)) [] 0
/-- counts that are none or one -/
def sm (sn : List Int) : Int := sn.sum
def s01 (sn : List Int) : Prop := ∀ q, 0 ≤ sn.getD q 0 ∧ sn.getD q 0 ≤ 1
theorem sum_set : ∀ (l : List Int) (q : Nat) (v : Int), q < l.length → (l.set q v).sum = l.sum - l.getD q 0 + v
  | [], q, v, h => absurd h (Nat.not_lt_zero _)
  | x :: l, 0, v, _ => by simp [List.sum_cons]; omega
  | x :: l, q + 1, v, h => by
    have ih := sum_set l q v (by simpa using h)
    rw [List.set_cons_succ, List.sum_cons, List.sum_cons, ih, List.getD_cons_succ]
    omega
theorem s01_sum : ∀ (l : List Int), s01 l → 0 ≤ l.sum ∧ l.sum ≤ l.length
  | [], _ => ⟨Int.le_refl _, Int.le_refl _⟩
  | x :: l, h => by
    have ih := s01_sum l fun q => by have := h (q + 1); rwa [List.getD_cons_succ] at this
    have h0 := h 0
    rw [List.getD_cons_zero] at h0
    rw [List.sum_cons, List.length_cons]
    omega
structure okI (t : List Nd) (sn : List Int) (x : IR) (f : Nat) : Prop where
  len : x.2.length = sn.length
  ok : x.1.2.2 = true → sn.length = t.length → s01 sn → s01 x.2 ∧ (x.1.1.length : Int) ≤ 3 * (x.2.sum - sn.sum) ∧ 0 ≤ x.1.2.1 ∧ x.1.2.1 ≤ f
theorem prI_len (n : Nd) (i : Nat) : (prI n i).length ≤ 1 := by unfold prI; split <;> simp
theorem inL_ok (t : List Nd) (rec : Nat → List Int → IR) (f : Nat) (hrec : ∀ q sn, okI t sn (rec q sn) f) (at_ : Nat) (n : Nd) :
    ∀ (r i : Nat) (sn : List Int) (out : Prs) (d : Int), (inL t rec at_ n r i sn out d).2.length = sn.length ∧
      ((inL t rec at_ n r i sn out d).1.2.2 = true → sn.length = t.length → s01 sn → 0 ≤ d ∧ d ≤ f → r + i = n.k.length + 1 → s01 (inL t rec at_ n r i sn out d).2 ∧ ((inL t rec at_ n r i sn out d).1.1.length : Int) ≤ out.length + (n.k.length - i : Nat) + 3 * ((inL t rec at_ n r i sn out d).2.sum - sn.sum) ∧ 0 ≤ (inL t rec at_ n r i sn out d).1.2.1 ∧ (inL t rec at_ n r i sn out d).1.2.1 ≤ (f : Int) + 1)
  | 0, i, sn, out, d => ⟨rfl, fun _ _ h1 h2 _ => by
    refine ⟨h1, ?_, ?_, ?_⟩
    · show (out.length : Int) ≤ out.length + (n.k.length - i : Nat) + 3 * (sn.sum - sn.sum); omega
    · show 0 ≤ d + 1; omega
    · show d + 1 ≤ f + 1; omega⟩
  | r + 1, i, sn, out, d => by
    have hp := prI_len n i
    have hpi : ¬ i < n.k.length → (prI n i).length = 0 := fun h => by unfold prI; rw [if_neg h]; rfl
    unfold inL
    split
    · obtain ⟨h1, h2⟩ := inL_ok t rec f hrec at_ n r (i + 1) sn (out ++ prI n i) d
      refine ⟨h1, fun ho hln hs hd hr => ?_⟩
      obtain ⟨k1, k2, k3⟩ := h2 ho hln hs hd (by omega)
      refine ⟨k1, ?_, k3⟩
      rw [List.length_append] at k2
      by_cases hi : i < n.k.length
      · omega
      · have := hpi hi; omega
    split
    · exact ⟨rfl, fun h => nomatch h⟩
    obtain ⟨q1, q2⟩ := hrec (n.c.getD i 0).toNat sn
    generalize rec (n.c.getD i 0).toNat sn = x at *
    split
    · exact ⟨q1, fun h => nomatch h⟩
    rename_i hx
    obtain ⟨h1, h2⟩ := inL_ok t rec f hrec at_ n r (i + 1) x.2 (out ++ x.1.1 ++ prI n i) x.1.2.1
    refine ⟨h1.trans q1, fun ho hln hs hd hr => ?_⟩
    have hxt : x.1.2.2 = true := by cases hv : x.1.2.2 with | true => rfl | false => exact absurd (Or.inl hv) hx
    obtain ⟨p1, p2, p3, p4⟩ := q2 hxt hln hs
    obtain ⟨k1, k2, k3⟩ := h2 ho (q1.trans hln) p1 ⟨p3, p4⟩ (by omega)
    refine ⟨k1, ?_, k3⟩
    rw [List.length_append, List.length_append] at k2
    by_cases hi : i < n.k.length
    · omega
    · have := hpi hi; omega
theorem s01_set {sn : List Int} (h : s01 sn) {q : Nat} (hq : q < sn.length) (h1 : ¬ 1 < (sn.set q (sn.getD q 0 + 1)).getD q 0) : s01 (sn.set q (sn.getD q 0 + 1)) ∧ (sn.set q (sn.getD q 0 + 1)).sum = sn.sum + 1 := by
  rw [getD_set, if_pos ⟨rfl, hq⟩] at h1
  refine ⟨fun r => ?_, by rw [sum_set _ _ _ hq]; omega⟩
  rw [getD_set]
  have := h q
  split
  · omega
  · exact h r
theorem nd_in {t : List Nd} {i : Nat} (h : ¬ badN (t.getD i nd0)) : i < t.length := by
  by_cases hi : i < t.length
  · exact hi
  · exfalso
    apply h
    rw [List.getD_eq_getElem?_getD, List.getElem?_eq_none (by omega)]
    exact .inl (.inl (.inl (by decide)))
theorem inF_ok (t : List Nd) : ∀ (f at_ : Nat) (sn : List Int), okI t sn (inF t f at_ sn) f
  | 0, at_, sn => ⟨rfl, fun h => nomatch h⟩
  | f + 1, at_, sn => by
    unfold inF
    split
    · exact ⟨List.length_set, fun h => nomatch h⟩
    rename_i hb
    have hb1 : ¬ badN (t.getD at_ nd0) := fun h => hb (.inl h)
    have hlt := nd_in hb1
    obtain ⟨e1, e2, e3, e4⟩ := not_bad hb1
    obtain ⟨h1, h2⟩ := inL_ok t (inF t f) f (inF_ok t f) at_ (t.getD at_ nd0) ((t.getD at_ nd0).k.length + 1) 0 (sn.set at_ (sn.getD at_ 0 + 1)) [] 0
    refine ⟨h1.trans List.length_set, fun ho hln hs => ?_⟩
    obtain ⟨p1, p2⟩ := s01_set hs (q := at_) (by omega) (fun h => hb (.inr h))
    obtain ⟨k1, k2, k3, k4⟩ := h2 ho (by rw [List.length_set]; exact hln) p1 ⟨Int.le_refl _, by omega⟩ rfl
    refine ⟨k1, ?_, k3, by omega⟩
    rw [p2] at k2
    have : (([] : Prs).length : Int) = 0 := rfl
    omega
def msI (sn : List Int) : List (Nat × Blk) := [(900000, ⟨0, .box (.es (sn.map eI)), 0⟩)]
def ePr (p : Byt × Int) : List E := [eKy p.1, eI p.2]
def ePs (l : Prs) : E := .sl (l.map ePr)
def rIn (x : Prs × Int × Bool) : D := .tup [(false, .es [ePs x.1]), (false, .es [eI x.2.1]), (false, .es [eBo x.2.2])]
theorem okIn_I {sn : List Int} (h : 0 < sn.length) : okIn (msI sn) = true := by
  unfold msI okIn okIn1
  have : Nat.blt 0 (Cs.es (sn.map eI)).len = true := Nat.blt_eq.mpr (by show 0 < (sn.map eI).length; rw [List.length_map]; exact h)
  simp [this, okIn]
theorem shOk_I {sn sn' : List Int} (h : sn'.length = sn.length) (y : Nat) : ShOk (msI sn) (msI sn') [(900000, y)] := by
  refine ⟨?_, trivial⟩
  show some (0, ((sn'.map eI).map D0.e).length) = some (0, ((sn.map eI).map D0.e).length)
  simp [h]
end Go.Proofs.YtphaholcndhonaaDoor.Tr
namespace Go.Proofs.YtphaholcndhonaaDoor.Tr
open Go Go.RowKit Go.Proofs.YtphaholcndhonaaDoor.Ab
set_option linter.unusedSimpArgs false
set_option linter.unusedVariables false

theorem bx_len (s : List Int) : (Cs.es (s.map eI)).len = s.length := List.length_map ..
theorem bx_get (s : List Int) {q : Nat} (h : q < s.length) : (s.map eI).getD q E.dflt = eI (s.getD q 0) := by
  rw [List.getD_eq_getElem?_getD, List.getElem?_map, List.getElem?_eq_getElem h, List.getD_eq_getElem?_getD, List.getElem?_eq_getElem h]
  rfl
theorem bx_at (s : List Int) {q : Nat} (h : q < s.length) : (Cs.es (s.map eI)).at q = .e (eI (s.getD q 0)) := congrArg D0.e (bx_get s h)
theorem bx_set (s : List Int) {q : Nat} (h : q < s.length) (v : Int) : List.take q (s.map eI) ++ [eI v] ++ List.drop (q + 1) (s.map eI) = (s.set q v).map eI := by
  rw [List.set_eq_take_append_cons_drop, if_pos h, List.map_append, List.map_cons, List.map_take, List.map_drop]
  simp
set_option maxRecDepth 10000 in
set_option maxHeartbeats 2000000 in
theorem inner_step (t : List Nd) (ht : t.length ≤ 100) (hm : ∀ i, i < t.length → (t.getD i nd0).k.length ≤ 100) (f : Nat) (hf : f ≤ 100)
    (ih : ∀ at_ sn, at_ < t.length → t.length ≤ f + at_ → sn.length = t.length → s01 sn → FnH Tryd.prog 131 [] (msI sn) [.agg (.es (eTr t)), .one (.e (eI (at_ : Int))), .one (.bsl 900000 0 0 1 t.length)] (rIn (inF t f at_ sn).1) (msI (inF t f at_ sn).2))
    (a : Nat) (s0 : List Int) (ha : a < t.length) (hfa : t.length ≤ f + 1 + a) (hsl : s0.length = t.length) (hs0 : s01 s0) :
    FnH Tryd.prog 131 [] (msI s0) [.agg (.es (eTr t)), .one (.e (eI (a : Int))), .one (.bsl 900000 0 0 1 t.length)] (rIn (inF t (f + 1) a s0).1) (msI (inF t (f + 1) a s0).2) := by
  refine fn_introH (T := tab) tOk Tryd.func131 rfl (by kernel_rfl) (by simp [Tryd.ntmps131]) (okIn_I (by omega)) rfl ?_
  intro X hX
  have hnt : X.nt = 133 := hX
  clear hX
  have hl : ((eTr t).getD (0 + 0) E.dflt).xs.length = t.length := List.length_map ..
  have hg := trGet t ha
  have hka := hm a ha
  have hI : inF t (f + 1) a s0 = if badN (t.getD a nd0) ∨ 1 < (s0.set a (s0.getD a 0 + 1)).getD a 0 then (noR, s0.set a (s0.getD a 0 + 1)) else inL t (inF t f) a (t.getD a nd0) ((t.getD a nd0).k.length + 1) 0 (s0.set a (s0.getD a 0 + 1)) [] 0 := rfl
  generalize inF t (f + 1) a s0 = R at *
  generalize hnn : t.getD a nd0 = n at *
  repeat' (first | refine tr_seq ?_ | refine tr_block ?_ | refine tr_skip ?_)
  first | refine reg (T := tab) tOk hnt rfl ?_ ?_ | refine regD (T := tab) tOk mixedR hnt rfl (by decide +kernel) ?_ ?_
  · (dsimp only [AllP]; (repeat' first | exact trivial | assumption | exact Nat.le_of_ble_eq_true rfl | apply And.intro | exact eCells_len1 _ _ ‹_› | exact eCells_isByte _ _ ‹_› | (intro hh_; have hg_ := hh_; (try simp only [condT_ff, condF_tt, notE_t, notE_f, Bool.and_eq_true, ne_eq, decide_eq_true_eq, decide_eq_false_iff_not] at hg_)) | intro _ | exact rfl | omega))
    all_goals trace_state
  repeat' (first | refine tr_seq ?_ | refine tr_block ?_ | refine tr_skip ?_)
  first | refine reg (T := tab) tOk hnt rfl ?_ ?_ | refine regD (T := tab) tOk mixedR hnt rfl (by decide +kernel) ?_ ?_
  · rw [Int.toNat_natCast, hg]
    (dsimp only [AllP]; (repeat' first | exact trivial | assumption | exact Nat.le_of_ble_eq_true rfl | apply And.intro | exact eCells_len1 _ _ ‹_› | exact eCells_isByte _ _ ‹_› | (intro hh_; have hg_ := hh_; (try simp only [condT_ff, condF_tt, notE_t, notE_f, Bool.and_eq_true, ne_eq, decide_eq_true_eq, decide_eq_false_iff_not] at hg_)) | intro _ | exact rfl | omega))
    all_goals trace_state
  rw [Int.toNat_natCast, hg]
  have hix : 0 + Int.toNat (a : Int) * 1 = a := by rw [Int.toNat_natCast]; omega
  have hbl := bx_len s0
  have hba := bx_at s0 (q := a) (by omega)
  have hbg := bx_get s0 (q := a) (by omega)
  have hv1 := hs0 a
  have hw : IntKind.i64.wrap (s0.getD a 0 + 1) = s0.getD a 0 + 1 := wrap64_id (by omega) (by omega)
  have hst := bx_set s0 (q := a) (by omega) (s0.getD a 0 + 1)
  repeat' (first | refine tr_seq ?_ | refine tr_block ?_ | refine tr_skip ?_)
  first | refine reg (T := tab) tOk hnt rfl ?_ ?_ | refine regD (T := tab) tOk mixedR hnt rfl (by decide +kernel) ?_ ?_
  · simp only [hix]
    (dsimp only [AllP]; (repeat' first | exact trivial | assumption | exact Nat.le_of_ble_eq_true rfl | apply And.intro | exact eCells_len1 _ _ ‹_› | exact eCells_isByte _ _ ‹_› | (intro hh_; have hg_ := hh_; (try simp only [condT_ff, condF_tt, notE_t, notE_f, Bool.and_eq_true, ne_eq, decide_eq_true_eq, decide_eq_false_iff_not] at hg_)) | intro _ | exact rfl | omega))
    all_goals first | (rw [hbl]; omega) | (rw [hba]; exact rfl) | trace_state
  simp only [hix, hbg]
  have hl1 : (s0.set a (s0.getD a 0 + 1)).length = t.length := by rw [List.length_set]; exact hsl
  have hg1 : (s0.set a (s0.getD a 0 + 1)).getD a 0 = s0.getD a 0 + 1 := by rw [getD_set, if_pos ⟨rfl, by omega⟩]
  have hs1 := fun h => (s01_set hs0 (q := a) (by omega) h).1
  have hm1 := fun h => (s01_set hs0 (q := a) (by omega) h).2
  refine tr_le (s' := St.of [(1, .one (.e (eI (a : Int)))), (2, .one (.bsl 900000 0 0 1 t.length)), (3, .one (.ptr 3 0 0)), (9, .one (.ptr 9 0 0)), (900000, .one (.ptr 900000 0 0))] [(900000, ⟨0, .box (.es ((s0.set a (s0.getD a 0 + 1)).map eI)), 0⟩), (3, ⟨0, .box (.es (eTr t)), 0⟩), (9, ⟨0, .box (.es (eNd n)), 0⟩)]) (le_of (ad := []) (by refine ⟨?_, ?_, ?_, ?_, ?_, trivial⟩ <;> first | exact trivial | rfl | exact ⟨rfl, rfl⟩ | exact ⟨rfl, rfl, rfl⟩ | exact ⟨rfl, rfl, rfl, rfl⟩ | exact ⟨rfl, rfl, rfl, rfl, rfl⟩ | exact congrArg (fun z : Int => E.v (.int .i64 z)) (wrap64_id (by omega) (by omega)) | exact congrArg (fun z : Int => E.v (.int .u8 z)) (by assumption) | exact congrArg (fun z : ByteArray => E.v (.string z)) (by assumption) | (refine ⟨rfl, ?_⟩; repeat' first | exact trivial | rfl | apply And.intro)) (memOk_box rfl rfl (by show List.take a _ ++ [eI (IntKind.i64.wrap (s0.getD a 0 + 1))] ++ List.drop (a + 1) _ = _; rw [hw]; exact hst) (memOk_box rfl rfl rfl (memOk_box rfl rfl rfl trivial)))) ?_
  clear hst hba hbg hbl
  generalize s0.set a (s0.getD a 0 + 1) = s1 at *
  have hbl := bx_len s1
  have hba := bx_at s1 (q := a) (by omega)
  have hbg := bx_get s1 (q := a) (by omega)
  have f1 : ((eNd n).getD (0 + 0) E.dflt).xs.length = n.k.length := ksLen n.k
  have f2 : ((eNd n).getD (0 + 1) E.dflt).xs.length = n.v.length := isLen n.v
  have f3 : ((eNd n).getD (0 + 2) E.dflt).xs.length = n.c.length := isLen n.c
  have f4 : IntKind.i64.wrap ((n.k.length : Int) + 1) = (n.k.length : Int) + 1 := wrap64_id (by omega) (by omega)
  repeat' (first | refine tr_seq ?_ | refine tr_block ?_ | refine tr_skip ?_)
  first | refine reg (T := tab) tOk hnt rfl ?_ ?_ | refine regD (T := tab) tOk mixedR hnt rfl (by decide +kernel) ?_ ?_
  · (dsimp only [AllP]; (repeat' first | exact trivial | assumption | exact Nat.le_of_ble_eq_true rfl | apply And.intro | exact eCells_len1 _ _ ‹_› | exact eCells_isByte _ _ ‹_› | (intro hh_; have hg_ := hh_; (try simp only [condT_ff, condF_tt, notE_t, notE_f, Bool.and_eq_true, ne_eq, decide_eq_true_eq, decide_eq_false_iff_not] at hg_)) | intro _ | exact rfl | omega))
    all_goals trace_state
  repeat' (first | refine tr_seq ?_ | refine tr_block ?_ | refine tr_skip ?_)
  first | refine reg (T := tab) tOk hnt rfl ?_ ?_ | refine regD (T := tab) tOk mixedR hnt rfl (by decide +kernel) ?_ ?_
  · simp only [hix]
    (dsimp only [AllP]; (repeat' first | exact trivial | assumption | exact Nat.le_of_ble_eq_true rfl | apply And.intro | exact eCells_len1 _ _ ‹_› | exact eCells_isByte _ _ ‹_› | (intro hh_; have hg_ := hh_; (try simp only [condT_ff, condF_tt, notE_t, notE_f, Bool.and_eq_true, ne_eq, decide_eq_true_eq, decide_eq_false_iff_not] at hg_)) | intro _ | exact rfl | omega))
    all_goals first | (rw [hbl]; omega) | (rw [hba]; exact rfl) | trace_state
  simp only [hix, hbg]
  have f5 : (eI (s1.getD a 0)).int = s1.getD a 0 := rfl
  repeat' (first | refine tr_seq ?_ | refine tr_block ?_ | refine tr_skip ?_)
  refine tr_cond rfl (fun hc => ?_) (fun hc => ?_)
  · simp only [condT_tt, condT_ff, condF_tt, condF_ff, notE_t, notE_f, decide_eq_true_eq, decide_eq_false_iff_not] at hc
    (try simp only [f1, f2, f3, f4, f5] at hc)
    (try simp only [condT_tt, condT_ff, condF_tt, condF_ff, notE_t, notE_f, decide_eq_true_eq, decide_eq_false_iff_not] at hc)
    have hb : badN n ∨ 1 < s1.getD a 0 := by
      unfold badN
      omega
    rw [if_pos hb] at hI
    subst hI
    repeat' (first | refine tr_seq ?_ | refine reg (T := tab) tOk hnt rfl ?_ ?_ | refine regD (T := tab) tOk mixedR hnt rfl (by decide +kernel) ?_ ?_ | refine tr_block ?_ | refine tr_skip ?_)
    · (dsimp only [AllP]; (repeat' first | exact trivial | assumption | exact Nat.le_of_ble_eq_true rfl | apply And.intro | decide | intro _ | exact rfl))
    refine tr_ret ⟨.inr rfl, _, _, _, rfl, by (repeat' first | exact trivial | exact Nat.le_of_ble_eq_true rfl | apply And.intro), rfl, fun X => le_of (ad := []) ⟨⟨⟨rfl, ?_⟩, ⟨rfl, ?_⟩, ⟨rfl, ?_⟩, trivial⟩, ⟨rfl, rfl, rfl, rfl, rfl⟩, trivial⟩ (memOk_box rfl rfl ?_ trivial)⟩
    all_goals first | rfl | exact ⟨rfl, trivial⟩ | trace_state
  simp only [condT_tt, condT_ff, condF_tt, condF_ff, notE_t, notE_f, decide_eq_true_eq, decide_eq_false_iff_not] at hc
  (try simp only [f1, f2, f3, f4, f5] at hc)
  (try simp only [condT_tt, condT_ff, condF_tt, condF_ff, notE_t, notE_f, decide_eq_true_eq, decide_eq_false_iff_not] at hc)
  have hb : ¬ (badN n ∨ 1 < s1.getD a 0) := by
    unfold badN
    omega
  rw [if_neg hb] at hI
  have hsh := not_bad fun h => hb (.inl h)
  obtain ⟨e1, e2, e3, e4⟩ := hsh
  have hs1 := hs1 fun h => hb (.inr h)
  have hm1 := hm1 fun h => hb (.inr h)
  have hcl : n.c.length ≤ 4 := by rcases e4 with e4 | e4 <;> simp [e4] <;> omega
  repeat' (first | refine tr_seq ?_ | refine reg (T := tab) tOk hnt rfl ?_ ?_ | refine regD (T := tab) tOk mixedR hnt rfl (by decide +kernel) ?_ ?_ | refine tr_block ?_ | refine tr_skip ?_)
  · (dsimp only [AllP]; (repeat' first | exact trivial | assumption | exact Nat.le_of_ble_eq_true rfl | apply And.intro | decide | intro _ | exact rfl))
  · (dsimp only [AllP]; (repeat' first | exact trivial | assumption | exact Nat.le_of_ble_eq_true rfl | apply And.intro | decide | intro _ | exact rfl))
  · (dsimp only [AllP]; (repeat' first | exact trivial | assumption | exact Nat.le_of_ble_eq_true rfl | apply And.intro | decide | intro _ | exact rfl))
  repeat' (first | refine tr_seq ?_ | refine tr_block ?_ | refine tr_skip ?_)
  refine tr_loop (σ := Nat × Nat × List Int × Prs × Int) (fun x => St.of [(1, .one (.e (eI (a : Int)))), (2, .one (.bsl 900000 0 0 1 t.length)), (3, .one (.ptr 3 0 0)), (9, .one (.ptr 9 0 0)), (10, .one (.e (eI (((eKs n.k).length : Nat) : Int)))), (11, .one (.own 11 0)), (12, .one (.e (eI x.2.2.2.2))), (13, .one (.e (eI (x.2.1 : Int)))), (900000, .one (.ptr 900000 0 0))] [(900000, ⟨0, .box (.es (x.2.2.1.map eI)), 0⟩), (3, ⟨0, .box (.es (eTr t)), 0⟩), (9, ⟨0, .box (.es (eNd n)), 0⟩), (11, ⟨0, .row 2 (x.2.2.2.1.map ePr), 0⟩)]) (fun x => x.1 + x.2.1 = n.k.length + 1 ∧ x.2.2.1.length = t.length ∧ s01 x.2.2.1 ∧ ((x.2.2.2.1.length : Nat) : Int) ≤ x.2.1 + 3 * x.2.2.1.sum ∧ 0 ≤ x.2.2.2.2 ∧ x.2.2.2.2 ≤ 100 ∧ inL t (inF t f) a n x.1 x.2.1 x.2.2.1 x.2.2.2.1 x.2.2.2.2 = R) (fun x => x.1) ((n.k.length + 1, 0, s1, [], 0)) (le_of (ad := [11]) (by refine ⟨?_, ?_, ?_, ?_, ?_, ?_, ?_, ?_, ?_, trivial⟩ <;> first | exact trivial | rfl | exact ⟨rfl, rfl⟩ | exact ⟨rfl, rfl, rfl⟩ | exact ⟨rfl, rfl, rfl, rfl⟩ | exact ⟨rfl, rfl, rfl, rfl, rfl⟩ | exact congrArg (fun z : Int => E.v (.int .i64 z)) (wrap64_id (by omega) (by omega)) | exact congrArg (fun z : Int => E.v (.int .u8 z)) (by assumption) | exact congrArg (fun z : ByteArray => E.v (.string z)) (by assumption) | (refine ⟨rfl, ?_⟩; repeat' first | exact trivial | rfl | apply And.intro)) (memOk_box rfl rfl rfl (memOk_box rfl rfl rfl (memOk_box rfl rfl rfl (memOk_new rfl (by decide) trivial))))) ⟨rfl, hl1, hs1, (by have := (s01_sum s1 hs1).1; show (0 : Int) ≤ 0 + 3 * s1.sum; omega), Int.le_refl _, (by show (0 : Int) ≤ 100; decide), hI.symm⟩ ?_
  · rintro ⟨r, i, sn, out, d⟩ ⟨hr, hnl, hn1, hol, hd0, hd1, hJ⟩
    dsimp only at hr hnl hn1 hol hd0 hd1 hJ ⊢
    have hkl := ksLen n.k
    have hsm := s01_sum sn hn1
    repeat' (first | refine tr_seq ?_ | refine reg (T := tab) tOk hnt rfl ?_ ?_ | refine regD (T := tab) tOk mixedR hnt rfl (by decide +kernel) ?_ ?_ | refine tr_block ?_ | refine tr_skip ?_)
    · (dsimp only [AllP]; (repeat' first | exact trivial | assumption | exact Nat.le_of_ble_eq_true rfl | apply And.intro | decide | intro _ | exact rfl))
    repeat' (first | refine tr_seq ?_ | refine tr_block ?_ | refine tr_skip ?_)
    refine tr_cond rfl (fun hc => ?_) (fun hc => ?_)
    · simp only [condT_tt, condT_ff, condF_tt, condF_ff, notE_t, notE_f, decide_eq_true_eq, decide_eq_false_iff_not] at hc
      (try simp only [hkl] at hc)
      (try simp only [condT_tt, condT_ff, condF_tt, condF_ff, notE_t, notE_f, decide_eq_true_eq, decide_eq_false_iff_not] at hc)
      obtain ⟨r, rfl⟩ : ∃ r', r = r' + 1 := ⟨r - 1, by omega⟩
      unfold inL at hJ
      repeat' (first | refine tr_seq ?_ | refine tr_block ?_ | refine tr_skip ?_)
      first | refine reg (T := tab) tOk hnt rfl ?_ ?_ | refine regD (T := tab) tOk mixedR hnt rfl (by decide +kernel) ?_ ?_
      · (dsimp only [AllP]; (repeat' first | exact trivial | assumption | exact Nat.le_of_ble_eq_true rfl | apply And.intro | exact eCells_len1 _ _ ‹_› | exact eCells_isByte _ _ ‹_› | (intro hh_; have hg_ := hh_; (try simp only [condT_ff, condF_tt, notE_t, notE_f, Bool.and_eq_true, ne_eq, decide_eq_true_eq, decide_eq_false_iff_not] at hg_)) | intro _ | exact rfl | omega))
        all_goals trace_state
      first | refine tr_join (σ := List Int × Prs × Int) (fun y => St.of [(1, .one (.e (eI (a : Int)))), (2, .one (.bsl 900000 0 0 1 t.length)), (3, .one (.ptr 3 0 0)), (9, .one (.ptr 9 0 0)), (10, .one (.e (eI (((eKs n.k).length : Nat) : Int)))), (11, .one (.own 11 0)), (12, .one (.e (eI y.2.2))), (13, .one (.e (eI (i : Int)))), (900000, .one (.ptr 900000 0 0))] [(900000, ⟨0, .box (.es (y.1.map eI)), 0⟩), (3, ⟨0, .box (.es (eTr t)), 0⟩), (9, ⟨0, .box (.es (eNd n)), 0⟩), (11, ⟨0, .row 2 (y.2.1.map ePr), 0⟩)]) (fun y => y.1.length = t.length ∧ s01 y.1 ∧ ((y.2.1.length : Nat) : Int) ≤ i + 3 * y.1.sum ∧ 0 ≤ y.2.2 ∧ y.2.2 ≤ 100 ∧ inL t (inF t f) a n r (i + 1) y.1 (y.2.1 ++ prI n i) y.2.2 = R) ?_ ?_ | refine tr_seq (tr_join (σ := List Int × Prs × Int) (fun y => St.of [(1, .one (.e (eI (a : Int)))), (2, .one (.bsl 900000 0 0 1 t.length)), (3, .one (.ptr 3 0 0)), (9, .one (.ptr 9 0 0)), (10, .one (.e (eI (((eKs n.k).length : Nat) : Int)))), (11, .one (.own 11 0)), (12, .one (.e (eI y.2.2))), (13, .one (.e (eI (i : Int)))), (900000, .one (.ptr 900000 0 0))] [(900000, ⟨0, .box (.es (y.1.map eI)), 0⟩), (3, ⟨0, .box (.es (eTr t)), 0⟩), (9, ⟨0, .box (.es (eNd n)), 0⟩), (11, ⟨0, .row 2 (y.2.1.map ePr), 0⟩)]) (fun y => y.1.length = t.length ∧ s01 y.1 ∧ ((y.2.1.length : Nat) : Int) ≤ i + 3 * y.1.sum ∧ 0 ≤ y.2.2 ∧ y.2.2 ≤ 100 ∧ inL t (inF t f) a n r (i + 1) y.1 (y.2.1 ++ prI n i) y.2.2 = R) ?_ ?_)
      · have f3 : ((eNd n).getD (0 + 2) E.dflt).xs.length = n.c.length := isLen n.c
        have f33 : ((List.drop 2 (eNd n)).getD 0 E.dflt).xs.length = n.c.length := isLen n.c
        repeat' (first | refine tr_seq ?_ | refine tr_block ?_ | refine tr_skip ?_)
        refine tr_cond rfl (fun hc => ?_) (fun hc => ?_)
        · simp only [condT_tt, condT_ff, condF_tt, condF_ff, notE_t, notE_f, decide_eq_true_eq, decide_eq_false_iff_not] at hc
          (try simp only [f3, f33] at hc)
          (try simp only [condT_tt, condT_ff, condF_tt, condF_ff, notE_t, notE_f, decide_eq_true_eq, decide_eq_false_iff_not] at hc)
          rw [if_neg (by omega)] at hJ
          have hc4 : n.c.length = n.k.length + 1 := by
            rcases e4 with e4 | e4
            · rw [e4] at hc; exact absurd hc (by decide)
            · exact e4
          have hkg : ((eNd n).getD (0 + 2) E.dflt).xs.getD i [] = [eI (n.c.getD i 0)] := isGet n.c (by omega)
          generalize n.c.getD i 0 = q at *
          repeat' (first | refine tr_seq ?_ | refine tr_block ?_ | refine tr_skip ?_)
          first | refine reg (T := tab) tOk hnt rfl ?_ ?_ | refine regD (T := tab) tOk mixedR hnt rfl (by decide +kernel) ?_ ?_
          · rw [Int.toNat_natCast, hkg]
            (dsimp only [AllP]; (repeat' first | exact trivial | assumption | exact Nat.le_of_ble_eq_true rfl | apply And.intro | exact eCells_len1 _ _ ‹_› | exact eCells_isByte _ _ ‹_› | (intro hh_; have hg_ := hh_; (try simp only [condT_ff, condF_tt, notE_t, notE_f, Bool.and_eq_true, ne_eq, decide_eq_true_eq, decide_eq_false_iff_not] at hg_)) | intro _ | exact rfl | omega))
            all_goals trace_state
          rw [Int.toNat_natCast, hkg]
          have hqi : ([eI q].getD 0 E.dflt).int = q := rfl
          repeat' (first | refine tr_seq ?_ | refine tr_block ?_ | refine tr_skip ?_)
          first | refine reg (T := tab) tOk hnt rfl ?_ ?_ | refine regD (T := tab) tOk mixedR hnt rfl (by decide +kernel) ?_ ?_
          · (dsimp only [AllP]; (repeat' first | exact trivial | assumption | exact Nat.le_of_ble_eq_true rfl | apply And.intro | exact eCells_len1 _ _ ‹_› | exact eCells_isByte _ _ ‹_› | (intro hh_; have hg_ := hh_; (try simp only [condT_ff, condF_tt, notE_t, notE_f, Bool.and_eq_true, ne_eq, decide_eq_true_eq, decide_eq_false_iff_not] at hg_)) | intro _ | exact rfl | omega))
            all_goals trace_state
          rw [hqi]
          repeat' (first | refine tr_seq ?_ | refine tr_block ?_ | refine tr_skip ?_)
          refine tr_cond rfl (fun hc => ?_) (fun hc => ?_)
          · simp only [condT_tt, condT_ff, condF_tt, condF_ff, notE_t, notE_f, decide_eq_true_eq, decide_eq_false_iff_not] at hc
            (try simp only [hl] at hc)
            (try simp only [condT_tt, condT_ff, condF_tt, condF_ff, notE_t, notE_f, decide_eq_true_eq, decide_eq_false_iff_not] at hc)
            rw [if_pos (by omega)] at hJ
            subst hJ
            repeat' (first | refine tr_seq ?_ | refine reg (T := tab) tOk hnt rfl ?_ ?_ | refine regD (T := tab) tOk mixedR hnt rfl (by decide +kernel) ?_ ?_ | refine tr_block ?_ | refine tr_skip ?_)
            · (dsimp only [AllP]; (repeat' first | exact trivial | assumption | exact Nat.le_of_ble_eq_true rfl | apply And.intro | decide | intro _ | exact rfl))
            refine tr_ret ⟨.inr rfl, _, _, _, rfl, by (repeat' first | exact trivial | exact Nat.le_of_ble_eq_true rfl | apply And.intro), rfl, fun X => le_of (ad := []) ⟨⟨⟨rfl, ?_⟩, ⟨rfl, ?_⟩, ⟨rfl, ?_⟩, trivial⟩, ⟨rfl, rfl, rfl, rfl, rfl⟩, trivial⟩ (memOk_box rfl rfl ?_ trivial)⟩
            all_goals first | rfl | exact ⟨rfl, trivial⟩ | trace_state
          simp only [condT_tt, condT_ff, condF_tt, condF_ff, notE_t, notE_f, decide_eq_true_eq, decide_eq_false_iff_not] at hc
          (try simp only [hl] at hc)
          (try simp only [condT_tt, condT_ff, condF_tt, condF_ff, notE_t, notE_f, decide_eq_true_eq, decide_eq_false_iff_not] at hc)
          rw [if_neg (by omega)] at hJ
          obtain ⟨q, rfl⟩ : ∃ q' : Nat, q = (q' : Int) := ⟨q.toNat, by omega⟩
          rw [Int.toNat_natCast] at hJ
          have hih := ih q sn (by omega) (by omega) hnl hn1
          obtain ⟨o1, o2⟩ := inF_ok t f q sn
          generalize inF t f q sn = x at *
          obtain ⟨⟨l, dd, ok⟩, sq⟩ := x
          dsimp only at hJ hih o1 o2
          repeat' (first | refine tr_seq ?_ | refine tr_block ?_ | refine tr_skip ?_)
          refine tr_region (lex (T := tab) tOk hnt rfl ?_ (callH (us := []) [(900000, 900000)] [] [] rfl rfl rfl rfl hih (by repeat' first | exact .nil | refine .lent rfl rfl rfl ?_ | refine .data rfl ?_) (fun _ => rfl) rfl rfl hnt rfl rfl (by repeat' first | exact trivial | rfl | apply And.intro) (shOk_I o1 900000) (lex (T := tab) tOk hnt rfl ?_ (Lex.nil _)))) ?_
          · (dsimp only [AllP]; (repeat' first | exact trivial | assumption | exact Nat.le_of_ble_eq_true rfl | apply And.intro | exact eCells_len1 _ _ ‹_› | exact eCells_isByte _ _ ‹_› | (intro hh_; have hg_ := hh_; (try simp only [condT_ff, condF_tt, notE_t, notE_f, Bool.and_eq_true, ne_eq, decide_eq_true_eq, decide_eq_false_iff_not] at hg_)) | intro _ | exact rfl | omega))
            all_goals trace_state
          · (dsimp only [AllP]; (repeat' first | exact trivial | assumption | exact Nat.le_of_ble_eq_true rfl | apply And.intro | exact eCells_len1 _ _ ‹_› | exact eCells_isByte _ _ ‹_› | (intro hh_; have hg_ := hh_; (try simp only [condT_ff, condF_tt, notE_t, notE_f, Bool.and_eq_true, ne_eq, decide_eq_true_eq, decide_eq_false_iff_not] at hg_)) | intro _ | exact rfl | omega))
            all_goals trace_state
          repeat' (first | refine tr_seq ?_ | refine tr_block ?_ | refine tr_skip ?_)
          first | refine reg (T := tab) tOk hnt rfl ?_ ?_ | refine regD (T := tab) tOk mixedR hnt rfl (by decide +kernel) ?_ ?_
          · (dsimp only [AllP]; (repeat' first | exact trivial | assumption | exact Nat.le_of_ble_eq_true rfl | apply And.intro | exact eCells_len1 _ _ ‹_› | exact eCells_isByte _ _ ‹_› | (intro hh_; have hg_ := hh_; (try simp only [condT_ff, condF_tt, notE_t, notE_f, Bool.and_eq_true, ne_eq, decide_eq_true_eq, decide_eq_false_iff_not] at hg_)) | intro _ | exact rfl | omega))
            all_goals trace_state
          repeat' (first | refine tr_seq ?_ | refine tr_block ?_ | refine tr_skip ?_)
          refine tr_cond rfl (fun hc => ?_) (fun hc => ?_)
          · simp only [condT_tt, condT_ff, condF_tt, condF_ff, notE_t, notE_f, decide_eq_true_eq, decide_eq_false_iff_not] at hc
            have hb : ok = false ∨ (0 < i ∧ dd ≠ d) := by
              rcases hc with hc | hc
              · exact .inl (by cases ok <;> first | rfl | exact absurd hc (by decide))
              · exact .inr ⟨by omega, hc.2⟩
            rw [if_pos hb] at hJ
            subst hJ
            repeat' (first | refine tr_seq ?_ | refine reg (T := tab) tOk hnt rfl ?_ ?_ | refine regD (T := tab) tOk mixedR hnt rfl (by decide +kernel) ?_ ?_ | refine tr_block ?_ | refine tr_skip ?_)
            · (dsimp only [AllP]; (repeat' first | exact trivial | assumption | exact Nat.le_of_ble_eq_true rfl | apply And.intro | decide | intro _ | exact rfl))
            refine tr_ret ⟨.inr rfl, _, _, _, rfl, by (repeat' first | exact trivial | exact Nat.le_of_ble_eq_true rfl | apply And.intro), rfl, fun X => le_of (ad := []) ⟨⟨⟨rfl, ?_⟩, ⟨rfl, ?_⟩, ⟨rfl, ?_⟩, trivial⟩, ⟨rfl, rfl, rfl, rfl, rfl⟩, trivial⟩ (memOk_box rfl rfl ?_ trivial)⟩
            all_goals first | rfl | exact ⟨rfl, trivial⟩ | trace_state
          simp only [condT_tt, condT_ff, condF_tt, condF_ff, notE_t, notE_f, decide_eq_true_eq, decide_eq_false_iff_not] at hc
          have hb : ¬ (ok = false ∨ (0 < i ∧ dd ≠ d)) := by
            rintro (h | h)
            · rw [hc.1] at h; cases h
            · rcases hc.2 with h2 | h2
              · omega
              · exact h.2 h2
          rw [if_neg hb] at hJ
          have hok : ok = true := by cases ok with | true => rfl | false => exact absurd (Or.inl rfl) hb
          obtain ⟨p1, p2, p3, p4⟩ := o2 hok hnl hn1
          have hps := s01_sum sq p1
          have o1 : sq.length = sn.length := o1
          have p2 : (l.length : Int) ≤ 3 * (sq.sum - sn.sum) := p2
          have hop : (out.map ePr).length = out.length := List.length_map ..
          have hlp : (l.map ePr).length = l.length := List.length_map ..
          have m1 : (out.map ePr).length + (l.map ePr).length ≤ maxLen := by rw [hop, hlp]; unfold maxLen; omega
          have m2 : ((out.map ePr).length + (l.map ePr).length) * 24 ≤ 140737488355328 := by rw [hop, hlp]; omega
          have m3 : ∀ cs ∈ l.map ePr, cs.length = 2 := fun cs h => by obtain ⟨p, _, rfl⟩ := List.mem_map.1 h; rfl
          repeat' (first | refine tr_seq ?_ | refine tr_block ?_ | refine tr_skip ?_)
          first | refine reg (T := tab) tOk hnt rfl ?_ ?_ | refine regD (T := tab) tOk mixedR hnt rfl (by decide +kernel) ?_ ?_
          · (dsimp only [AllP]; (repeat' first | exact trivial | assumption | exact Nat.le_of_ble_eq_true rfl | apply And.intro | exact eCells_len1 _ _ ‹_› | exact eCells_isByte _ _ ‹_› | (intro hh_; have hg_ := hh_; (try simp only [condT_ff, condF_tt, notE_t, notE_f, Bool.and_eq_true, ne_eq, decide_eq_true_eq, decide_eq_false_iff_not] at hg_)) | intro _ | exact rfl | omega))
            all_goals first | exact m1 | exact m2 | exact m3 _ ‹_› | trace_state
          repeat' (first | refine tr_seq ?_ | refine tr_block ?_ | refine tr_skip ?_)
          refine ⟨(sq, out ++ l, dd), ⟨o1.trans hnl, p1, (by dsimp only; rw [List.length_append]; omega), p3, (by show dd ≤ 100; omega), hJ⟩, le_of (ad := []) (by refine ⟨?_, ?_, ?_, ?_, ?_, ?_, ?_, ?_, ?_, trivial⟩ <;> first | exact trivial | rfl | exact ⟨rfl, rfl⟩ | exact ⟨rfl, rfl, rfl⟩ | exact ⟨rfl, rfl, rfl, rfl⟩ | exact ⟨rfl, rfl, rfl, rfl, rfl⟩ | exact congrArg (fun z : Int => E.v (.int .i64 z)) (wrap64_id (by omega) (by omega)) | exact congrArg (fun z : Int => E.v (.int .u8 z)) (by assumption) | exact congrArg (fun z : ByteArray => E.v (.string z)) (by assumption) | (refine ⟨rfl, ?_⟩; repeat' first | exact trivial | rfl | apply And.intro)) (memOk_box rfl rfl rfl (memOk_box rfl rfl rfl (memOk_box rfl rfl rfl (memOk_row rfl rfl (List.map_append (f := ePr) (l₁ := out) (l₂ := l)).symm trivial))))⟩
        simp only [condT_tt, condT_ff, condF_tt, condF_ff, notE_t, notE_f, decide_eq_true_eq, decide_eq_false_iff_not] at hc
        (try simp only [f3, f33] at hc)
        (try simp only [condT_tt, condT_ff, condF_tt, condF_ff, notE_t, notE_f, decide_eq_true_eq, decide_eq_false_iff_not] at hc)
        rw [if_pos (by omega)] at hJ
        repeat' (first | refine tr_seq ?_ | refine tr_block ?_ | refine tr_skip ?_)
        refine ⟨(sn, out, d), ⟨hnl, hn1, hol, hd0, hd1, hJ⟩, le_of (ad := []) (by refine ⟨?_, ?_, ?_, ?_, ?_, ?_, ?_, ?_, ?_, trivial⟩ <;> first | exact trivial | rfl | exact ⟨rfl, rfl⟩ | exact ⟨rfl, rfl, rfl⟩ | exact ⟨rfl, rfl, rfl, rfl⟩ | exact ⟨rfl, rfl, rfl, rfl, rfl⟩ | exact congrArg (fun z : Int => E.v (.int .i64 z)) (wrap64_id (by omega) (by omega)) | exact congrArg (fun z : Int => E.v (.int .u8 z)) (by assumption) | exact congrArg (fun z : ByteArray => E.v (.string z)) (by assumption) | (refine ⟨rfl, ?_⟩; repeat' first | exact trivial | rfl | apply And.intro)) (memOk_box rfl rfl rfl (memOk_box rfl rfl rfl (memOk_box rfl rfl rfl (memOk_row rfl rfl rfl trivial))))⟩
      rintro ⟨sn', out', d'⟩ ⟨hnl', hn1', hol', hd0', hd1', hJ'⟩
      dsimp only at hnl' hn1' hol' hd0' hd1' hJ' ⊢
      have h64 : IntKind.i64.wrap ((i : Int) + 1) = ((i + 1 : Nat) : Int) := wrap64_id (by omega) (by omega)
      have hsm' := s01_sum sn' hn1'
      repeat' (first | refine tr_seq ?_ | refine tr_block ?_ | refine tr_skip ?_)
      first | refine reg (T := tab) tOk hnt rfl ?_ ?_ | refine regD (T := tab) tOk mixedR hnt rfl (by decide +kernel) ?_ ?_
      · (dsimp only [AllP]; (repeat' first | exact trivial | assumption | exact Nat.le_of_ble_eq_true rfl | apply And.intro | exact eCells_len1 _ _ ‹_› | exact eCells_isByte _ _ ‹_› | (intro hh_; have hg_ := hh_; (try simp only [condT_ff, condF_tt, notE_t, notE_f, Bool.and_eq_true, ne_eq, decide_eq_true_eq, decide_eq_false_iff_not] at hg_)) | intro _ | exact rfl | omega))
        all_goals trace_state
      repeat' (first | refine tr_seq ?_ | refine tr_block ?_ | refine tr_skip ?_)
      refine tr_cond rfl (fun hc => ?_) (fun hc => ?_)
      · simp only [condT_tt, condT_ff, condF_tt, condF_ff, notE_t, notE_f, decide_eq_true_eq, decide_eq_false_iff_not] at hc
        (try simp only [hkl] at hc)
        (try simp only [condT_tt, condT_ff, condF_tt, condF_ff, notE_t, notE_f, decide_eq_true_eq, decide_eq_false_iff_not] at hc)
        have hik : i < n.k.length := by omega
        have hpi : prI n i = [(n.k.getD i [], n.v.getD i 0)] := if_pos hik
        rw [hpi] at hJ'
        have hkg : ((eNd n).getD (0 + 0) E.dflt).xs.getD i [] = [eKy (n.k.getD i [])] := ksGet n.k hik
        have hvg : ((eNd n).getD (0 + 1) E.dflt).xs.getD i [] = [eI (n.v.getD i 0)] := isGet n.v (by omega)
        have f1 : ((eNd n).getD (0 + 0) E.dflt).xs.length = n.k.length := ksLen n.k
        have f2 : ((eNd n).getD (0 + 1) E.dflt).xs.length = n.v.length := isLen n.v
        generalize n.k.getD i [] = ky at *
        generalize n.v.getD i 0 = vl at *
        have hop : (out'.map ePr).length = out'.length := List.length_map ..
        have m1 : (out'.map ePr).length + [ePr (ky, vl)].length ≤ maxLen := by rw [hop]; show out'.length + 1 ≤ maxLen; unfold maxLen; omega
        have m2 : ((out'.map ePr).length + [ePr (ky, vl)].length) * 24 ≤ 140737488355328 := by rw [hop]; show (out'.length + 1) * 24 ≤ _; omega
        have hou : out'.map ePr ++ [ePr (ky, vl)] = (out' ++ [(ky, vl)]).map ePr := by rw [List.map_append]; rfl
        repeat' (first | refine tr_seq ?_ | refine tr_block ?_ | refine tr_skip ?_)
        first | refine reg (T := tab) tOk hnt rfl ?_ ?_ | refine regD (T := tab) tOk mixedR hnt rfl (by decide +kernel) ?_ ?_
        · rw [Int.toNat_natCast, hkg, hvg]
          (dsimp only [AllP]; (repeat' first | exact trivial | assumption | exact Nat.le_of_ble_eq_true rfl | apply And.intro | exact eCells_len1 _ _ ‹_› | exact eCells_isByte _ _ ‹_› | (intro hh_; have hg_ := hh_; (try simp only [condT_ff, condF_tt, notE_t, notE_f, Bool.and_eq_true, ne_eq, decide_eq_true_eq, decide_eq_false_iff_not] at hg_)) | intro _ | exact rfl | omega))
          all_goals first | exact m1 | exact m2 | trace_state
        rw [Int.toNat_natCast, hkg, hvg]
        repeat' (first | refine tr_seq ?_ | refine reg (T := tab) tOk hnt rfl ?_ ?_ | refine regD (T := tab) tOk mixedR hnt rfl (by decide +kernel) ?_ ?_ | refine tr_block ?_ | refine tr_skip ?_)
        · (dsimp only [AllP]; (repeat' first | exact trivial | assumption | exact Nat.le_of_ble_eq_true rfl | apply And.intro | decide | intro _ | exact rfl))
        rw [h64]
        refine ⟨(r, i + 1, sn', out' ++ [(ky, vl)], d'), ⟨by dsimp only; omega, hnl', hn1', (by dsimp only; rw [List.length_append]; show ((out'.length + 1 : Nat) : Int) ≤ _; omega), hd0', hd1', hJ'⟩, (Nat.lt_succ_self _), le_of (ad := []) (by refine ⟨?_, ?_, ?_, ?_, ?_, ?_, ?_, ?_, ?_, trivial⟩ <;> first | exact trivial | rfl | exact ⟨rfl, rfl⟩ | exact ⟨rfl, rfl, rfl⟩ | exact ⟨rfl, rfl, rfl, rfl⟩ | exact ⟨rfl, rfl, rfl, rfl, rfl⟩ | exact congrArg (fun z : Int => E.v (.int .i64 z)) (wrap64_id (by omega) (by omega)) | exact congrArg (fun z : Int => E.v (.int .u8 z)) (by assumption) | exact congrArg (fun z : ByteArray => E.v (.string z)) (by assumption) | (refine ⟨rfl, ?_⟩; repeat' first | exact trivial | rfl | apply And.intro)) (memOk_box rfl rfl rfl (memOk_box rfl rfl rfl (memOk_box rfl rfl rfl (memOk_row rfl rfl hou trivial))))⟩
      simp only [condT_tt, condT_ff, condF_tt, condF_ff, notE_t, notE_f, decide_eq_true_eq, decide_eq_false_iff_not] at hc
      (try simp only [hkl] at hc)
      (try simp only [condT_tt, condT_ff, condF_tt, condF_ff, notE_t, notE_f, decide_eq_true_eq, decide_eq_false_iff_not] at hc)
      have hpi : prI n i = [] := if_neg (by omega)
      rw [hpi, List.append_nil] at hJ'
      repeat' (first | refine tr_seq ?_ | refine reg (T := tab) tOk hnt rfl ?_ ?_ | refine regD (T := tab) tOk mixedR hnt rfl (by decide +kernel) ?_ ?_ | refine tr_block ?_ | refine tr_skip ?_)
      · (dsimp only [AllP]; (repeat' first | exact trivial | assumption | exact Nat.le_of_ble_eq_true rfl | apply And.intro | decide | intro _ | exact rfl))
      rw [h64]
      refine ⟨(r, i + 1, sn', out', d'), ⟨by dsimp only; omega, hnl', hn1', (by dsimp only; omega), hd0', hd1', hJ'⟩, (Nat.lt_succ_self _), le_of (ad := []) (by refine ⟨?_, ?_, ?_, ?_, ?_, ?_, ?_, ?_, ?_, trivial⟩ <;> first | exact trivial | rfl | exact ⟨rfl, rfl⟩ | exact ⟨rfl, rfl, rfl⟩ | exact ⟨rfl, rfl, rfl, rfl⟩ | exact ⟨rfl, rfl, rfl, rfl, rfl⟩ | exact congrArg (fun z : Int => E.v (.int .i64 z)) (wrap64_id (by omega) (by omega)) | exact congrArg (fun z : Int => E.v (.int .u8 z)) (by assumption) | exact congrArg (fun z : ByteArray => E.v (.string z)) (by assumption) | (refine ⟨rfl, ?_⟩; repeat' first | exact trivial | rfl | apply And.intro)) (memOk_box rfl rfl rfl (memOk_box rfl rfl rfl (memOk_box rfl rfl rfl (memOk_row rfl rfl rfl trivial))))⟩
    simp only [condT_tt, condT_ff, condF_tt, condF_ff, notE_t, notE_f, decide_eq_true_eq, decide_eq_false_iff_not] at hc
    (try simp only [hkl] at hc)
    (try simp only [condT_tt, condT_ff, condF_tt, condF_ff, notE_t, notE_f, decide_eq_true_eq, decide_eq_false_iff_not] at hc)
    refine tr_exit ?_
    obtain rfl : r = 0 := by omega
    have hJ : ((out, d + 1, true), sn) = R := hJ
    subst hJ
    have hwd : IntKind.i64.wrap (d + 1) = d + 1 := wrap64_id (by omega) (by omega)
    repeat' (first | refine tr_seq ?_ | refine reg (T := tab) tOk hnt rfl ?_ ?_ | refine regD (T := tab) tOk mixedR hnt rfl (by decide +kernel) ?_ ?_ | refine tr_block ?_ | refine tr_skip ?_)
    · (dsimp only [AllP]; (repeat' first | exact trivial | assumption | exact Nat.le_of_ble_eq_true rfl | apply And.intro | decide | intro _ | exact rfl))
    rw [hwd]
    refine tr_le (le_frz 6 rfl rfl) ?_
    refine tr_ret ⟨.inr rfl, _, _, _, rfl, by (repeat' first | exact trivial | exact Nat.le_of_ble_eq_true rfl | apply And.intro), rfl, fun X => le_of (ad := []) ⟨⟨⟨rfl, ?_⟩, ⟨rfl, ?_⟩, ⟨rfl, ?_⟩, trivial⟩, ⟨rfl, rfl, rfl, rfl, rfl⟩, trivial⟩ (memOk_box rfl rfl ?_ trivial)⟩
    all_goals first | rfl | exact ⟨rfl, trivial⟩ | trace_state
theorem inner_fn (t : List Nd) (ht : t.length ≤ 100) (hm : ∀ i, i < t.length → (t.getD i nd0).k.length ≤ 100) : ∀ (f : Nat), f ≤ 101 → ∀ (a : Nat) (s0 : List Int), a < t.length → t.length ≤ f + a → s0.length = t.length → s01 s0 →
    FnH Tryd.prog 131 [] (msI s0) [.agg (.es (eTr t)), .one (.e (eI (a : Int))), .one (.bsl 900000 0 0 1 t.length)] (rIn (inF t f a s0).1) (msI (inF t f a s0).2)
  | 0, _, a, s0, ha, hf, _, _ => absurd ha (by omega)
  | f + 1, hf1, a, s0, ha, hf, hs, h0 => inner_step t ht hm f (by omega) (fun a s h1 h2 h3 h4 => inner_fn t ht hm f (by omega) a s h1 h2 h3 h4) a s0 ha hf hs h0
end Go.Proofs.YtphaholcndhonaaDoor.Tr
namespace Go.Proofs.YtphaholcndhonaaDoor.Tr
open Go Go.RowKit Go.Proofs.YtphaholcndhonaaDoor.Ab
set_option linter.unusedSimpArgs false
set_option linter.unusedVariables false

def rmA (t : List Nd) : Nat → Nat → Int → Bool
  | 0, _, _ => true
  | k + 1, i, rm => if rm < ((t.getD i nd0).k.length : Int) then false else if kA (t.getD i nd0).k (t.getD i nd0).k.length 0 = false then false else rmA t k (i + 1) (rm - ((t.getD i nd0).k.length : Int))
def oneA (sn : List Int) : Nat → Nat → Bool → Bool
  | 0, _, b => b
  | k + 1, j, b => oneA sn k (j + 1) (bif b then decide (sn.getD j 0 = 1) else false)
def pr0 : Byt × Int := ([], 0)
def lsA (l : Prs) : Nat → Nat → Bool → Bool
  | 0, _, b => b
  | k + 1, j, b => lsA l k (j + 1) (bif b then decide (cmpT (l.getD (j - 1) pr0).1 (l.getD j pr0).1 < 0) else false)
def prsF (t : List Nd) : Prs × Int := if 100 < t.length then ([], 1) else if rmA t t.length 0 100 = false then ([], 1) else if t.length = 0 then ([], 0) else
  if lsA (inF t t.length 0 (zI t.length)).1.1 ((inF t t.length 0 (zI t.length)).1.1.length - 1) 1 (oneA (inF t t.length 0 (zI t.length)).2 t.length 0 (inF t t.length 0 (zI t.length)).1.2.2) = false then ([], 3) else ((inF t t.length 0 (zI t.length)).1.1, 0)
theorem inL_no (t : List Nd) (rec : Nat → List Int → IR) (at_ : Nat) (n : Nd) : ∀ (r i : Nat) (sn : List Int) (out : Prs) (d : Int), (inL t rec at_ n r i sn out d).1.2.2 = false → (inL t rec at_ n r i sn out d).1 = noR
  | 0, i, sn, out, d, h => nomatch h
  | r + 1, i, sn, out, d, h => by
    unfold inL at h ⊢
    split
    · rename_i hc; rw [if_pos hc] at h; exact inL_no t rec at_ n r _ _ _ _ h
    rename_i hc
    rw [if_neg hc] at h
    split
    · rfl
    rename_i hc
    rw [if_neg hc] at h
    split
    · rfl
    rename_i hc
    rw [if_neg hc] at h
    exact inL_no t rec at_ n r _ _ _ _ h
theorem inF_no (t : List Nd) : ∀ (f a : Nat) (sn : List Int), (inF t f a sn).1.2.2 = false → (inF t f a sn).1 = noR
  | 0, a, sn, _ => rfl
  | f + 1, a, sn, h => by
    unfold inF at h ⊢
    split
    · rfl
    rename_i hc
    rw [if_neg hc] at h
    exact inL_no _ _ _ _ _ _ _ _ _ h
/-- keys that are not long -/
def k60 (l : Prs) : Prop := ∀ p ∈ l, p.1.length ≤ 60
theorem inL_60 (t : List Nd) (rec : Nat → List Int → IR) (hrec : ∀ q sn, k60 (rec q sn).1.1) (at_ : Nat) (n : Nd) (hn : ∀ j, j < n.k.length → (n.k.getD j []).length ≤ 60) : ∀ (r i : Nat) (sn : List Int) (out : Prs) (d : Int), k60 out → k60 (inL t rec at_ n r i sn out d).1.1
  | 0, i, sn, out, d, h => h
  | r + 1, i, sn, out, d, h => by
    have hp : k60 (prI n i) := fun p hp => by
      unfold prI at hp
      split at hp
      · rename_i hi
        rcases List.mem_singleton.1 hp with rfl
        exact hn i hi
      · cases hp
    have app : ∀ {a b : Prs}, k60 a → k60 b → k60 (a ++ b) := fun ha hb p hp => (List.mem_append.1 hp).elim (ha p) (hb p)
    unfold inL
    split
    · exact inL_60 t rec hrec at_ n hn r _ _ _ _ (app h hp)
    split
    · exact fun p hp => nomatch hp
    split
    · exact fun p hp => nomatch hp
    exact inL_60 t rec hrec at_ n hn r _ _ _ _ (app (app h (hrec _ _)) hp)
theorem inF_60 (t : List Nd) (hk : ∀ i, i < t.length → ∀ j, j < (t.getD i nd0).k.length → ((t.getD i nd0).k.getD j []).length ≤ 60) : ∀ (f a : Nat) (sn : List Int), k60 (inF t f a sn).1.1
  | 0, a, sn => fun p hp => nomatch hp
  | f + 1, a, sn => by
    unfold inF
    split
    · exact fun p hp => nomatch hp
    rename_i hb
    exact inL_60 t _ (inF_60 t hk f) a _ (hk a (nd_in fun h => hb (.inl h))) _ _ _ _ _ (fun p hp => nomatch hp)
theorem kA_60 (l : List (List UInt8)) : ∀ (k j : Nat), kA l k j = true → ∀ q, j ≤ q → q < j + k → (l.getD q []).length ≤ 60
  | 0, j, _, q, h1, h2 => absurd h2 (by omega)
  | k + 1, j, h, q, h1, h2 => by
    rw [kA] at h
    split at h
    · cases h
    by_cases hq : q = j
    · subst hq; omega
    · exact kA_60 l k (j + 1) h q (by omega) (by omega)
theorem rmA_ok (t : List Nd) : ∀ (k i : Nat) (rm : Int), rm ≤ 100 → rmA t k i rm = true → ∀ q, i ≤ q → q < i + k → (t.getD q nd0).k.length ≤ 100 ∧ ∀ j, j < (t.getD q nd0).k.length → ((t.getD q nd0).k.getD j []).length ≤ 60
  | 0, i, rm, _, _, q, h1, h2 => absurd h2 (by omega)
  | k + 1, i, rm, hr, h, q, h1, h2 => by
    rw [rmA] at h
    split at h
    · cases h
    split at h
    · cases h
    rename_i hl hk
    by_cases hq : q = i
    · subst hq
      refine ⟨by omega, fun j hj => kA_60 _ (t.getD q nd0).k.length 0 ?_ j (Nat.zero_le _) (by omega)⟩
      cases hv : kA (t.getD q nd0).k (t.getD q nd0).k.length 0 with
      | true => rfl
      | false => exact absurd hv hk
    · exact rmA_ok t k (i + 1) _ (by omega) h q (by omega) (by omega)
end Go.Proofs.YtphaholcndhonaaDoor.Tr
namespace Go.Proofs.YtphaholcndhonaaDoor.Tr
open Go Go.RowKit Go.Proofs.YtphaholcndhonaaDoor.Ab
set_option linter.unusedSimpArgs false
set_option linter.unusedVariables false

def rPs (x : Prs × Int) : D := .tup [(false, .es [ePs x.1]), (false, .es [eI x.2])]
set_option maxRecDepth 10000 in
set_option maxHeartbeats 2000000 in
theorem PairsOf_fn (t : List Nd) (hm : ∀ i, (t.getD i nd0).k.length ≤ maxLen) : FnD Tryd.prog 72 [.agg (.es (eTr t))] (rPs (prsF t)) := by
  refine fn_intro (T := tab) tOk Tryd.func72 rfl (by kernel_rfl) (by simp [Tryd.ntmps72]) ?_
  intro X hX
  have hnt : X.nt = 101 := hX
  clear hX
  have hl : ((eTr t).getD (0 + 0) E.dflt).xs.length = t.length := List.length_map ..
  have hl2 : (t.map eNd).length = t.length := List.length_map ..
  repeat' (first | refine tr_seq ?_ | refine reg (T := tab) tOk hnt rfl ?_ ?_ | refine regD (T := tab) tOk mixedR hnt rfl (by decide +kernel) ?_ ?_ | refine tr_block ?_ | refine tr_skip ?_)
  · (dsimp only [AllP]; (repeat' first | exact trivial | assumption | exact Nat.le_of_ble_eq_true rfl | apply And.intro | decide | intro _ | exact rfl))
  · (dsimp only [AllP]; (repeat' first | exact trivial | assumption | exact Nat.le_of_ble_eq_true rfl | apply And.intro | decide | intro _ | exact rfl))
  repeat' (first | refine tr_seq ?_ | refine tr_block ?_ | refine tr_skip ?_)
  refine tr_cond rfl (fun hc => ?_) (fun hc => ?_)
  · simp only [condT_tt, condT_ff, condF_tt, condF_ff, notE_t, notE_f, decide_eq_true_eq, decide_eq_false_iff_not] at hc
    (try simp only [hl] at hc)
    (try simp only [condT_tt, condT_ff, condF_tt, condF_ff, notE_t, notE_f, decide_eq_true_eq, decide_eq_false_iff_not] at hc)
    have : prsF t = ([], 1) := if_pos (by omega)
    rw [this]
    repeat' (first | refine tr_seq ?_ | refine reg (T := tab) tOk hnt rfl ?_ ?_ | refine regD (T := tab) tOk mixedR hnt rfl (by decide +kernel) ?_ ?_ | refine tr_block ?_ | refine tr_skip ?_)
    · (dsimp only [AllP]; (repeat' first | exact trivial | assumption | exact Nat.le_of_ble_eq_true rfl | apply And.intro | decide | intro _ | exact rfl))
    refine tr_ret ⟨.inr rfl, _, _, rfl, by (repeat' first | exact trivial | exact Nat.le_of_ble_eq_true rfl | apply And.intro), ?_⟩
    exact rfl
  simp only [condT_tt, condT_ff, condF_tt, condF_ff, notE_t, notE_f, decide_eq_true_eq, decide_eq_false_iff_not] at hc
  (try simp only [hl] at hc)
  (try simp only [condT_tt, condT_ff, condF_tt, condF_ff, notE_t, notE_f, decide_eq_true_eq, decide_eq_false_iff_not] at hc)
  have hlen : t.length ≤ 100 := by omega
  repeat' (first | refine tr_seq ?_ | refine tr_block ?_ | refine tr_skip ?_)
  first | refine reg (T := tab) tOk hnt rfl ?_ ?_ | refine regD (T := tab) tOk mixedR hnt rfl (by decide +kernel) ?_ ?_
  · (dsimp only [AllP]; (repeat' first | exact trivial | assumption | exact Nat.le_of_ble_eq_true rfl | apply And.intro | exact eCells_len1 _ _ ‹_› | exact eCells_isByte _ _ ‹_› | (intro hh_; have hg_ := hh_; (try simp only [condT_ff, condF_tt, notE_t, notE_f, Bool.and_eq_true, ne_eq, decide_eq_true_eq, decide_eq_false_iff_not] at hg_)) | intro _ | exact rfl | omega))
  repeat' (first | refine tr_seq ?_ | refine tr_block ?_ | refine tr_skip ?_)
  first | refine reg (T := tab) tOk hnt rfl ?_ ?_ | refine regD (T := tab) tOk mixedR hnt rfl (by decide +kernel) ?_ ?_
  · (dsimp only [AllP]; (repeat' first | exact trivial | assumption | exact Nat.le_of_ble_eq_true rfl | apply And.intro | exact eCells_len1 _ _ ‹_› | exact eCells_isByte _ _ ‹_› | (intro hh_; have hg_ := hh_; (try simp only [condT_ff, condF_tt, notE_t, notE_f, Bool.and_eq_true, ne_eq, decide_eq_true_eq, decide_eq_false_iff_not] at hg_)) | intro _ | exact rfl | omega))
  repeat' (first | refine tr_seq ?_ | refine tr_block ?_ | refine tr_skip ?_)
  refine tr_loop (σ := Nat × Nat × Int) (fun x => St.of [(1, .one (.ptr 1 0 0)), (4, .one (.e (eI x.2.2))), (21, .one (.e (.sl (t.map eNd)))), (22, .one (.e (eI (((t.map eNd).length : Nat) : Int)))), (23, .one (.e (eI (x.2.1 : Int))))] [(1, ⟨0, .box (.es (eTr t)), 0⟩)]) (fun x => x.1 + x.2.1 = t.length ∧ (0 ≤ x.2.2 ∧ x.2.2 ≤ 100) ∧ rmA t x.1 x.2.1 x.2.2 = rmA t t.length 0 100) (fun x => x.1) ((t.length, 0, 100)) (le_of (ad := []) (by refine ⟨?_, ?_, ?_, ?_, ?_, trivial⟩ <;> first | exact trivial | rfl | exact ⟨rfl, rfl⟩ | exact ⟨rfl, rfl, rfl⟩ | exact ⟨rfl, rfl, rfl, rfl⟩ | exact ⟨rfl, rfl, rfl, rfl, rfl⟩ | exact congrArg (fun z : Int => E.v (.int .i64 z)) (wrap64_id (by omega) (by omega)) | exact congrArg (fun z : Int => E.v (.int .u8 z)) (by assumption) | exact congrArg (fun z : ByteArray => E.v (.string z)) (by assumption) | (refine ⟨rfl, ?_⟩; repeat' first | exact trivial | rfl | apply And.intro)) (memOk_box rfl rfl rfl trivial)) ⟨rfl, (by show (0 : Int) ≤ 100 ∧ (100 : Int) ≤ 100; decide), rfl⟩ ?_
  · rintro ⟨k, i, rm⟩ ⟨hk, hrm, hJ⟩
    dsimp only at hk hrm hJ ⊢
    repeat' (first | refine tr_seq ?_ | refine reg (T := tab) tOk hnt rfl ?_ ?_ | refine regD (T := tab) tOk mixedR hnt rfl (by decide +kernel) ?_ ?_ | refine tr_block ?_ | refine tr_skip ?_)
    · (dsimp only [AllP]; (repeat' first | exact trivial | assumption | exact Nat.le_of_ble_eq_true rfl | apply And.intro | decide | intro _ | exact rfl))
    repeat' (first | refine tr_seq ?_ | refine tr_block ?_ | refine tr_skip ?_)
    refine tr_cond rfl (fun hc => ?_) (fun hc => ?_)
    · simp only [condT_tt, condT_ff, condF_tt, condF_ff, notE_t, notE_f, decide_eq_true_eq, decide_eq_false_iff_not] at hc
      (try simp only [hl2] at hc)
      (try simp only [condT_tt, condT_ff, condF_tt, condF_ff, notE_t, notE_f, decide_eq_true_eq, decide_eq_false_iff_not] at hc)
      have hlt : i < t.length := by omega
      have hg := ndsGet t hlt
      obtain ⟨k, rfl⟩ : ∃ k', k = k' + 1 := ⟨k - 1, by omega⟩
      rw [rmA] at hJ
      generalize hT : rmA t t.length 0 100 = T at *
      have hCF : T = false → prsF t = ([], 1) := fun h => by unfold prsF; rw [if_neg (by omega), hT, if_pos h]
      generalize hnn : t.getD i nd0 = n at *
      have hmx : n.k.length ≤ maxLen := by rw [← hnn]; exact hm i
      unfold maxLen at hmx
      repeat' (first | refine tr_seq ?_ | refine tr_block ?_ | refine tr_skip ?_)
      first | refine reg (T := tab) tOk hnt rfl ?_ ?_ | refine regD (T := tab) tOk mixedR hnt rfl (by decide +kernel) ?_ ?_
      · rw [Int.toNat_natCast, hg]
        (dsimp only [AllP]; (repeat' first | exact trivial | assumption | exact Nat.le_of_ble_eq_true rfl | apply And.intro | exact eCells_len1 _ _ ‹_› | exact eCells_isByte _ _ ‹_› | (intro hh_; have hg_ := hh_; (try simp only [condT_ff, condF_tt, notE_t, notE_f, Bool.and_eq_true, ne_eq, decide_eq_true_eq, decide_eq_false_iff_not] at hg_)) | intro _ | exact rfl | omega))
        all_goals trace_state
      rw [Int.toNat_natCast, hg]
      have f1 : ((List.take 3 (List.drop 0 (eNd n))).getD (0 + 0) E.dflt).xs.length = n.k.length := ksLen n.k
      repeat' (first | refine tr_seq ?_ | refine tr_block ?_ | refine tr_skip ?_)
      first | refine reg (T := tab) tOk hnt rfl ?_ ?_ | refine regD (T := tab) tOk mixedR hnt rfl (by decide +kernel) ?_ ?_
      · (dsimp only [AllP]; (repeat' first | exact trivial | assumption | exact Nat.le_of_ble_eq_true rfl | apply And.intro | exact eCells_len1 _ _ ‹_› | exact eCells_isByte _ _ ‹_› | (intro hh_; have hg_ := hh_; (try simp only [condT_ff, condF_tt, notE_t, notE_f, Bool.and_eq_true, ne_eq, decide_eq_true_eq, decide_eq_false_iff_not] at hg_)) | intro _ | exact rfl | omega))
        all_goals trace_state
      repeat' (first | refine tr_seq ?_ | refine tr_block ?_ | refine tr_skip ?_)
      refine tr_cond rfl (fun hc => ?_) (fun hc => ?_)
      · simp only [condT_tt, condT_ff, condF_tt, condF_ff, notE_t, notE_f, decide_eq_true_eq, decide_eq_false_iff_not] at hc
        (try simp only [f1] at hc)
        (try simp only [condT_tt, condT_ff, condF_tt, condF_ff, notE_t, notE_f, decide_eq_true_eq, decide_eq_false_iff_not] at hc)
        rw [if_pos (by omega)] at hJ
        rw [hCF hJ.symm]
        repeat' (first | refine tr_seq ?_ | refine reg (T := tab) tOk hnt rfl ?_ ?_ | refine regD (T := tab) tOk mixedR hnt rfl (by decide +kernel) ?_ ?_ | refine tr_block ?_ | refine tr_skip ?_)
        · (dsimp only [AllP]; (repeat' first | exact trivial | assumption | exact Nat.le_of_ble_eq_true rfl | apply And.intro | decide | intro _ | exact rfl))
        refine tr_ret ⟨.inr rfl, _, _, rfl, by (repeat' first | exact trivial | exact Nat.le_of_ble_eq_true rfl | apply And.intro), ?_⟩
        exact rfl
      simp only [condT_tt, condT_ff, condF_tt, condF_ff, notE_t, notE_f, decide_eq_true_eq, decide_eq_false_iff_not] at hc
      (try simp only [f1] at hc)
      (try simp only [condT_tt, condT_ff, condF_tt, condF_ff, notE_t, notE_f, decide_eq_true_eq, decide_eq_false_iff_not] at hc)
      rw [if_neg (by omega)] at hJ
      repeat' (first | refine tr_seq ?_ | refine tr_block ?_ | refine tr_skip ?_)
      first | refine reg (T := tab) tOk hnt rfl ?_ ?_ | refine regD (T := tab) tOk mixedR hnt rfl (by decide +kernel) ?_ ?_
      · (dsimp only [AllP]; (repeat' first | exact trivial | assumption | exact Nat.le_of_ble_eq_true rfl | apply And.intro | exact eCells_len1 _ _ ‹_› | exact eCells_isByte _ _ ‹_› | (intro hh_; have hg_ := hh_; (try simp only [condT_ff, condF_tt, notE_t, notE_f, Bool.and_eq_true, ne_eq, decide_eq_true_eq, decide_eq_false_iff_not] at hg_)) | intro _ | exact rfl | omega))
        all_goals trace_state
      have h65 : IntKind.i64.wrap (rm - ((((List.take 3 (List.drop 0 (eNd n))).getD (0 + 0) E.dflt).xs.length : Nat) : Int)) = rm - (n.k.length : Int) := by rw [f1]; exact wrap64_id (by omega) (by omega)
      rw [h65]
      repeat' (first | refine tr_seq ?_ | refine tr_block ?_ | refine tr_skip ?_)
      first | refine reg (T := tab) tOk hnt rfl ?_ ?_ | refine regD (T := tab) tOk mixedR hnt rfl (by decide +kernel) ?_ ?_
      · (dsimp only [AllP]; (repeat' first | exact trivial | assumption | exact Nat.le_of_ble_eq_true rfl | apply And.intro | exact eCells_len1 _ _ ‹_› | exact eCells_isByte _ _ ‹_› | (intro hh_; have hg_ := hh_; (try simp only [condT_ff, condF_tt, notE_t, notE_f, Bool.and_eq_true, ne_eq, decide_eq_true_eq, decide_eq_false_iff_not] at hg_)) | intro _ | exact rfl | omega))
        all_goals trace_state
      repeat' (first | refine tr_seq ?_ | refine tr_block ?_ | refine tr_skip ?_)
      refine tr_loop (σ := Nat × Nat) (fun y => St.of [(1, .one (.ptr 1 0 0)), (4, .one (.e (eI (rm - (n.k.length : Int))))), (21, .one (.e (.sl (t.map eNd)))), (22, .one (.e (eI (((t.map eNd).length : Nat) : Int)))), (23, .one (.e (eI (i : Int)))), (38, .one (.e (.sl (eKs n.k)))), (39, .one (.e (eI (((eKs n.k).length : Nat) : Int)))), (40, .one (.e (eI (y.2 : Int))))] [(1, ⟨0, .box (.es (eTr t)), 0⟩)]) (fun y => y.1 + y.2 = n.k.length ∧ kA n.k y.1 y.2 = kA n.k n.k.length 0) (fun y => y.1) ((n.k.length, 0)) (le_of (ad := []) (by refine ⟨?_, ?_, ?_, ?_, ?_, ?_, ?_, ?_, trivial⟩ <;> first | exact trivial | rfl | exact ⟨rfl, rfl⟩ | exact ⟨rfl, rfl, rfl⟩ | exact ⟨rfl, rfl, rfl, rfl⟩ | exact ⟨rfl, rfl, rfl, rfl, rfl⟩ | exact congrArg (fun z : Int => E.v (.int .i64 z)) (wrap64_id (by omega) (by omega)) | exact congrArg (fun z : Int => E.v (.int .u8 z)) (by assumption) | exact congrArg (fun z : ByteArray => E.v (.string z)) (by assumption) | (refine ⟨rfl, ?_⟩; repeat' first | exact trivial | rfl | apply And.intro)) (memOk_box rfl rfl rfl trivial)) ⟨rfl, rfl⟩ ?_
      · rintro ⟨r, j⟩ ⟨hr, hK⟩
        dsimp only at hr hK ⊢
        have hkl := ksLen n.k
        repeat' (first | refine tr_seq ?_ | refine reg (T := tab) tOk hnt rfl ?_ ?_ | refine regD (T := tab) tOk mixedR hnt rfl (by decide +kernel) ?_ ?_ | refine tr_block ?_ | refine tr_skip ?_)
        · (dsimp only [AllP]; (repeat' first | exact trivial | assumption | exact Nat.le_of_ble_eq_true rfl | apply And.intro | decide | intro _ | exact rfl))
        repeat' (first | refine tr_seq ?_ | refine tr_block ?_ | refine tr_skip ?_)
        refine tr_cond rfl (fun hc => ?_) (fun hc => ?_)
        · simp only [condT_tt, condT_ff, condF_tt, condF_ff, notE_t, notE_f, decide_eq_true_eq, decide_eq_false_iff_not] at hc
          (try simp only [hkl] at hc)
          (try simp only [condT_tt, condT_ff, condF_tt, condF_ff, notE_t, notE_f, decide_eq_true_eq, decide_eq_false_iff_not] at hc)
          have hjl : j < n.k.length := by omega
          have hkg := ksGet n.k hjl
          obtain ⟨r, rfl⟩ : ∃ r', r = r' + 1 := ⟨r - 1, by omega⟩
          rw [kA] at hK
          generalize hky : n.k.getD j [] = ky at *
          have hks : (strB ky).size = ky.length := strB_size ky
          have hes : ([eKy ky].getD 0 E.dflt).str = strB ky := rfl
          repeat' (first | refine tr_seq ?_ | refine tr_block ?_ | refine tr_skip ?_)
          first | refine reg (T := tab) tOk hnt rfl ?_ ?_ | refine regD (T := tab) tOk mixedR hnt rfl (by decide +kernel) ?_ ?_
          · rw [Int.toNat_natCast, hkg]
            (dsimp only [AllP]; (repeat' first | exact trivial | assumption | exact Nat.le_of_ble_eq_true rfl | apply And.intro | exact eCells_len1 _ _ ‹_› | exact eCells_isByte _ _ ‹_› | (intro hh_; have hg_ := hh_; (try simp only [condT_ff, condF_tt, notE_t, notE_f, Bool.and_eq_true, ne_eq, decide_eq_true_eq, decide_eq_false_iff_not] at hg_)) | intro _ | exact rfl | omega))
            all_goals trace_state
          rw [Int.toNat_natCast, hkg]
          repeat' (first | refine tr_seq ?_ | refine reg (T := tab) tOk hnt rfl ?_ ?_ | refine regD (T := tab) tOk mixedR hnt rfl (by decide +kernel) ?_ ?_ | refine tr_block ?_ | refine tr_skip ?_)
          · (dsimp only [AllP]; (repeat' first | exact trivial | assumption | exact Nat.le_of_ble_eq_true rfl | apply And.intro | decide | intro _ | exact rfl))
          repeat' (first | refine tr_seq ?_ | refine tr_block ?_ | refine tr_skip ?_)
          refine tr_cond rfl (fun hc => ?_) (fun hc => ?_)
          · simp only [condT_tt, condT_ff, condF_tt, condF_ff, notE_t, notE_f, decide_eq_true_eq, decide_eq_false_iff_not] at hc
            (try simp only [hes, hks] at hc)
            (try simp only [condT_tt, condT_ff, condF_tt, condF_ff, notE_t, notE_f, decide_eq_true_eq, decide_eq_false_iff_not] at hc)
            rw [if_pos (by omega)] at hK
            rw [if_pos hK.symm] at hJ
            rw [hCF hJ.symm]
            repeat' (first | refine tr_seq ?_ | refine reg (T := tab) tOk hnt rfl ?_ ?_ | refine regD (T := tab) tOk mixedR hnt rfl (by decide +kernel) ?_ ?_ | refine tr_block ?_ | refine tr_skip ?_)
            · (dsimp only [AllP]; (repeat' first | exact trivial | assumption | exact Nat.le_of_ble_eq_true rfl | apply And.intro | decide | intro _ | exact rfl))
            refine tr_ret ⟨.inr rfl, _, _, rfl, by (repeat' first | exact trivial | exact Nat.le_of_ble_eq_true rfl | apply And.intro), ?_⟩
            exact rfl
          simp only [condT_tt, condT_ff, condF_tt, condF_ff, notE_t, notE_f, decide_eq_true_eq, decide_eq_false_iff_not] at hc
          (try simp only [hes, hks] at hc)
          (try simp only [condT_tt, condT_ff, condF_tt, condF_ff, notE_t, notE_f, decide_eq_true_eq, decide_eq_false_iff_not] at hc)
          rw [if_neg (by omega)] at hK
          have h64 : IntKind.i64.wrap ((j : Int) + 1) = ((j + 1 : Nat) : Int) := wrap64_id (by omega) (by omega)
          repeat' (first | refine tr_seq ?_ | refine reg (T := tab) tOk hnt rfl ?_ ?_ | refine regD (T := tab) tOk mixedR hnt rfl (by decide +kernel) ?_ ?_ | refine tr_block ?_ | refine tr_skip ?_)
          · (dsimp only [AllP]; (repeat' first | exact trivial | assumption | exact Nat.le_of_ble_eq_true rfl | apply And.intro | decide | intro _ | exact rfl))
          rw [h64]
          refine ⟨(r, j + 1), ⟨by dsimp only; omega, hK⟩, (Nat.lt_succ_self _), le_of (ad := []) (by refine ⟨?_, ?_, ?_, ?_, ?_, ?_, ?_, ?_, trivial⟩ <;> first | exact trivial | rfl | exact ⟨rfl, rfl⟩ | exact ⟨rfl, rfl, rfl⟩ | exact ⟨rfl, rfl, rfl, rfl⟩ | exact ⟨rfl, rfl, rfl, rfl, rfl⟩ | exact congrArg (fun z : Int => E.v (.int .i64 z)) (wrap64_id (by omega) (by omega)) | exact congrArg (fun z : Int => E.v (.int .u8 z)) (by assumption) | exact congrArg (fun z : ByteArray => E.v (.string z)) (by assumption) | (refine ⟨rfl, ?_⟩; repeat' first | exact trivial | rfl | apply And.intro)) (memOk_box rfl rfl rfl trivial)⟩
        simp only [condT_tt, condT_ff, condF_tt, condF_ff, notE_t, notE_f, decide_eq_true_eq, decide_eq_false_iff_not] at hc
        (try simp only [hkl] at hc)
        (try simp only [condT_tt, condT_ff, condF_tt, condF_ff, notE_t, notE_f, decide_eq_true_eq, decide_eq_false_iff_not] at hc)
        refine tr_exit ?_
        obtain rfl : r = 0 := by omega
        have hK : true = kA n.k n.k.length 0 := hK
        rw [← hK, if_neg (by decide)] at hJ
        have h64 : IntKind.i64.wrap ((i : Int) + 1) = ((i + 1 : Nat) : Int) := wrap64_id (by omega) (by omega)
        repeat' (first | refine tr_seq ?_ | refine reg (T := tab) tOk hnt rfl ?_ ?_ | refine regD (T := tab) tOk mixedR hnt rfl (by decide +kernel) ?_ ?_ | refine tr_block ?_ | refine tr_skip ?_)
        · (dsimp only [AllP]; (repeat' first | exact trivial | assumption | exact Nat.le_of_ble_eq_true rfl | apply And.intro | decide | intro _ | exact rfl))
        rw [h64]
        refine ⟨(k, i + 1, rm - (n.k.length : Int)), ⟨by dsimp only; omega, (by dsimp only; omega), hJ⟩, (Nat.lt_succ_self _), le_of (ad := []) (by refine ⟨?_, ?_, ?_, ?_, ?_, trivial⟩ <;> first | exact trivial | rfl | exact ⟨rfl, rfl⟩ | exact ⟨rfl, rfl, rfl⟩ | exact ⟨rfl, rfl, rfl, rfl⟩ | exact ⟨rfl, rfl, rfl, rfl, rfl⟩ | exact congrArg (fun z : Int => E.v (.int .i64 z)) (wrap64_id (by omega) (by omega)) | exact congrArg (fun z : Int => E.v (.int .u8 z)) (by assumption) | exact congrArg (fun z : ByteArray => E.v (.string z)) (by assumption) | (refine ⟨rfl, ?_⟩; repeat' first | exact trivial | rfl | apply And.intro)) (memOk_box rfl rfl rfl trivial)⟩
    simp only [condT_tt, condT_ff, condF_tt, condF_ff, notE_t, notE_f, decide_eq_true_eq, decide_eq_false_iff_not] at hc
    (try simp only [hl2] at hc)
    (try simp only [condT_tt, condT_ff, condF_tt, condF_ff, notE_t, notE_f, decide_eq_true_eq, decide_eq_false_iff_not] at hc)
    refine tr_exit ?_
    obtain rfl : k = 0 := by omega
    have hJ : true = rmA t t.length 0 100 := hJ
    have hrk := rmA_ok t t.length 0 100 (Int.le_refl _) hJ.symm
    have hP0 : prsF t = if t.length = 0 then ([], 0) else if lsA (inF t t.length 0 (zI t.length)).1.1 ((inF t t.length 0 (zI t.length)).1.1.length - 1) 1 (oneA (inF t t.length 0 (zI t.length)).2 t.length 0 (inF t t.length 0 (zI t.length)).1.2.2) = false then ([], 3) else ((inF t t.length 0 (zI t.length)).1.1, 0) := by
      unfold prsF
      rw [if_neg (by omega), ← hJ, if_neg (by decide)]
    repeat' (first | refine tr_seq ?_ | refine reg (T := tab) tOk hnt rfl ?_ ?_ | refine regD (T := tab) tOk mixedR hnt rfl (by decide +kernel) ?_ ?_ | refine tr_block ?_ | refine tr_skip ?_)
    · (dsimp only [AllP]; (repeat' first | exact trivial | assumption | exact Nat.le_of_ble_eq_true rfl | apply And.intro | decide | intro _ | exact rfl))
    repeat' (first | refine tr_seq ?_ | refine tr_block ?_ | refine tr_skip ?_)
    refine tr_cond rfl (fun hc => ?_) (fun hc => ?_)
    · simp only [condT_tt, condT_ff, condF_tt, condF_ff, notE_t, notE_f, decide_eq_true_eq, decide_eq_false_iff_not] at hc
      (try simp only [hl] at hc)
      (try simp only [condT_tt, condT_ff, condF_tt, condF_ff, notE_t, notE_f, decide_eq_true_eq, decide_eq_false_iff_not] at hc)
      rw [hP0, if_pos (by omega)]
      repeat' (first | refine tr_seq ?_ | refine reg (T := tab) tOk hnt rfl ?_ ?_ | refine regD (T := tab) tOk mixedR hnt rfl (by decide +kernel) ?_ ?_ | refine tr_block ?_ | refine tr_skip ?_)
      · (dsimp only [AllP]; (repeat' first | exact trivial | assumption | exact Nat.le_of_ble_eq_true rfl | apply And.intro | decide | intro _ | exact rfl))
      refine tr_ret ⟨.inr rfl, _, _, rfl, by (repeat' first | exact trivial | exact Nat.le_of_ble_eq_true rfl | apply And.intro), ?_⟩
      exact rfl
    simp only [condT_tt, condT_ff, condF_tt, condF_ff, notE_t, notE_f, decide_eq_true_eq, decide_eq_false_iff_not] at hc
    (try simp only [hl] at hc)
    (try simp only [condT_tt, condT_ff, condF_tt, condF_ff, notE_t, notE_f, decide_eq_true_eq, decide_eq_false_iff_not] at hc)
    have ht0 : 0 < t.length := by omega
    rw [if_neg (by omega)] at hP0
    rw [hP0]
    repeat' (first | refine tr_seq ?_ | refine tr_block ?_ | refine tr_skip ?_)
    first | refine reg (T := tab) tOk hnt rfl ?_ ?_ | refine regD (T := tab) tOk mixedR hnt rfl (by decide +kernel) ?_ ?_
    · (dsimp only [AllP]; (repeat' first | exact trivial | assumption | exact Nat.le_of_ble_eq_true rfl | apply And.intro | exact eCells_len1 _ _ ‹_› | exact eCells_isByte _ _ ‹_› | (intro hh_; have hg_ := hh_; (try simp only [condT_ff, condF_tt, notE_t, notE_f, Bool.and_eq_true, ne_eq, decide_eq_true_eq, decide_eq_false_iff_not] at hg_)) | intro _ | exact rfl | omega))
      all_goals trace_state
    have hzl : (eIs (zI t.length)).length = t.length := by rw [isLen]; exact List.length_replicate
    have hfl : (eIs (zI t.length)).flatten = (zI t.length).map eI := by
      unfold eIs
      generalize zI t.length = l
      induction l with
      | nil => rfl
      | cons x l ih => rw [List.map_cons, List.flatten_cons, ih]; rfl
    refine tr_le (s' := St.of [(1, .one (.ptr 1 0 0)), (9, .one (.own 56 0))] [(1, ⟨0, .box (.es (eTr t)), 0⟩), (56, ⟨0, .row 1 (eIs (zI t.length)), 0⟩)]) (le_of (ad := []) (by refine ⟨?_, ?_, trivial⟩ <;> first | exact trivial | rfl | exact ⟨rfl, rfl⟩ | exact ⟨rfl, rfl, rfl⟩ | exact ⟨rfl, rfl, rfl, rfl⟩ | exact ⟨rfl, rfl, rfl, rfl, rfl⟩ | exact congrArg (fun z : Int => E.v (.int .i64 z)) (wrap64_id (by omega) (by omega)) | exact congrArg (fun z : Int => E.v (.int .u8 z)) (by assumption) | exact congrArg (fun z : ByteArray => E.v (.string z)) (by assumption) | (refine ⟨rfl, ?_⟩; repeat' first | exact trivial | rfl | apply And.intro)) (memOk_box rfl rfl rfl (memOk_row rfl rfl (by show List.replicate (Int.toNat ((((eTr t).getD (0 + 0) E.dflt).xs.length : Nat) : Int)) [eI 0] = eIs (zI t.length); rw [Int.toNat_natCast, hl, eIs_rep]) trivial))) ?_
    refine tr_le (le_rowbox 9 rfl rfl (by rw [hzl]; exact ht0)) ?_
    rw [hzl]
    refine tr_le (s' := St.of [(1, .one (.ptr 1 0 0)), (9, .one (.bsl 56 0 0 1 t.length))] [(1, ⟨0, .box (.es (eTr t)), 0⟩), (56, ⟨0, .box (.es ((zI t.length).map eI)), 0⟩)]) (le_of (ad := []) (by refine ⟨?_, ?_, trivial⟩ <;> first | exact trivial | rfl | exact ⟨rfl, rfl⟩ | exact ⟨rfl, rfl, rfl⟩ | exact ⟨rfl, rfl, rfl, rfl⟩ | exact ⟨rfl, rfl, rfl, rfl, rfl⟩ | exact congrArg (fun z : Int => E.v (.int .i64 z)) (wrap64_id (by omega) (by omega)) | exact congrArg (fun z : Int => E.v (.int .u8 z)) (by assumption) | exact congrArg (fun z : ByteArray => E.v (.string z)) (by assumption) | (refine ⟨rfl, ?_⟩; repeat' first | exact trivial | rfl | apply And.intro)) (memOk_box rfl rfl rfl (memOk_box rfl rfl hfl trivial))) ?_
    have hz1 : s01 (zI t.length) := fun q => by
      have : (zI t.length).getD q 0 = 0 := by
        unfold zI
        rw [List.getD_eq_getElem?_getD, List.getElem?_replicate]
        split <;> rfl
      rw [this]
      decide
    have hzn : (zI t.length).length = t.length := List.length_replicate
    have hin := inner_fn t hlen (fun i hi => (hrk i (Nat.zero_le _) (by omega)).1) t.length (by omega) 0 (zI t.length) ht0 (Nat.le_refl _) hzn hz1
    obtain ⟨o1, o2⟩ := inF_ok t t.length 0 (zI t.length)
    have o3 := inF_no t t.length 0 (zI t.length)
    have o4 := inF_60 t (fun i hi => (hrk i (Nat.zero_le _) (by omega)).2) t.length 0 (zI t.length)
    have o5 : ((inF t t.length 0 (zI t.length)).1.1.length : Int) ≤ 300 := by
      cases hv : (inF t t.length 0 (zI t.length)).1.2.2 with
      | false => rw [o3 hv]; decide
      | true =>
        obtain ⟨p1, p2, _⟩ := o2 hv hzn hz1
        have q1 := s01_sum _ p1
        have q2 := s01_sum _ hz1
        rw [o1, hzn] at q1
        omega
    clear o2 o3
    rw [hzn] at o1
    generalize inF t t.length 0 (zI t.length) = x at *
    obtain ⟨⟨l, dd, ok⟩, sq⟩ := x
    dsimp only at hin o1 o4 o5 ⊢
    repeat' (first | refine tr_seq ?_ | refine tr_block ?_ | refine tr_skip ?_)
    refine tr_region (lex (T := tab) tOk hnt rfl ?_ (callH (us := []) [(900000, 56)] [] [] rfl rfl rfl rfl hin (by repeat' first | exact .nil | refine .lent rfl rfl rfl ?_ | refine .data rfl ?_) (fun _ => rfl) rfl rfl hnt rfl rfl (by repeat' first | exact trivial | rfl | apply And.intro) (shOk_I (o1.trans hzn.symm) 56) (lex (T := tab) tOk hnt rfl ?_ (Lex.nil _)))) ?_
    · (dsimp only [AllP]; (repeat' first | exact trivial | assumption | exact Nat.le_of_ble_eq_true rfl | apply And.intro | exact eCells_len1 _ _ ‹_› | exact eCells_isByte _ _ ‹_› | (intro hh_; have hg_ := hh_; (try simp only [condT_ff, condF_tt, notE_t, notE_f, Bool.and_eq_true, ne_eq, decide_eq_true_eq, decide_eq_false_iff_not] at hg_)) | intro _ | exact rfl | omega))
      all_goals trace_state
    · (dsimp only [AllP]; (repeat' first | exact trivial | assumption | exact Nat.le_of_ble_eq_true rfl | apply And.intro | exact eCells_len1 _ _ ‹_› | exact eCells_isByte _ _ ‹_› | (intro hh_; have hg_ := hh_; (try simp only [condT_ff, condF_tt, notE_t, notE_f, Bool.and_eq_true, ne_eq, decide_eq_true_eq, decide_eq_false_iff_not] at hg_)) | intro _ | exact rfl | omega))
      all_goals trace_state
    repeat' (first | refine tr_seq ?_ | refine tr_block ?_ | refine tr_skip ?_)
    first | refine reg (T := tab) tOk hnt rfl ?_ ?_ | refine regD (T := tab) tOk mixedR hnt rfl (by decide +kernel) ?_ ?_
    · (dsimp only [AllP]; (repeat' first | exact trivial | assumption | exact Nat.le_of_ble_eq_true rfl | apply And.intro | exact eCells_len1 _ _ ‹_› | exact eCells_isByte _ _ ‹_› | (intro hh_; have hg_ := hh_; (try simp only [condT_ff, condF_tt, notE_t, notE_f, Bool.and_eq_true, ne_eq, decide_eq_true_eq, decide_eq_false_iff_not] at hg_)) | intro _ | exact rfl | omega))
      all_goals trace_state
    have hll : (l.map ePr).length = l.length := List.length_map ..
    repeat' (first | refine tr_seq ?_ | refine tr_block ?_ | refine tr_skip ?_)
    refine tr_loop (σ := Nat × Nat × Bool) (fun x => St.of [(10, .one (.e (ePs l))), (12, .v (.bool x.2.2)), (64, .one (.bsl 56 0 0 1 t.length)), (65, .one (.e (eI (t.length : Int)))), (66, .one (.e (eI (x.2.1 : Int))))] [(56, ⟨0, .box (.es (sq.map eI)), 0⟩)]) (fun x => x.1 + x.2.1 = t.length ∧ oneA sq x.1 x.2.1 x.2.2 = oneA sq t.length 0 ok) (fun x => x.1) ((t.length, 0, ok)) (le_of (ad := []) (by refine ⟨?_, ?_, ?_, ?_, ?_, trivial⟩ <;> first | exact trivial | rfl | exact ⟨rfl, rfl⟩ | exact ⟨rfl, rfl, rfl⟩ | exact ⟨rfl, rfl, rfl, rfl⟩ | exact ⟨rfl, rfl, rfl, rfl, rfl⟩ | exact congrArg (fun z : Int => E.v (.int .i64 z)) (wrap64_id (by omega) (by omega)) | exact congrArg (fun z : Int => E.v (.int .u8 z)) (by assumption) | exact congrArg (fun z : ByteArray => E.v (.string z)) (by assumption) | (refine ⟨rfl, ?_⟩; repeat' first | exact trivial | rfl | apply And.intro)) (memOk_box rfl rfl rfl trivial)) ⟨rfl, rfl⟩ ?_
    · rintro ⟨k, j, b⟩ ⟨hk, hJ⟩
      dsimp only at hk hJ ⊢
      have hbl := bx_len sq
      repeat' (first | refine tr_seq ?_ | refine reg (T := tab) tOk hnt rfl ?_ ?_ | refine regD (T := tab) tOk mixedR hnt rfl (by decide +kernel) ?_ ?_ | refine tr_block ?_ | refine tr_skip ?_)
      · (dsimp only [AllP]; (repeat' first | exact trivial | assumption | exact Nat.le_of_ble_eq_true rfl | apply And.intro | decide | intro _ | exact rfl))
      repeat' (first | refine tr_seq ?_ | refine tr_block ?_ | refine tr_skip ?_)
      refine tr_cond rfl (fun hc => ?_) (fun hc => ?_)
      · simp only [condT_tt, condT_ff, condF_tt, condF_ff, notE_t, notE_f, decide_eq_true_eq, decide_eq_false_iff_not] at hc
        have hjl : j < t.length := by omega
        have hba := bx_at sq (q := j) (by omega)
        have hbg := bx_get sq (q := j) (by omega)
        have hix : 0 + Int.toNat (j : Int) * 1 = j := by rw [Int.toNat_natCast]; omega
        obtain ⟨k, rfl⟩ : ∃ k', k = k' + 1 := ⟨k - 1, by omega⟩
        rw [oneA] at hJ
        repeat' (first | refine tr_seq ?_ | refine tr_block ?_ | refine tr_skip ?_)
        first | refine reg (T := tab) tOk hnt rfl ?_ ?_ | refine regD (T := tab) tOk mixedR hnt rfl (by decide +kernel) ?_ ?_
        · simp only [hix]
          (dsimp only [AllP]; (repeat' first | exact trivial | assumption | exact Nat.le_of_ble_eq_true rfl | apply And.intro | exact eCells_len1 _ _ ‹_› | exact eCells_isByte _ _ ‹_› | (intro hh_; have hg_ := hh_; (try simp only [condT_ff, condF_tt, notE_t, notE_f, Bool.and_eq_true, ne_eq, decide_eq_true_eq, decide_eq_false_iff_not] at hg_)) | intro _ | exact rfl | omega))
          all_goals first | (rw [hbl]; omega) | (rw [hba]; exact rfl) | trace_state
        simp only [hix, hbg]
        have h64 : IntKind.i64.wrap ((j : Int) + 1) = ((j + 1 : Nat) : Int) := wrap64_id (by omega) (by omega)
        repeat' (first | refine tr_seq ?_ | refine tr_block ?_ | refine tr_skip ?_)
        first | refine reg (T := tab) tOk hnt rfl ?_ ?_ | refine regD (T := tab) tOk mixedR hnt rfl (by decide +kernel) ?_ ?_
        · (dsimp only [AllP]; (repeat' first | exact trivial | assumption | exact Nat.le_of_ble_eq_true rfl | apply And.intro | exact eCells_len1 _ _ ‹_› | exact eCells_isByte _ _ ‹_› | (intro hh_; have hg_ := hh_; (try simp only [condT_ff, condF_tt, notE_t, notE_f, Bool.and_eq_true, ne_eq, decide_eq_true_eq, decide_eq_false_iff_not] at hg_)) | intro _ | exact rfl | omega))
          all_goals trace_state
        repeat' (first | refine tr_seq ?_ | refine reg (T := tab) tOk hnt rfl ?_ ?_ | refine regD (T := tab) tOk mixedR hnt rfl (by decide +kernel) ?_ ?_ | refine tr_block ?_ | refine tr_skip ?_)
        · (dsimp only [AllP]; (repeat' first | exact trivial | assumption | exact Nat.le_of_ble_eq_true rfl | apply And.intro | decide | intro _ | exact rfl))
        rw [h64]
        refine ⟨(k, j + 1, (bif b then decide (sq.getD j 0 = 1) else false)), ⟨by dsimp only; omega, hJ⟩, (Nat.lt_succ_self _), le_of (ad := []) (by refine ⟨?_, ?_, ?_, ?_, ?_, trivial⟩ <;> first | exact trivial | rfl | exact ⟨rfl, rfl⟩ | exact ⟨rfl, rfl, rfl⟩ | exact ⟨rfl, rfl, rfl, rfl⟩ | exact ⟨rfl, rfl, rfl, rfl, rfl⟩ | exact congrArg (fun z : Int => E.v (.int .i64 z)) (wrap64_id (by omega) (by omega)) | exact congrArg (fun z : Int => E.v (.int .u8 z)) (by assumption) | exact congrArg (fun z : ByteArray => E.v (.string z)) (by assumption) | (refine ⟨rfl, ?_⟩; repeat' first | exact trivial | rfl | apply And.intro)) (memOk_box rfl rfl rfl trivial)⟩
      simp only [condT_tt, condT_ff, condF_tt, condF_ff, notE_t, notE_f, decide_eq_true_eq, decide_eq_false_iff_not] at hc
      refine tr_exit ?_
      obtain rfl : k = 0 := by omega
      have hJ : b = oneA sq t.length 0 ok := hJ
      clear hP0
      rw [← hJ]
      repeat' (first | refine tr_seq ?_ | refine reg (T := tab) tOk hnt rfl ?_ ?_ | refine regD (T := tab) tOk mixedR hnt rfl (by decide +kernel) ?_ ?_ | refine tr_block ?_ | refine tr_skip ?_)
      · (dsimp only [AllP]; (repeat' first | exact trivial | assumption | exact Nat.le_of_ble_eq_true rfl | apply And.intro | decide | intro _ | exact rfl))
      repeat' (first | refine tr_seq ?_ | refine tr_block ?_ | refine tr_skip ?_)
      refine tr_loop (σ := Nat × Nat × Bool) (fun x => St.of [(10, .one (.e (ePs l))), (12, .v (.bool x.2.2)), (15, .one (.e (eI (x.2.1 : Int))))] []) (fun x => (x.1 + x.2.1 = l.length ∨ (x.1 = 0 ∧ l.length = 0)) ∧ 1 ≤ x.2.1 ∧ lsA l x.1 x.2.1 x.2.2 = lsA l (l.length - 1) 1 b) (fun x => x.1) ((l.length - 1, 1, b)) (le_of (ad := []) (by refine ⟨?_, ?_, ?_, trivial⟩ <;> first | exact trivial | rfl | exact ⟨rfl, rfl⟩ | exact ⟨rfl, rfl, rfl⟩ | exact ⟨rfl, rfl, rfl, rfl⟩ | exact ⟨rfl, rfl, rfl, rfl, rfl⟩ | exact congrArg (fun z : Int => E.v (.int .i64 z)) (wrap64_id (by omega) (by omega)) | exact congrArg (fun z : Int => E.v (.int .u8 z)) (by assumption) | exact congrArg (fun z : ByteArray => E.v (.string z)) (by assumption) | (refine ⟨rfl, ?_⟩; repeat' first | exact trivial | rfl | apply And.intro)) trivial) ⟨by dsimp only; omega, Nat.le_refl _, rfl⟩ ?_
      · rintro ⟨r, i, c⟩ ⟨hr, hi1, hK⟩
        dsimp only at hr hi1 hK ⊢
        repeat' (first | refine tr_seq ?_ | refine reg (T := tab) tOk hnt rfl ?_ ?_ | refine regD (T := tab) tOk mixedR hnt rfl (by decide +kernel) ?_ ?_ | refine tr_block ?_ | refine tr_skip ?_)
        · (dsimp only [AllP]; (repeat' first | exact trivial | assumption | exact Nat.le_of_ble_eq_true rfl | apply And.intro | decide | intro _ | exact rfl))
        repeat' (first | refine tr_seq ?_ | refine tr_block ?_ | refine tr_skip ?_)
        refine tr_cond rfl (fun hc => ?_) (fun hc => ?_)
        · simp only [condT_tt, condT_ff, condF_tt, condF_ff, notE_t, notE_f, decide_eq_true_eq, decide_eq_false_iff_not] at hc
          (try simp only [hll] at hc)
          (try simp only [condT_tt, condT_ff, condF_tt, condF_ff, notE_t, notE_f, decide_eq_true_eq, decide_eq_false_iff_not] at hc)
          have hil : i < l.length := by omega
          obtain ⟨r, rfl⟩ : ∃ r', r = r' + 1 := ⟨r - 1, by omega⟩
          rw [lsA] at hK
          have hw1 : IntKind.i64.wrap ((i : Int) - 1) = ((i - 1 : Nat) : Int) := (wrap64_id (by omega) (by omega)).trans (by omega)
          have hgp : ∀ q, q < l.length → (l.map ePr).getD q [] = ePr (l.getD q pr0) := fun q h => by
            rw [List.getD_eq_getElem?_getD, List.getElem?_map, List.getElem?_eq_getElem h, List.getD_eq_getElem?_getD, List.getElem?_eq_getElem h]
            rfl
          have hg1 := hgp (i - 1) (by omega)
          have hg2 := hgp i hil
          have hin60 : ∀ q, q < l.length → (l.getD q pr0).1.length ≤ maxLen := fun q h => by
            have := o4 (l.getD q pr0) (by rw [List.getD_eq_getElem?_getD, List.getElem?_eq_getElem h]; exact List.getElem_mem h)
            unfold maxLen
            omega
          have hbo := bytesOrder_fn (l.getD (i - 1) pr0).1 (l.getD i pr0).1 (hin60 _ (by omega)) (hin60 _ hil)
          have z1 : eT (l.getD (i - 1) pr0).1 = E.v (.string ((List.drop 0 ((l.map ePr).getD (Int.toNat (IntKind.i64.wrap ((i : Int) - 1))) [])).getD 0 E.dflt).str) := by rw [hw1, Int.toNat_natCast, hg1]; rfl
          have z2 : eT (l.getD i pr0).1 = E.v (.string ((List.drop 0 ((l.map ePr).getD (Int.toNat (i : Int)) [])).getD 0 E.dflt).str) := by rw [Int.toNat_natCast, hg2]; rfl
          rw [z1, z2] at hbo
          repeat' (first | refine tr_seq ?_ | refine tr_block ?_ | refine tr_skip ?_)
          refine tr_draw (T := tab) tOk hnt mixedR (lexD (T := tab) rfl ?_ (callGD rfl rfl rfl rfl rfl rfl rfl rfl (fun hq => ?_) (fun hq => hbo) (lexD (T := tab) rfl ?_ (.nil _)))) (by decide +kernel) ?_
          · simp only [hw1, Int.toNat_natCast, hg1, hg2]
            (dsimp only [AllP]; (repeat' first | exact trivial | assumption | exact Nat.le_of_ble_eq_true rfl | apply And.intro | exact eCells_len1 _ _ ‹_› | exact eCells_isByte _ _ ‹_› | (intro hh_; have hg_ := hh_; (try simp only [condT_ff, condF_tt, notE_t, notE_f, Bool.and_eq_true, ne_eq, decide_eq_true_eq, decide_eq_false_iff_not] at hg_)) | intro _ | exact rfl | omega))
            all_goals trace_state
          · (dsimp only [AllP]; (repeat' first | exact trivial | assumption | exact Nat.le_of_ble_eq_true rfl | apply And.intro | exact eCells_len1 _ _ ‹_› | exact eCells_isByte _ _ ‹_› | (intro hh_; have hg_ := hh_; (try simp only [condT_ff, condF_tt, notE_t, notE_f, Bool.and_eq_true, ne_eq, decide_eq_true_eq, decide_eq_false_iff_not] at hg_)) | intro _ | exact rfl | omega))
            all_goals trace_state
          · (dsimp only [AllP]; (repeat' first | exact trivial | assumption | exact Nat.le_of_ble_eq_true rfl | apply And.intro | exact eCells_len1 _ _ ‹_› | exact eCells_isByte _ _ ‹_› | (intro hh_; have hg_ := hh_; (try simp only [condT_ff, condF_tt, notE_t, notE_f, Bool.and_eq_true, ne_eq, decide_eq_true_eq, decide_eq_false_iff_not] at hg_)) | intro _ | exact rfl | omega))
            all_goals trace_state
          have h64 : IntKind.i64.wrap ((i : Int) + 1) = ((i + 1 : Nat) : Int) := wrap64_id (by omega) (by omega)
          repeat' (first | refine tr_seq ?_ | refine reg (T := tab) tOk hnt rfl ?_ ?_ | refine regD (T := tab) tOk mixedR hnt rfl (by decide +kernel) ?_ ?_ | refine tr_block ?_ | refine tr_skip ?_)
          · (dsimp only [AllP]; (repeat' first | exact trivial | assumption | exact Nat.le_of_ble_eq_true rfl | apply And.intro | decide | intro _ | exact rfl))
          rw [h64]
          refine ⟨(r, i + 1, (bif c then decide (cmpT (l.getD (i - 1) pr0).1 (l.getD i pr0).1 < 0) else false)), ⟨by dsimp only; omega, (by dsimp only; omega), hK⟩, (Nat.lt_succ_self _), le_of (ad := []) (by refine ⟨?_, ?_, ?_, trivial⟩ <;> first | exact trivial | rfl | exact ⟨rfl, rfl⟩ | exact ⟨rfl, rfl, rfl⟩ | exact ⟨rfl, rfl, rfl, rfl⟩ | exact ⟨rfl, rfl, rfl, rfl, rfl⟩ | exact congrArg (fun z : Int => E.v (.int .i64 z)) (wrap64_id (by omega) (by omega)) | exact congrArg (fun z : Int => E.v (.int .u8 z)) (by assumption) | exact congrArg (fun z : ByteArray => E.v (.string z)) (by assumption) | (refine ⟨rfl, ?_⟩; repeat' first | exact trivial | rfl | apply And.intro)) trivial⟩
        simp only [condT_tt, condT_ff, condF_tt, condF_ff, notE_t, notE_f, decide_eq_true_eq, decide_eq_false_iff_not] at hc
        (try simp only [hll] at hc)
        (try simp only [condT_tt, condT_ff, condF_tt, condF_ff, notE_t, notE_f, decide_eq_true_eq, decide_eq_false_iff_not] at hc)
        refine tr_exit ?_
        have hr0 : r = 0 := by omega
        subst hr0
        have hK : c = lsA l (l.length - 1) 1 b := hK
        rw [← hK]
        cases c with
        | false =>
          repeat' (first | refine tr_seq ?_ | refine reg (T := tab) tOk hnt rfl ?_ ?_ | refine regD (T := tab) tOk mixedR hnt rfl (by decide +kernel) ?_ ?_ | refine tr_block ?_ | refine tr_skip ?_)
          · (dsimp only [AllP]; (repeat' first | exact trivial | assumption | exact Nat.le_of_ble_eq_true rfl | apply And.intro | decide | intro _ | exact rfl))
          repeat' (first | refine tr_seq ?_ | refine tr_block ?_ | refine tr_skip ?_)
          refine tr_cond rfl (fun hc => ?_) (fun hc => ?_)
          · repeat' (first | refine tr_seq ?_ | refine reg (T := tab) tOk hnt rfl ?_ ?_ | refine regD (T := tab) tOk mixedR hnt rfl (by decide +kernel) ?_ ?_ | refine tr_block ?_ | refine tr_skip ?_)
            · (dsimp only [AllP]; (repeat' first | exact trivial | assumption | exact Nat.le_of_ble_eq_true rfl | apply And.intro | decide | intro _ | exact rfl))
            refine tr_ret ⟨.inr rfl, _, _, rfl, by (repeat' first | exact trivial | exact Nat.le_of_ble_eq_true rfl | apply And.intro), ?_⟩
            exact rfl
          exact absurd hc (by decide)
        | true =>
          repeat' (first | refine tr_seq ?_ | refine reg (T := tab) tOk hnt rfl ?_ ?_ | refine regD (T := tab) tOk mixedR hnt rfl (by decide +kernel) ?_ ?_ | refine tr_block ?_ | refine tr_skip ?_)
          · (dsimp only [AllP]; (repeat' first | exact trivial | assumption | exact Nat.le_of_ble_eq_true rfl | apply And.intro | decide | intro _ | exact rfl))
          repeat' (first | refine tr_seq ?_ | refine tr_block ?_ | refine tr_skip ?_)
          refine tr_cond rfl (fun hc => ?_) (fun hc => ?_)
          · exact absurd hc (by decide)
          repeat' (first | refine tr_seq ?_ | refine reg (T := tab) tOk hnt rfl ?_ ?_ | refine regD (T := tab) tOk mixedR hnt rfl (by decide +kernel) ?_ ?_ | refine tr_block ?_ | refine tr_skip ?_)
          · (dsimp only [AllP]; (repeat' first | exact trivial | assumption | exact Nat.le_of_ble_eq_true rfl | apply And.intro | decide | intro _ | exact rfl))
          refine tr_ret ⟨.inr rfl, _, _, rfl, by (repeat' first | exact trivial | exact Nat.le_of_ble_eq_true rfl | apply And.intro), ?_⟩
          exact rfl
end Go.Proofs.YtphaholcndhonaaDoor.Tr
