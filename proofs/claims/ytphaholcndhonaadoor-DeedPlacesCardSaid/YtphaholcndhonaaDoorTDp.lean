/- A table's place among its owner's: who has a right. No condition. -/
import Derived.Test.YtphaholcndhonaaDoorTDd4
namespace Go.Proofs.YtphaholcndhonaaDoor
open Go Go.RowKit Go.Proofs.YtphaholcndhonaaDoor.Ab
set_option linter.unusedSimpArgs false
set_option linter.unusedVariables false

def hsP (u o r : Int) (g : Gr) : Bool := bif (bif decide (g.2.1 = u) then decide (g.2.2.1 = o) else false) then decide (g.2.2.2.1 = r) else false
def hsF (l : List Gr) (u o r : Int) : Bool := decide (ownF o = u) || l.any (hsP u o r)
theorem anyTk {α : Type} (p : α → Bool) (l : List α) (d : α) {k : Nat} (h : k < l.length) : (l.take (k + 1)).any p = ((l.take k).any p || p (l.getD k d)) := by
  rw [List.take_add_one, List.any_append]
  simp [List.getD, h]
theorem hs_end {n : Nat} {a b : Bool} (h : decide (0 < n) = a) : (bif decide (0 < (n : Int)) then true else b) = (b || a) := by
  subst h
  by_cases h : 0 < n
  · rw [decide_eq_true h, decide_eq_true (by omega : 0 < (n : Int))]; simp
  · rw [decide_eq_false h, decide_eq_false (by omega : ¬ 0 < (n : Int))]; simp

set_option maxRecDepth 10000 in
theorem hs_fn (l : List Gr) (u o r : Int) (hb : l.length ≤ (1000000 + 0)) : FnD Tryd.prog 156 [.one (.e (eGrs l)), .v (.int .i64 u), .v (.int .i64 o), .v (.int .i64 r)] (.v (.bool (hsF l u o r))) := by
  refine fn_intro (T := tab) tOk Tryd.func156 rfl (by kernel_rfl) (by simp [Tryd.ntmps156]) ?_
  intro X hX
  have hnt : X.nt = 45 := hX
  clear hX
  repeat' (first | refine tr_seq ?_ | refine reg (T := tab) tOk hnt rfl ?_ ?_ | refine tr_block ?_)
  all_goals (try ((dsimp only [AllP]; (repeat' first | exact trivial | assumption | exact Nat.le_of_ble_eq_true rfl | apply And.intro | intro _ | exact rfl)); done))
  refine tr_loop (σ := Nat × Nat) (fun x => St.of [(0, .one (.e (eGrs l))), (1, .v (.int .i64 u)), (2, .v (.int .i64 o)), (3, .v (.int .i64 r)), (9, .v (.int .i64 x.2)), (12, .one (.e (eGrs l))), (13, .v (.int .i64 l.length)), (14, .v (.int .i64 x.1))] [])
    (fun x => x.1 ≤ l.length ∧ x.2 ≤ x.1 ∧ decide (0 < x.2) = (l.take x.1).any (hsP u o r)) (fun x => l.length - x.1) (0, 0) (le_of (ad := []) ⟨rfl, rfl, rfl, rfl, rfl, rfl, congrArg (fun z : Nat => E.v (.int .i64 (z : Int))) (List.length_map ..), rfl, trivial⟩ trivial) ⟨Nat.zero_le _, Nat.le_refl _, rfl⟩ ?_
  rintro ⟨k, n⟩ ⟨j1, j2, j3⟩
  dsimp only at j1 j2 j3 ⊢
  refine tr_seq (reg (T := tab) tOk hnt rfl (by exact rfl) ?_)
  refine tr_seq (tr_cond rfl (fun hk => ?_) (fun hk => ?_))
  · refine tr_skip ?_
    have hk := of_decide_eq_true hk
    have hk : k < l.length := by omega
    refine tr_seq (tr_block ?_)
    have hlen : ((List.map eGr l).getD k []).length = 5 := by rw [grGet l hk]; rfl
    refine tr_seq (reg (T := tab) tOk hnt rfl ?_ ?_)
    · rw [Int.toNat_natCast]
      refine ⟨⟨?_, Nat.le_of_ble_eq_true rfl, Nat.zero_le _⟩, trivial, ?_, Int.natCast_nonneg _, ?_, hlen⟩
      · show (List.take 5 (List.drop 0 ((List.map eGr l).getD k []))).length = 5
        rw [List.length_take, List.length_drop, hlen]
        rfl
      · show 0 + 5 ≤ ((List.map eGr l).getD k []).length
        omega
      · rw [List.length_map]
        omega
    rw [box_store]
    rotate_left
    · exact hlen
    · rfl
    rw [Int.toNat_natCast, grGet l hk]
    have hany := anyTk (hsP u o r) l gz hk
    generalize l.getD k gz = g at hany ⊢
    obtain ⟨gf, gt, go, gr, gp, ⟨⟩⟩ := g
    repeat' (first | refine tr_seq ?_ | refine reg (T := tab) tOk hnt rfl ?_ ?_ | refine tr_block ?_)
    · (dsimp only [AllP]; (repeat' first | exact trivial | assumption | exact Nat.le_of_ble_eq_true rfl | apply And.intro | intro _ | exact rfl))
    refine tr_cond rfl (fun hc => ?_) (fun hc => ?_)
    · have hc : hsP u o r (gf, gt, go, gr, gp, ()) = true := hc
      repeat' (first | refine tr_seq ?_ | refine reg (T := tab) tOk hnt rfl ?_ ?_ | refine tr_skip ?_)
      all_goals (try ((dsimp only [AllP]; (repeat' first | exact trivial | assumption | exact Nat.le_of_ble_eq_true rfl | apply And.intro | intro _ | exact rfl)); done))
      refine ⟨(k + 1, n + 1), ⟨hk, by dsimp only; omega, ?_⟩, by dsimp only; omega, le_of (ad := []) ⟨rfl, rfl, rfl, rfl, ?_, rfl, rfl, ?_, trivial⟩ trivial⟩
      · dsimp only
        rw [hany, hc]
        simp
      · exact congrArg (fun z : Int => E.v (.int .i64 z)) (wrap64_id (by omega) (by omega))
      · exact congrArg (fun z : Int => E.v (.int .i64 z)) (wrap64_id (by omega) (by omega))
    · have hc : hsP u o r (gf, gt, go, gr, gp, ()) = false := hc
      repeat' (first | refine tr_seq ?_ | refine reg (T := tab) tOk hnt rfl ?_ ?_ | refine tr_skip ?_)
      all_goals (try ((dsimp only [AllP]; (repeat' first | exact trivial | assumption | exact Nat.le_of_ble_eq_true rfl | apply And.intro | intro _ | exact rfl)); done))
      refine ⟨(k + 1, n), ⟨hk, by dsimp only; omega, ?_⟩, by dsimp only; omega, le_of (ad := []) ⟨rfl, rfl, rfl, rfl, rfl, rfl, rfl, ?_, trivial⟩ trivial⟩
      · dsimp only
        rw [hany, hc, j3]
        simp
      · exact congrArg (fun z : Int => E.v (.int .i64 z)) (wrap64_id (by omega) (by omega))
  have hk := of_decide_eq_false hk
  have hk : k = l.length := by omega
  subst hk
  rw [List.take_length] at j3
  refine tr_exit ?_
  repeat' (first | refine tr_seq ?_ | refine tr_block ?_ | refine tr_skip ?_)
  refine tr_region (lex (T := tab) tOk hnt rfl ?_ (callG rfl rfl rfl rfl rfl rfl hnt rfl (fun hq => ?_) (fun _ => Owner_fn _) (lex (T := tab) tOk hnt rfl ?_ (Lex.nil _)))) ?_
  · (dsimp only [AllP]; (repeat' first | exact trivial | assumption | exact Nat.le_of_ble_eq_true rfl | apply And.intro | intro _ | exact rfl))
  · exact hq
  · (dsimp only [AllP]; (repeat' first | exact trivial | assumption | exact Nat.le_of_ble_eq_true rfl | apply And.intro | intro _ | exact rfl))
  refine tr_ret ⟨.inr rfl, _, _, rfl, by trivial, ?_⟩
  exact congrArg (fun z : Bool => D.v (.bool z)) (hs_end (b := decide (ownF o = u)) j3)



/-- a grant to a user on some drawer of a table -/
def gtP (u o p : Nat) (user : Int) (g : Gr) : Bool := decide (g.to = user) && decide (g.ob.tdiv 2 = ((o * 2 + p : Nat) : Int))
def anyR (l : List Gr) (user : Int) (u p : Nat) : Bool := decide ((u : Int) = user) || l.any (gtP u u p user)
theorem gfL_b : ∀ {l : List Gr} {last : Int}, gfL l last = 0 → ∀ g ∈ l, boundsF g = 0
  | [], _, _, g, hg => absurd hg List.not_mem_nil
  | x :: r, last, h, g, hg => by
    rw [gfL] at h
    split at h
    · contradiction
    · rename_i h1
      split at h
      · exact absurd h (by decide)
      · rcases List.mem_cons.1 hg with rfl | hg
        · exact Classical.not_not.1 h1
        · exact gfL_b h g hg
theorem gfault_r {l : List Gr} (h : gfaultF l = 0) : ∀ g ∈ l, g.rt = 1 ∨ g.rt = 2 := by
  intro g hg
  have hb : boundsF g = 0 := by
    unfold gfaultF at h
    split at h
    · exact absurd h (by decide)
    · split at h
      · contradiction
      · rename_i h2
        exact gfL_b (Classical.not_not.1 h2) g hg
  unfold boundsF at hb
  split at hb
  · cases hb
  · split at hb
    · cases hb
    · rename_i h2
      omega
/-- the drawers and rights that are looked through -/
def pairs4 : List (Nat × Nat) := [(0, 1), (0, 2), (1, 1), (1, 2)]
def anyH (l : List Gr) (user : Int) (u p : Nat) : List (Nat × Nat) → Bool
  | [] => false
  | x :: r => hsF l user ((u * 4 + p * 2 + x.1 : Nat) : Int) (x.2 : Int) || anyH l user u p r
theorem own4 {u p d : Nat} (hu : u < 3) (hp : p < 2) (hd : d < 2) : ownF ((u * 4 + p * 2 + d : Nat) : Int) = (u : Int) := by
  unfold ownF
  rw [show ((u * 4 + p * 2 + d : Nat) : Int).tdiv 4 = (((u * 4 + p * 2 + d) / 4 : Nat) : Int) from rfl, wrap64_id (by omega) (by omega)]
  omega
theorem anyH_eq {l : List Gr} (hl : ∀ g ∈ l, g.ok) (hr : ∀ g ∈ l, g.rt = 1 ∨ g.rt = 2) (user : Int) {u p : Nat} (hu : u < 3) (hp : p < 2) : anyH l user u p pairs4 = anyR l user u p := by
  unfold pairs4 anyR
  simp only [anyH, hsF, own4 hu hp (by decide : 0 < 2), own4 hu hp (by decide : 1 < 2), Bool.or_false]
  cases hd : decide ((u : Int) = user) with
  | true => simp
  | false =>
    simp only [Bool.false_or]
    rw [Bool.eq_iff_iff]
    simp only [Bool.or_eq_true, List.any_eq_true]
    have key : ∀ g ∈ l, ∀ d r : Nat, hsP user ((u * 4 + p * 2 + d : Nat) : Int) (r : Int) g = true ↔ (g.to = user ∧ g.ob = ((u * 4 + p * 2 + d : Nat) : Int) ∧ g.rt = (r : Int)) := by
      intro g _ d r
      unfold hsP
      by_cases h1 : g.2.1 = user <;> by_cases h2 : g.2.2.1 = ((u * 4 + p * 2 + d : Nat) : Int) <;> by_cases h3 : g.2.2.2.1 = (r : Int) <;> simp [h1, h2, h3]
    have k2 : ∀ g ∈ l, gtP u u p user g = true ↔ (g.to = user ∧ (g.ob = ((u * 4 + p * 2 + 0 : Nat) : Int) ∨ g.ob = ((u * 4 + p * 2 + 1 : Nat) : Int))) := by
      intro g hg
      obtain ⟨_, _, h1, h2⟩ := hl g hg
      unfold gtP
      rw [Bool.and_eq_true, decide_eq_true_eq, decide_eq_true_eq]
      have h1 : 0 ≤ g.ob := h1
      obtain ⟨q, hq⟩ := Int.eq_ofNat_of_zero_le h1
      rw [hq, show (q : Int).tdiv 2 = ((q / 2 : Nat) : Int) from rfl]
      constructor
      · rintro ⟨a, b⟩
        exact ⟨a, by omega⟩
      · rintro ⟨a, b⟩
        exact ⟨a, by omega⟩
    constructor
    · rintro (⟨g, hg, h⟩ | ⟨g, hg, h⟩ | ⟨g, hg, h⟩ | ⟨g, hg, h⟩)
      · have h := (key g hg 0 1).1 h; exact ⟨g, hg, (k2 g hg).2 ⟨h.1, .inl h.2.1⟩⟩
      · have h := (key g hg 0 2).1 h; exact ⟨g, hg, (k2 g hg).2 ⟨h.1, .inl h.2.1⟩⟩
      · have h := (key g hg 1 1).1 h; exact ⟨g, hg, (k2 g hg).2 ⟨h.1, .inr h.2.1⟩⟩
      · have h := (key g hg 1 2).1 h; exact ⟨g, hg, (k2 g hg).2 ⟨h.1, .inr h.2.1⟩⟩
    · rintro ⟨g, hg, h⟩
      obtain ⟨h1, h2⟩ := (k2 g hg).1 h
      rcases h2 with h2 | h2
      · rcases hr g hg with h3 | h3
        · exact .inl ⟨g, hg, (key g hg 0 1).2 ⟨h1, h2, h3⟩⟩
        · exact .inr (.inl ⟨g, hg, (key g hg 0 2).2 ⟨h1, h2, h3⟩⟩)
      · rcases hr g hg with h3 | h3
        · exact .inr (.inr (.inl ⟨g, hg, (key g hg 1 1).2 ⟨h1, h2, h3⟩⟩))
        · exact .inr (.inr (.inr ⟨g, hg, (key g hg 1 2).2 ⟨h1, h2, h3⟩⟩))
set_option maxRecDepth 10000 in
set_option maxHeartbeats 2000000 in
theorem objectOf_fn (u p d : Nat) (hu : u < 3) (hp : p < 2) (hd : d < 2) : FnD Tryd.prog 157 [.one (.e (eI (u : Int))), .one (.e (eI (p : Int))), .one (.e (eI (d : Int)))] (.one (.e (eI ((u * 4 + p * 2 + d : Nat) : Int)))) := by
  refine fn_intro (T := tab) tOk Tryd.func157 rfl (by kernel_rfl) (by simp [Tryd.ntmps157]) ?_
  intro X hX
  have hnt : X.nt = 15 := hX
  clear hX
  repeat' (first | refine tr_seq ?_ | refine reg (T := tab) tOk hnt rfl ?_ ?_ | refine regD (T := tab) tOk mixedR hnt rfl (by first | decide +kernel | kernel_rfl) ?_ ?_ | refine tr_block ?_ | refine tr_skip ?_)
  · (dsimp only [AllP]; (repeat' first | exact trivial | assumption | exact Nat.le_of_ble_eq_true rfl | apply And.intro | decide | intro _ | exact rfl))
  · (dsimp only [AllP]; (repeat' first | exact trivial | assumption | exact Nat.le_of_ble_eq_true rfl | apply And.intro | decide | intro _ | exact rfl))
  refine tr_ret ⟨.inr rfl, _, _, rfl, trivial, ?_⟩
  refine congrArg (fun z : Int => D.v (.int .i64 z)) ?_
  rw [wrap64_id (n := (u : Int) * 2) (by omega) (by omega), wrap64_id (n := (u : Int) * 2 * 2) (by omega) (by omega), wrap64_id (n := (p : Int) * 2) (by omega) (by omega), wrap64_id (n := (u : Int) * 2 * 2 + (p : Int) * 2) (by omega) (by omega), wrap64_id (by omega) (by omega)]
  omega
set_option maxRecDepth 10000 in
set_option maxHeartbeats 2000000 in
theorem anyRight_fn (s : Sta) (h : s.ok) (hg : gfaultF s.g = 0) (user : Int) (u p : Nat) (hu : u < 3) (hp : p < 2) : FnD Tryd.prog 125 [.agg (.es (eSta s)), .one (.e (eI user)), .one (.e (eI (u : Int))), .one (.e (eI (p : Int)))] (.v (.bool (anyR s.g user u p))) := by
  refine fn_intro (T := tab) tOk Tryd.func125 rfl (by kernel_rfl) (by simp [Tryd.ntmps125]) ?_
  intro X hX
  have hnt : X.nt = 28 := hX
  clear hX
  obtain ⟨gl, gok⟩ := gfault_ok hg
  rw [← anyH_eq gok (gfault_r hg) user hu hp]
  have h118 := staLen h
  have hG := staG h
  have n114 : 0 + 114 < (Cs.es (eSta s)).len := by show _ < (eSta s).length; omega
  have hGa : D0.isA (K.slice 127) ((Cs.es (eSta s)).at (0 + 114)) := by
    show E.as (K.slice 127) ((eSta s).getD (0 + 114) E.dflt) = _
    rw [hG]
    rfl
  repeat' (first | refine tr_seq ?_ | refine tr_block ?_ | refine tr_skip ?_)
  first | refine reg (T := tab) tOk hnt rfl ?_ ?_ | refine regD (T := tab) tOk mixedR hnt rfl (by first | decide +kernel | kernel_rfl) ?_ ?_
  · (dsimp only [AllP]; (repeat' first | exact trivial | assumption | exact Nat.le_of_ble_eq_true rfl | apply And.intro | exact eCells_len1 _ _ ‹_› | exact eCells_isByte _ _ ‹_› | (intro hh_; have hg_ := hh_; (try simp only [condT_ff, condF_tt, notE_t, notE_f, Bool.and_eq_true, ne_eq, decide_eq_true_eq, decide_eq_false_iff_not] at hg_)) | intro _ | exact rfl | omega))
  repeat' (first | refine tr_seq ?_ | refine tr_block ?_ | refine tr_skip ?_)
  first | refine reg (T := tab) tOk hnt rfl ?_ ?_ | refine regD (T := tab) tOk mixedR hnt rfl (by first | decide +kernel | kernel_rfl) ?_ ?_
  · (dsimp only [AllP]; (repeat' first | exact trivial | assumption | exact Nat.le_of_ble_eq_true rfl | apply And.intro | exact eCells_len1 _ _ ‹_› | exact eCells_isByte _ _ ‹_› | (intro hh_; have hg_ := hh_; (try simp only [condT_ff, condF_tt, notE_t, notE_f, Bool.and_eq_true, ne_eq, decide_eq_true_eq, decide_eq_false_iff_not] at hg_)) | intro _ | exact rfl | omega))
  repeat' (first | refine tr_seq ?_ | refine tr_block ?_ | refine tr_skip ?_)
  refine tr_loop (σ := Nat) (fun d => St.of [(1, .one (.e (eI user))), (2, .one (.e (eI (u : Int)))), (3, .one (.e (eI (p : Int)))), (4, .one (.ptr 4 0 0)), (9, .one (.e (eI (d : Int))))] [(4, ⟨0, .box (.es (eSta s)), 0⟩)]) (fun d => anyH s.g user u p (pairs4.drop (d * 2)) = anyH s.g user u p pairs4 ∧ d ≤ 2) (fun d => 2 - d) (0) (le_of (ad := []) (by refine ⟨?_, ?_, ?_, ?_, ?_, trivial⟩ <;> first | exact trivial | rfl | exact ⟨rfl, rfl⟩ | exact ⟨rfl, rfl, rfl⟩ | exact ⟨rfl, rfl, rfl, rfl⟩ | exact ⟨rfl, rfl, rfl, rfl, rfl⟩ | exact congrArg (fun z : Int => E.v (.int .i64 z)) (wrap64_id (by omega) (by omega)) | exact congrArg (fun z : Int => E.v (.int .u8 z)) (by assumption) | exact congrArg (fun z : ByteArray => E.v (.string z)) (by assumption) | (refine ⟨rfl, ?_⟩; repeat' first | exact trivial | rfl | apply And.intro)) (memOk_box rfl rfl rfl trivial)) ⟨rfl, Nat.zero_le _⟩ ?_
  rintro d ⟨hd, dl⟩
  repeat' (first | refine tr_seq ?_ | refine reg (T := tab) tOk hnt rfl ?_ ?_ | refine regD (T := tab) tOk mixedR hnt rfl (by first | decide +kernel | kernel_rfl) ?_ ?_ | refine tr_block ?_ | refine tr_skip ?_)
  · (dsimp only [AllP]; (repeat' first | exact trivial | assumption | exact Nat.le_of_ble_eq_true rfl | apply And.intro | decide | intro _ | exact rfl))
  repeat' (first | refine tr_seq ?_ | refine tr_block ?_ | refine tr_skip ?_)
  refine tr_cond rfl (fun hc => ?_) (fun hc => ?_)
  · simp only [condT_tt, condT_ff, condF_tt, condF_ff, notE_t, notE_f, decide_eq_true_eq, decide_eq_false_iff_not] at hc
    repeat' (first | refine tr_seq ?_ | refine tr_block ?_ | refine tr_skip ?_)
    first | refine reg (T := tab) tOk hnt rfl ?_ ?_ | refine regD (T := tab) tOk mixedR hnt rfl (by first | decide +kernel | kernel_rfl) ?_ ?_
    · (dsimp only [AllP]; (repeat' first | exact trivial | assumption | exact Nat.le_of_ble_eq_true rfl | apply And.intro | exact eCells_len1 _ _ ‹_› | exact eCells_isByte _ _ ‹_› | (intro hh_; have hg_ := hh_; (try simp only [condT_ff, condF_tt, notE_t, notE_f, Bool.and_eq_true, ne_eq, decide_eq_true_eq, decide_eq_false_iff_not] at hg_)) | intro _ | exact rfl | omega))
    repeat' (first | refine tr_seq ?_ | refine tr_block ?_ | refine tr_skip ?_)
    refine tr_loop (σ := Nat) (fun r => St.of [(1, .one (.e (eI user))), (2, .one (.e (eI (u : Int)))), (3, .one (.e (eI (p : Int)))), (4, .one (.ptr 4 0 0)), (9, .one (.e (eI (d : Int)))), (10, .one (.e (eI ((r + 1 : Nat) : Int))))] [(4, ⟨0, .box (.es (eSta s)), 0⟩)]) (fun r => anyH s.g user u p (pairs4.drop (d * 2 + r)) = anyH s.g user u p pairs4 ∧ r ≤ 2) (fun r => 2 - r) (0) (le_of (ad := []) (by refine ⟨?_, ?_, ?_, ?_, ?_, ?_, trivial⟩ <;> first | exact trivial | rfl | exact ⟨rfl, rfl⟩ | exact ⟨rfl, rfl, rfl⟩ | exact ⟨rfl, rfl, rfl, rfl⟩ | exact ⟨rfl, rfl, rfl, rfl, rfl⟩ | exact congrArg (fun z : Int => E.v (.int .i64 z)) (wrap64_id (by omega) (by omega)) | exact congrArg (fun z : Int => E.v (.int .u8 z)) (by assumption) | exact congrArg (fun z : ByteArray => E.v (.string z)) (by assumption) | (refine ⟨rfl, ?_⟩; repeat' first | exact trivial | rfl | apply And.intro)) (memOk_box rfl rfl rfl trivial)) ⟨hd, Nat.zero_le _⟩ ?_
    rintro r ⟨hr, rl⟩
    repeat' (first | refine tr_seq ?_ | refine reg (T := tab) tOk hnt rfl ?_ ?_ | refine regD (T := tab) tOk mixedR hnt rfl (by first | decide +kernel | kernel_rfl) ?_ ?_ | refine tr_block ?_ | refine tr_skip ?_)
    · (dsimp only [AllP]; (repeat' first | exact trivial | assumption | exact Nat.le_of_ble_eq_true rfl | apply And.intro | decide | intro _ | exact rfl))
    repeat' (first | refine tr_seq ?_ | refine tr_block ?_ | refine tr_skip ?_)
    refine tr_cond rfl (fun hc => ?_) (fun hc => ?_)
    · simp only [condT_tt, condT_ff, condF_tt, condF_ff, notE_t, notE_f, decide_eq_true_eq, decide_eq_false_iff_not] at hc
      have hdr : pairs4.drop (d * 2 + r) = (d, r + 1) :: pairs4.drop (d * 2 + (r + 1)) := by
        match d, r, (by omega : d < 2), (by omega : r < 2) with
        | 0, 0, _, _ => rfl
        | 0, 1, _, _ => rfl
        | 1, 0, _, _ => rfl
        | 1, 1, _, _ => rfl
      rw [hdr, anyH] at hr
      have h1 := objectOf_fn u p d hu hp (by omega)
      have h2 := hs_fn s.g user ((u * 4 + p * 2 + d : Nat) : Int) ((r + 1 : Nat) : Int) (by omega)
      rw [show eGrs s.g = E.sl ((eSta s).getD (0 + 114) E.dflt).xs by rw [hG]; rfl] at h2
      dsimp only at hr
      generalize hsF s.g user ((u * 4 + p * 2 + d : Nat) : Int) ((r + 1 : Nat) : Int) = b at *
      repeat' (first | refine tr_seq ?_ | refine tr_block ?_ | refine tr_skip ?_)
      refine tr_draw (T := tab) tOk hnt mixedR (lexD (T := tab) rfl ?_ (callD rfl rfl rfl rfl rfl rfl rfl rfl (h1) (lexD (T := tab) rfl ?_ (callD rfl rfl rfl rfl rfl rfl rfl rfl (h2) (lexD (T := tab) rfl ?_ (.nil _)))))) (by first | decide +kernel | kernel_rfl) ?_
      · (dsimp only [AllP]; (repeat' first | exact trivial | assumption | exact Nat.le_of_ble_eq_true rfl | apply And.intro | exact eCells_len1 _ _ ‹_› | exact eCells_isByte _ _ ‹_› | (intro hh_; have hg_ := hh_; (try simp only [condT_ff, condF_tt, notE_t, notE_f, Bool.and_eq_true, ne_eq, decide_eq_true_eq, decide_eq_false_iff_not] at hg_)) | intro _ | exact rfl | omega))
      · (dsimp only [AllP]; (repeat' first | exact trivial | assumption | exact Nat.le_of_ble_eq_true rfl | apply And.intro | exact eCells_len1 _ _ ‹_› | exact eCells_isByte _ _ ‹_› | (intro hh_; have hg_ := hh_; (try simp only [condT_ff, condF_tt, notE_t, notE_f, Bool.and_eq_true, ne_eq, decide_eq_true_eq, decide_eq_false_iff_not] at hg_)) | intro _ | exact rfl | omega))
      · (dsimp only [AllP]; (repeat' first | exact trivial | assumption | exact Nat.le_of_ble_eq_true rfl | apply And.intro | exact eCells_len1 _ _ ‹_› | exact eCells_isByte _ _ ‹_› | (intro hh_; have hg_ := hh_; (try simp only [condT_ff, condF_tt, notE_t, notE_f, Bool.and_eq_true, ne_eq, decide_eq_true_eq, decide_eq_false_iff_not] at hg_)) | intro _ | exact rfl | omega))
      repeat' (first | refine tr_seq ?_ | refine tr_block ?_ | refine tr_skip ?_)
      refine tr_cond rfl (fun hc => ?_) (fun hc => ?_)
      · have hc : b = true := hc
        rw [hc, Bool.true_or] at hr
        rw [← hr]
        repeat' (first | refine tr_seq ?_ | refine reg (T := tab) tOk hnt rfl ?_ ?_ | refine regD (T := tab) tOk mixedR hnt rfl (by first | decide +kernel | kernel_rfl) ?_ ?_ | refine tr_block ?_ | refine tr_skip ?_)
        · (dsimp only [AllP]; (repeat' first | exact trivial | assumption | exact Nat.le_of_ble_eq_true rfl | apply And.intro | decide | intro _ | exact rfl))
        exact tr_ret ⟨.inr rfl, _, _, rfl, trivial, rfl⟩
      have hc : b = false := hc
      rw [hc, Bool.false_or] at hr
      repeat' (first | refine tr_seq ?_ | refine reg (T := tab) tOk hnt rfl ?_ ?_ | refine regD (T := tab) tOk mixedR hnt rfl (by first | decide +kernel | kernel_rfl) ?_ ?_ | refine tr_block ?_ | refine tr_skip ?_)
      · (dsimp only [AllP]; (repeat' first | exact trivial | assumption | exact Nat.le_of_ble_eq_true rfl | apply And.intro | decide | intro _ | exact rfl))
      refine ⟨r + 1, ⟨hr, by omega⟩, by omega, le_of (ad := []) (by refine ⟨?_, ?_, ?_, ?_, ?_, ?_, trivial⟩ <;> first | exact trivial | rfl | exact ⟨rfl, rfl⟩ | exact ⟨rfl, rfl, rfl⟩ | exact ⟨rfl, rfl, rfl, rfl⟩ | exact ⟨rfl, rfl, rfl, rfl, rfl⟩ | exact congrArg (fun z : Int => E.v (.int .i64 z)) (wrap64_id (by omega) (by omega)) | exact congrArg (fun z : Int => E.v (.int .u8 z)) (by assumption) | exact congrArg (fun z : ByteArray => E.v (.string z)) (by assumption) | (refine ⟨rfl, ?_⟩; repeat' first | exact trivial | rfl | apply And.intro)) (memOk_box rfl rfl rfl trivial)⟩
    simp only [condT_tt, condT_ff, condF_tt, condF_ff, notE_t, notE_f, decide_eq_true_eq, decide_eq_false_iff_not] at hc
    refine tr_exit ?_
    repeat' (first | refine tr_seq ?_ | refine reg (T := tab) tOk hnt rfl ?_ ?_ | refine regD (T := tab) tOk mixedR hnt rfl (by first | decide +kernel | kernel_rfl) ?_ ?_ | refine tr_block ?_ | refine tr_skip ?_)
    · (dsimp only [AllP]; (repeat' first | exact trivial | assumption | exact Nat.le_of_ble_eq_true rfl | apply And.intro | decide | intro _ | exact rfl))
    refine ⟨d + 1, ⟨by rw [← hr]; congr 2; omega, by omega⟩, by omega, le_of (ad := []) (by refine ⟨?_, ?_, ?_, ?_, ?_, trivial⟩ <;> first | exact trivial | rfl | exact ⟨rfl, rfl⟩ | exact ⟨rfl, rfl, rfl⟩ | exact ⟨rfl, rfl, rfl, rfl⟩ | exact ⟨rfl, rfl, rfl, rfl, rfl⟩ | exact congrArg (fun z : Int => E.v (.int .i64 z)) (wrap64_id (by omega) (by omega)) | exact congrArg (fun z : Int => E.v (.int .u8 z)) (by assumption) | exact congrArg (fun z : ByteArray => E.v (.string z)) (by assumption) | (refine ⟨rfl, ?_⟩; repeat' first | exact trivial | rfl | apply And.intro)) (memOk_box rfl rfl rfl trivial)⟩
  simp only [condT_tt, condT_ff, condF_tt, condF_ff, notE_t, notE_f, decide_eq_true_eq, decide_eq_false_iff_not] at hc
  refine tr_exit ?_
  rw [← hd, show pairs4.drop (d * 2) = [] from List.drop_eq_nil_of_le (by show 4 ≤ d * 2; omega), anyH]
  repeat' (first | refine tr_seq ?_ | refine reg (T := tab) tOk hnt rfl ?_ ?_ | refine regD (T := tab) tOk mixedR hnt rfl (by first | decide +kernel | kernel_rfl) ?_ ?_ | refine tr_block ?_ | refine tr_skip ?_)
  · (dsimp only [AllP]; (repeat' first | exact trivial | assumption | exact Nat.le_of_ble_eq_true rfl | apply And.intro | decide | intro _ | exact rfl))
  exact tr_ret ⟨.inr rfl, _, _, rfl, trivial, rfl⟩
end Go.Proofs.YtphaholcndhonaaDoor
