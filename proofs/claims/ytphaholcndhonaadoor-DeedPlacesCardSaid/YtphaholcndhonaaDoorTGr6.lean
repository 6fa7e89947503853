/- Package right: what is held. No condition. -/
import Derived.Test.YtphaholcndhonaaDoorTGr5
import Derived.Test.YtphaholcndhonaaDoorTGrP
namespace Go.Proofs.YtphaholcndhonaaDoor
open Go Go.RowKit Go.Proofs.YtphaholcndhonaaDoor.Ab

def eGood (b : Bool) : List E := [eI (if b then 1 else 0)]
theorem goodGet (good : List Bool) {i : Nat} (h : i < good.length) : (List.map eGood good).getD i [] = eGood (good.getD i false) := by
  simp [List.getD, h]
theorem goodInt (b : Bool) : ((eGood b).getD 0 E.dflt).int = if b then 1 else 0 := rfl
theorem goodSet (good : List Bool) {i : Nat} (h : i < good.length) : setEl (List.map eGood good) i 0 1 [E.v (.int .i64 1)] = List.map eGood (good.set i true) := by
  rw [setEl, goodGet good h, List.map_set]
  rfl
theorem goodLt (good : List Bool) {i : Nat} (h : i < good.length) (hc : good.getD i false = false) : (good.set i true).count false < good.count false := by
  induction good generalizing i with
  | nil => simp at h
  | cons b r ih =>
    cases i with
    | zero =>
      have : b = false := by simpa using hc
      subst this
      simp
    | succ i =>
      have := ih (i := i) (by simpa using h) (by simpa using hc)
      simp only [List.set_cons_succ, List.count_cons]
      omega
theorem holdC {a hp : Bool} {ht gf ho go hr gr : Int} (h : (bif (bif (bif (bif decide ((if a = true then (1 : Int) else 0) = 1) then hp else false) then decide (ht = gf) else false) then decide (ho = go) else false) then decide (hr = gr) else false) = true) : a = true ∧ hp = true ∧ ht = gf ∧ ho = go ∧ hr = gr := by
  cases a <;> cases hp <;> simp at h ⊢
  exact ⟨h.1.1, h.1.2, h.2⟩
theorem holdN {a hp : Bool} {hf ht gf ho go hr gr : Int} (h : (bif (bif (bif (bif decide ((if a = true then (1 : Int) else 0) = 1) then hp else false) then decide (ht = gf) else false) then decide (ho = go) else false) then decide (hr = gr) else false) = false) (ha : a = true) (hh : hands go gr (hf, ht, ho, hr, hp, ())) : ht ≠ gf := by
  obtain ⟨c1, c2, c3⟩ := hh
  dsimp only at c1 c2 c3
  subst ha c1 c2 c3
  simpa using h
theorem heldAll {l : List Gr} (hl : ∀ g ∈ l, g.ok) {good : List Bool} (_ : good.length = l.length) (j2 : ∀ k, k < l.length → good.getD k false = false → (l.getD k gz).1 ≠ ownF (l.getD k gz).2.2.1 ∧ ∀ j, j < l.length → good.getD j false = true → hands (l.getD k gz).2.2.1 (l.getD k gz).2.2.2.1 (l.getD j gz) → (l.getD j gz).2.1 ≠ (l.getD k gz).1) (k : Nat) (hk : k < l.length) (hs : stP l (l.getD k gz) = true) : good.getD k false = true := by
  have hg := grOk hl hk
  obtain ⟨o1, _⟩ := own_in hg.2.2
  have hind := reach_ind (fun u => ∀ k', k' < l.length → (l.getD k' gz).1.toNat = u → (l.getD k' gz).2.2.1 = (l.getD k gz).2.2.1 → (l.getD k' gz).2.2.2.1 = (l.getD k gz).2.2.2.1 → good.getD k' false = true) ?_ ?_ hs
  · exact hind k hk rfl rfl rfl
  · intro k' hk' hu ho _
    cases hgk : good.getD k' false with
    | true => rfl
    | false =>
      have h1 := (j2 k' hk' hgk).1
      have hg' := (grOk hl hk').1
      rw [ho, o1, ← hu] at h1
      omega
  · intro g hm hh hS k' hk' hu ho hr
    obtain ⟨j, hj, hje⟩ : ∃ j, j < l.length ∧ l.getD j gz = g := by
      obtain ⟨j, hj⟩ := List.getElem?_of_mem hm
      have := (List.getElem?_eq_some_iff.1 hj).1
      exact ⟨j, this, by simp [List.getD, hj]⟩
    cases hgk : good.getD k' false with
    | true => rfl
    | false =>
      have hgj := hS j hj (by rw [hje]) (by rw [hje]; exact hh.2.1) (by rw [hje]; exact hh.2.2)
      have h2 := (j2 k' hk' hgk).2 j hj hgj (by rw [hje, ho, hr]; exact hh)
      have hg' := (grOk hl hk').1
      have hg'' := (grOk hl hj).2.1
      rw [hje] at h2 hg''
      omega
theorem goodNew (l : List Gr) : List.replicate (((List.map eGr l).length : Nat) : Int).toNat [E.v (.int .i64 0)] = List.map eGood (List.replicate l.length false) := by
  rw [Int.toNat_natCast, List.length_map, List.map_replicate]
  rfl
theorem held_fn (l : List Gr) (hl : ∀ g ∈ l, g.ok) (hb : l.length ≤ 1000000) : FnD Tryd.prog 118 [.one (.e (eGrs l))] (.one (.e (eGrs (stF l)))) := by
  refine fn_intro (T := tab) tOk Tryd.func118 rfl (by kernel_rfl) (by simp [Tryd.ntmps118]) ?_
  intro X hX
  have hnt : X.nt = 95 := hX
  clear hX
  refine tr_seq (reg (T := tab) tOk hnt rfl (by exact trivial) ?_)
  refine tr_again (σ := List Bool) (fun good => St.of [(0, .one (.e (eGrs l))), (3, .one (.own 13 0))] [(13, ⟨0, .row 1 (good.map eGood), 0⟩)]) (fun good => good.length = l.length ∧ ∀ i, i < l.length → good.getD i false = true → stP l (l.getD i gz) = true) (fun good => good.count false) 0 rfl ?_ ?_
  rotate_left
  · rintro good ⟨p1, p2⟩
    repeat' (first | refine tr_seq ?_ | refine reg (T := tab) tOk hnt rfl ?_ ?_ | refine tr_block ?_ | refine tr_skip ?_)
    all_goals (try ((dsimp only [AllP]; (repeat' first | exact trivial | assumption | exact Nat.le_of_ble_eq_true rfl | apply And.intro | intro _ | exact rfl)); done))
    refine tr_loop (σ := Nat) (fun i => St.of [(0, .one (.e (eGrs l))), (3, .one (.own 13 0)), (14, .one (.e (eGrs l))), (15, .v (.int .i64 l.length)), (16, .v (.int .i64 i))] [(13, ⟨0, .row 1 (good.map eGood), 0⟩)])
      (fun i => i ≤ l.length ∧ ∀ k, k < i → good.getD k false = false → (l.getD k gz).1 ≠ ownF (l.getD k gz).2.2.1 ∧ ∀ j, j < l.length → good.getD j false = true → hands (l.getD k gz).2.2.1 (l.getD k gz).2.2.2.1 (l.getD j gz) → (l.getD j gz).2.1 ≠ (l.getD k gz).1) (fun i => l.length - i) 0 (le_of (ad := []) ⟨rfl, ⟨rfl, rfl, rfl, rfl⟩, rfl, congrArg (fun z : Nat => E.v (.int .i64 (z : Int))) (List.length_map ..), rfl, trivial⟩ (memOk_row rfl rfl rfl trivial)) ⟨Nat.zero_le _, fun k hk => absurd hk (Nat.not_lt_zero _)⟩ ?_
    rintro i ⟨j1, j2⟩
    refine tr_seq (reg (T := tab) tOk hnt rfl (by exact rfl) ?_)
    refine tr_seq (tr_cond rfl (fun hk => ?_) (fun hk => ?_))
    · refine tr_skip ?_
      have hk := of_decide_eq_true hk
      have hk : i < l.length := by omega
      refine tr_seq (tr_block ?_)
      have hlen : ((List.map eGr l).getD i []).length = 5 := by rw [grGet l hk]; rfl
      refine tr_seq (reg (T := tab) tOk hnt rfl ?_ ?_)
      · rw [Int.toNat_natCast]
        refine ⟨⟨?_, Nat.le_of_ble_eq_true rfl, Nat.zero_le _⟩, trivial, trivial, ?_, ⟨Int.natCast_nonneg _, ?_, hlen⟩, trivial⟩
        · show (List.take 5 (List.drop 0 ((List.map eGr l).getD i []))).length = 5
          rw [List.length_take, List.length_drop, hlen]
          rfl
        · show 0 + 5 ≤ ((List.map eGr l).getD i []).length
          omega
        · rw [List.length_map]
          omega
      rw [box_store]
      rotate_left
      · exact hlen
      · rfl
      rw [Int.toNat_natCast, grGet l hk]
      have hgi : (List.map eGood good).getD ((i : Nat) : Int).toNat [] = eGood (good.getD i false) := goodGet good (by omega)
      refine tr_seq (tr_seq (reg (T := tab) tOk hnt rfl ?_ ?_))
      · rw [hgi]
        refine ⟨rfl, ⟨Nat.le_of_ble_eq_true rfl, rfl⟩, ⟨Int.natCast_nonneg _, ?_⟩, trivial, trivial⟩
        rw [List.length_map]
        omega
      rw [hgi, goodInt]
      refine tr_cond rfl (fun hc => ?_) (fun hc => ?_)
      · refine tr_exit ?_
        have hc : good.getD i false = true := by
          have hc := of_decide_eq_true hc
          cases h : good.getD i false with
          | true => rfl
          | false => rw [h] at hc; simp at hc
        refine reg (T := tab) tOk hnt rfl ⟨trivial, rfl⟩ ?_
        refine ⟨i + 1, ⟨hk, fun k hk' hg => ?_⟩, by omega, le_of (ad := []) ⟨rfl, ⟨rfl, rfl, rfl, rfl⟩, rfl, rfl, congrArg (fun z : Int => E.v (.int .i64 z)) (wrap64_id (by omega) (by omega)), trivial⟩ (memOk_row rfl rfl rfl trivial)⟩
        rcases Nat.lt_succ_iff_lt_or_eq.1 hk' with hk' | rfl
        · exact j2 k hk' hg
        · rw [hc] at hg; cases hg
      refine tr_skip ?_
      have hc : good.getD i false = false := by
        have hc := of_decide_eq_false hc
        cases h : good.getD i false with
        | false => rfl
        | true => rw [h] at hc; simp at hc
      have hg := grOk hl hk
      obtain ⟨g, hgd⟩ : ∃ g, g = l.getD i gz := ⟨_, rfl⟩
      rw [← hgd] at hg ⊢
      obtain ⟨gf, gt, go, gr, gp, ⟨⟩⟩ := g
      refine tr_seq (tr_seq (tr_draw (T := tab) tOk hnt mixedR (lexD (T := tab) rfl ?_ (callD rfl rfl rfl rfl rfl rfl rfl rfl (owner_fn _) (lexD (T := tab) rfl ?_ (.nil _)))) (by decide +kernel) ?_))
      · (dsimp only [AllP]; (repeat' first | exact trivial | assumption | exact Nat.le_of_ble_eq_true rfl | apply And.intro | intro _ | exact rfl))
      · (dsimp only [AllP]; (repeat' first | exact trivial | assumption | exact Nat.le_of_ble_eq_true rfl | apply And.intro | intro _ | exact rfl))
      refine tr_cond rfl (fun ho => ?_) (fun ho => ?_)
      · refine tr_seq (reg (T := tab) tOk hnt rfl ?_ ?_)
        · refine ⟨⟨rfl, Nat.le_of_ble_eq_true rfl, ?_, Nat.zero_le _⟩, ⟨Int.natCast_nonneg _, ?_⟩, trivial, trivial⟩
          · rw [List.length_map, Int.toNat_natCast]; omega
          · rw [List.length_map]; omega
        refine tr_goto ?_
        refine ⟨rfl, good.set i true, ⟨by simpa using p1, fun k hk' hg' => ?_⟩, ?_, le_of (ad := []) ⟨rfl, ⟨rfl, rfl, rfl, rfl⟩, trivial⟩ (memOk_row rfl rfl (goodSet good (by omega)) trivial)⟩
        · rw [set_get] at hg'
          split at hg'
          · rename_i he
            rw [← he.1, ← hgd]
            exact reach_own hg.2.2 (of_decide_eq_true ho)
          · exact p2 k hk' hg'
        · exact goodLt good (by omega) hc
      refine tr_skip ?_
      have ho := of_decide_eq_false ho
      repeat' (first | refine tr_seq ?_ | refine reg (T := tab) tOk hnt rfl ?_ ?_ | refine tr_block ?_ | refine tr_skip ?_)
      · (dsimp only [AllP]; (repeat' first | exact trivial | assumption | exact Nat.le_of_ble_eq_true rfl | apply And.intro | intro _ | exact rfl))
      refine tr_loop (σ := Nat) (fun j => St.of [(0, .one (.e (eGrs l))), (3, .one (.own 13 0)), (4, .v (.int .i64 i)), (5, .one (.ptr 5 0 0)), (14, .one (.e (eGrs l))), (15, .v (.int .i64 l.length)), (16, .v (.int .i64 i)), (35, .one (.e (eGrs l))), (36, .v (.int .i64 l.length)), (37, .v (.int .i64 j))] [(13, ⟨0, .row 1 (good.map eGood), 0⟩), (5, ⟨0, .box (.es (eGr (gf, gt, go, gr, gp, ()))), 0⟩)])
        (fun j => j ≤ l.length ∧ ∀ k, k < j → good.getD k false = true → hands go gr (l.getD k gz) → (l.getD k gz).2.1 ≠ gf) (fun j => l.length - j) 0 (le_of (ad := []) ⟨rfl, ⟨rfl, rfl, rfl, rfl⟩, rfl, ⟨rfl, rfl, rfl, rfl, rfl⟩, rfl, rfl, rfl, rfl, congrArg (fun z : Nat => E.v (.int .i64 (z : Int))) (List.length_map ..), rfl, trivial⟩ (memOk_row rfl rfl rfl (memOk_box rfl rfl rfl trivial))) ⟨Nat.zero_le _, fun k hk => absurd hk (Nat.not_lt_zero _)⟩ ?_
      rintro j ⟨q1, q2⟩
      refine tr_seq (reg (T := tab) tOk hnt rfl (by exact rfl) ?_)
      refine tr_seq (tr_cond rfl (fun hj => ?_) (fun hj => ?_))
      · refine tr_skip ?_
        have hj := of_decide_eq_true hj
        have hj : j < l.length := by omega
        refine tr_seq (tr_block ?_)
        have hlenj : ((List.map eGr l).getD j []).length = 5 := by rw [grGet l hj]; rfl
        refine tr_seq (reg (T := tab) tOk hnt rfl ?_ ?_)
        · rw [Int.toNat_natCast]
          refine ⟨⟨?_, Nat.le_of_ble_eq_true rfl, Nat.zero_le _⟩, trivial, trivial, ?_, ⟨Int.natCast_nonneg _, ?_, hlenj⟩, trivial⟩
          · show (List.take 5 (List.drop 0 ((List.map eGr l).getD j []))).length = 5
            rw [List.length_take, List.length_drop, hlenj]
            rfl
          · show 0 + 5 ≤ ((List.map eGr l).getD j []).length
            omega
          · rw [List.length_map]
            omega
        rw [box_store]
        rotate_left
        · exact hlenj
        · rfl
        rw [Int.toNat_natCast, grGet l hj]
        have hgj : (List.map eGood good).getD ((j : Nat) : Int).toNat [] = eGood (good.getD j false) := goodGet good (by omega)
        obtain ⟨h, hhd⟩ : ∃ h, h = l.getD j gz := ⟨_, rfl⟩
        rw [← hhd]
        obtain ⟨hf, ht, ho', hr, hp, ⟨⟩⟩ := h
        refine tr_seq (reg (T := tab) tOk hnt rfl ?_ ?_)
        · rw [hgj, goodInt]
          have hjl : ((j : Nat) : Int) < ((List.map eGood good).length : Int) := by rw [List.length_map]; omega
          dsimp only [AllP]
          (repeat' first | exact trivial | assumption | exact hjl | exact Int.natCast_nonneg _ | exact Nat.le_of_ble_eq_true rfl | apply And.intro | intro _ | exact rfl)
        rw [hgj, goodInt]
        refine tr_cond rfl (fun hcc => ?_) (fun hcc => ?_)
        · have hcc := holdC hcc
          refine tr_seq (reg (T := tab) tOk hnt rfl ?_ ?_)
          · refine ⟨⟨rfl, Nat.le_of_ble_eq_true rfl, ?_, Nat.zero_le _⟩, ⟨Int.natCast_nonneg _, ?_⟩, trivial, trivial⟩
            · rw [List.length_map, Int.toNat_natCast]; omega
            · rw [List.length_map]; omega
          refine tr_goto ?_
          refine ⟨rfl, good.set i true, ⟨by simpa using p1, fun k hk' hg' => ?_⟩, goodLt good (by omega) hc, le_of (ad := []) ⟨rfl, ⟨rfl, rfl, rfl, rfl⟩, trivial⟩ (memOk_row rfl rfl (goodSet good (by omega)) trivial)⟩
          rw [set_get] at hg'
          split at hg'
          · rename_i he
            rw [← he.1, ← hgd]
            have hs := p2 j hj hcc.1
            rw [← hhd] at hs
            have hin : (hf, ht, ho', hr, hp, ()) ∈ l := by rw [hhd]; simp [List.getD, hj]
            obtain ⟨c1, c2, c3, c4, c5⟩ := hcc
            subst c3 c4 c5
            exact reach_step hin (hl _ hin) ⟨c2, rfl, rfl⟩ hs
          · exact p2 k hk' hg'
        · refine tr_skip ?_
          repeat' (first | refine tr_seq ?_ | refine reg (T := tab) tOk hnt rfl ?_ ?_ | refine tr_block ?_ | refine tr_skip ?_)
          · exact ⟨trivial, rfl⟩
          refine ⟨j + 1, ⟨hj, fun k hk' hg' hh => ?_⟩, by omega, le_of (ad := []) ⟨rfl, ⟨rfl, rfl, rfl, rfl⟩, rfl, ⟨rfl, rfl, rfl, rfl, rfl⟩, rfl, rfl, rfl, rfl, rfl, congrArg (fun z : Int => E.v (.int .i64 z)) (wrap64_id (by omega) (by omega)), trivial⟩ (memOk_row rfl rfl rfl (memOk_box rfl rfl rfl trivial))⟩
          rcases Nat.lt_succ_iff_lt_or_eq.1 hk' with hk' | rfl
          · exact q2 k hk' hg' hh
          · rw [← hhd] at hh ⊢
            exact holdN hcc hg' hh
      · refine tr_exit ?_
        have hj := of_decide_eq_false hj
        have hj : j = l.length := by omega
        subst hj
        repeat' (first | refine tr_seq ?_ | refine reg (T := tab) tOk hnt rfl ?_ ?_ | refine tr_block ?_ | refine tr_skip ?_)
        all_goals (try ((dsimp only [AllP]; (repeat' first | exact trivial | assumption | exact Nat.le_of_ble_eq_true rfl | apply And.intro | intro _ | exact rfl)); done))
        refine ⟨i + 1, ⟨hk, fun k hk' hg' => ?_⟩, by omega, le_of (ad := []) ⟨rfl, ⟨rfl, rfl, rfl, rfl⟩, rfl, rfl, congrArg (fun z : Int => E.v (.int .i64 z)) (wrap64_id (by omega) (by omega)), trivial⟩ (memOk_row rfl rfl rfl trivial)⟩
        rcases Nat.lt_succ_iff_lt_or_eq.1 hk' with hk' | rfl
        · exact j2 k hk' hg'
        · rw [← hgd]
          exact ⟨ho, q2⟩
    refine tr_exit ?_
    have hk := of_decide_eq_false hk
    have hk : i = l.length := by omega
    subst hk
    have hgood : ∀ k, k < l.length → good.getD k false = stP l (l.getD k gz) := fun k hk => by
      cases hst : stP l (l.getD k gz) with
      | false =>
        cases hgk : good.getD k false with
        | false => rfl
        | true => rw [p2 k hk hgk] at hst; cases hst
      | true => exact heldAll hl p1 j2 k hk hst
    repeat' (first | refine tr_seq ?_ | refine reg (T := tab) tOk hnt rfl ?_ ?_ | refine tr_block ?_ | refine tr_skip ?_)
    all_goals (try ((dsimp only [AllP]; (repeat' first | exact trivial | assumption | exact Nat.le_of_ble_eq_true rfl | apply And.intro | intro _ | exact rfl)); done))
    refine tr_loop (σ := Nat × List Gr) (fun x => St.of [(0, .one (.e (eGrs l))), (3, .one (.own 13 0)), (8, .one (.own 92 0)), (77, .one (.e (eGrs l))), (78, .v (.int .i64 l.length)), (79, .v (.int .i64 x.1))] [(13, ⟨0, .row 1 (good.map eGood), 0⟩), (92, ⟨0, .row 5 (x.2.map eGr), 0⟩)])
      (fun x => x.1 ≤ l.length ∧ x.2 ++ (l.drop x.1).filter (stP l) = stF l ∧ x.2.length ≤ x.1) (fun x => l.length - x.1) (0, []) (le_of (ad := [92]) ⟨rfl, ⟨rfl, rfl, rfl, rfl⟩, ⟨rfl, rfl⟩, rfl, congrArg (fun z : Nat => E.v (.int .i64 (z : Int))) (List.length_map ..), rfl, trivial⟩ (memOk_row rfl rfl rfl (memOk_new rfl (by decide) trivial))) ⟨Nat.zero_le _, rfl, Nat.le_refl _⟩ ?_
    rintro ⟨k, acc⟩ ⟨q1, q2, q3⟩
    dsimp only at q1 q2 q3 ⊢
    refine tr_seq (reg (T := tab) tOk hnt rfl (by exact rfl) ?_)
    refine tr_seq (tr_cond rfl (fun hk => ?_) (fun hk => ?_))
    · refine tr_skip ?_
      have hk := of_decide_eq_true hk
      have hk : k < l.length := by omega
      refine tr_seq (tr_block ?_)
      have hlen : ((List.map eGr l).getD k []).length = 5 := by rw [grGet l hk]; rfl
      refine tr_seq (reg (T := tab) tOk hnt rfl ?_ ?_)
      · rw [Int.toNat_natCast]
        refine ⟨⟨?_, Nat.le_of_ble_eq_true rfl, Nat.zero_le _⟩, trivial, trivial, ?_, ⟨Int.natCast_nonneg _, ?_, hlen⟩, trivial⟩
        · show (List.take 5 (List.drop 0 ((List.map eGr l).getD k []))).length = 5
          rw [List.length_take, List.length_drop, hlen]
          rfl
        · show 0 + 5 ≤ ((List.map eGr l).getD k []).length
          omega
        · rw [List.length_map]
          omega
      rw [box_store]
      rotate_left
      · exact hlen
      · rfl
      rw [Int.toNat_natCast, grGet l hk]
      have hgi : (List.map eGood good).getD ((k : Nat) : Int).toNat [] = eGood (good.getD k false) := goodGet good (by omega)
      refine tr_seq (reg (T := tab) tOk hnt rfl ?_ ?_)
      · rw [hgi]
        refine ⟨rfl, ⟨Nat.le_of_ble_eq_true rfl, rfl⟩, ⟨Int.natCast_nonneg _, ?_⟩, trivial, trivial⟩
        rw [List.length_map]
        omega
      rw [hgi, goodInt, hgood k hk]
      rw [grDrop hk] at q2
      generalize l.getD k gz = g at q2 ⊢
      obtain ⟨gf, gt, go, gr, gp, ⟨⟩⟩ := g
      refine tr_cond rfl (fun hc => ?_) (fun hc => ?_)
      · refine reg (T := tab) tOk hnt rfl ?_ ?_
        · have e1 : (List.map eGr acc).length ≤ 1000000 := by rw [List.length_map]; omega
          refine ⟨trivial, ⟨trivial, ?_, ?_⟩, ⟨⟨rfl, trivial⟩, by decide, by decide⟩, Nat.le_of_ble_eq_true rfl, trivial⟩
          · show (List.map eGr acc).length + 1 ≤ maxLen
            simp only [maxLen]
            omega
          · show ((List.map eGr acc).length + 1) * 40 ≤ 140737488355328
            omega
        refine reg (T := tab) tOk hnt rfl ⟨trivial, rfl⟩ ?_
        have hc : stP l (gf, gt, go, gr, gp, ()) = true := by
          have hc := of_decide_eq_true hc
          cases h : stP l (gf, gt, go, gr, gp, ()) with
          | true => rfl
          | false => rw [h] at hc; simp at hc
        refine ⟨(k + 1, acc ++ [(gf, gt, go, gr, gp, ())]), ⟨hk, ?_, by simp; omega⟩, by dsimp only; omega, le_of (ad := []) ⟨rfl, ⟨rfl, rfl, rfl, rfl⟩, ⟨rfl, rfl, rfl, rfl⟩, rfl, rfl, congrArg (fun z : Int => E.v (.int .i64 z)) (wrap64_id (by omega) (by omega)), trivial⟩ (memOk_row rfl rfl rfl (memOk_row rfl rfl (accG acc _) trivial))⟩
        rw [List.filter_cons_of_pos hc] at q2
        rw [← q2]
        simp
      · refine tr_skip ?_
        refine reg (T := tab) tOk hnt rfl ⟨trivial, rfl⟩ ?_
        have hc : stP l (gf, gt, go, gr, gp, ()) = false := by
          have hc := of_decide_eq_false hc
          cases h : stP l (gf, gt, go, gr, gp, ()) with
          | false => rfl
          | true => rw [h] at hc; simp at hc
        refine ⟨(k + 1, acc), ⟨hk, ?_, by dsimp only; omega⟩, by dsimp only; omega, le_of (ad := []) ⟨rfl, ⟨rfl, rfl, rfl, rfl⟩, ⟨rfl, rfl, rfl, rfl⟩, rfl, rfl, congrArg (fun z : Int => E.v (.int .i64 z)) (wrap64_id (by omega) (by omega)), trivial⟩ (memOk_row rfl rfl rfl (memOk_row rfl rfl rfl trivial))⟩
        rw [List.filter_cons_of_neg (by rw [hc]; decide)] at q2
        exact q2
    refine tr_exit ?_
    repeat' (first | refine tr_seq ?_ | refine reg (T := tab) tOk hnt rfl ?_ ?_ | refine tr_skip ?_ | refine tr_ret ?_)
    all_goals (try ((dsimp only [AllP]; (repeat' first | exact trivial | assumption | exact Nat.le_of_ble_eq_true rfl | apply And.intro | intro _ | exact rfl)); done))
    have hk := of_decide_eq_false hk
    have hk : k = l.length := by omega
    subst hk
    rw [List.drop_length] at q2
    have q2 : acc = stF l := by simpa using q2
    refine ⟨.inr rfl, _, _, rfl, by trivial, ?_⟩
    rw [← q2]
    rfl
  refine reg (T := tab) tOk hnt rfl ?_ ?_
  · have e1 : (List.map eGr l).length ≤ 1000000 := by rw [List.length_map]; omega
    refine ⟨trivial, ⟨Int.natCast_nonneg _, Int.le_refl _, ?_, ?_, rfl⟩, trivial, trivial⟩
    · show ((List.map eGr l).length : Int) * 8 ≤ 140737488355328
      omega
    · omega
  refine ⟨List.replicate l.length false, ⟨List.length_replicate, fun i hi h => ?_⟩, le_of (ad := []) ⟨rfl, ⟨rfl, rfl, rfl, rfl⟩, trivial⟩ (memOk_row rfl rfl (goodNew l) trivial)⟩
  simp [List.getD, hi] at h
end Go.Proofs.YtphaholcndhonaaDoor
