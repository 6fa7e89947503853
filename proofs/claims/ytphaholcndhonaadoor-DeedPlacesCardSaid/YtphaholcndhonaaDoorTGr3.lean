/- The reference of package right: who is reached. No condition. -/
import Derived.Test.YtphaholcndhonaaDoorTGr2
namespace Go.Proofs.YtphaholcndhonaaDoor
open Go Go.RowKit Go.Proofs.YtphaholcndhonaaDoor.Ab

/-- a grant within bounds -/
def Gr.ok (g : Gr) : Prop := (0 ≤ g.1 ∧ g.1 < 3) ∧ (0 ≤ g.2.1 ∧ g.2.1 < 3) ∧ (0 ≤ g.2.2.1 ∧ g.2.2.1 < 12)
def eBs (l : List Bool) : List E := l.map fun b => .v (.bool b)
def step1 (ob rt : Int) (ins : List Bool) (g : Gr) : List Bool :=
  if g.2.2.2.2.1 = true ∧ g.2.2.1 = ob ∧ g.2.2.2.1 = rt ∧ ins.getD g.1.toNat false = true then ins.set g.2.1.toNat true else ins
def round1 (ob rt : Int) (l : List Gr) (ins : List Bool) : List Bool := l.foldl (step1 ob rt) ins
def init1 (ob : Int) : List Bool := [false, false, false].set (ob.tdiv 4).toNat true
def reachF (l : List Gr) (u ob rt : Int) : Bool := (round1 ob rt l (round1 ob rt l (round1 ob rt l (init1 ob)))).getD u.toNat false
def rounds (ob rt : Int) (l : List Gr) : Nat → List Bool → List Bool
  | 0, ins => ins
  | n + 1, ins => rounds ob rt l n (round1 ob rt l ins)
theorem own_in {ob : Int} (h : 0 ≤ ob ∧ ob < 12) : ownF ob = ((ob.tdiv 4).toNat : Int) ∧ (ob.tdiv 4).toNat < 3 := by
  have h0 : 0 ≤ ob.tdiv 4 := Int.tdiv_nonneg h.1 (by decide)
  have h1 : ob.tdiv 4 < 3 := by rw [Int.tdiv_eq_ediv_of_nonneg h.1]; omega
  refine ⟨?_, by omega⟩
  unfold ownF
  rw [wrap64_id (by omega) (by omega)]
  omega

theorem init_es {o : Nat} {ob : Int} (h : o < 3) (e : o = (ob.tdiv 4).toNat) (z : List E) (hz : z = [.v (.bool false), .v (.bool false), .v (.bool false)]) : List.take (0 + (o : Int).toNat * 1) z ++ [E.v (.bool true)] ++ List.drop (0 + (o : Int).toNat * 1 + 1) z = eBs (init1 ob) := by
  subst hz
  rw [init1, ← e]
  match o, h with
  | 0, _ => rfl
  | 1, _ => rfl
  | 2, _ => rfl
theorem init_len (ob : Int) : (init1 ob).length = 3 := by simp [init1]
def gz : Gr := (0, 0, 0, 0, false, ())
theorem grGet (l : List Gr) {k : Nat} (h : k < l.length) : (List.map eGr l).getD k [] = eGr (l.getD k gz) := by
  simp [List.getD, h]
theorem grOk {l : List Gr} (hl : ∀ g ∈ l, g.ok) {k : Nat} (h : k < l.length) : (l.getD k gz).ok := by
  have : l.getD k gz ∈ l := by simp [List.getD, h]
  exact hl _ this
theorem grDrop {l : List Gr} {k : Nat} (h : k < l.length) : l.drop k = l.getD k gz :: l.drop (k + 1) := by
  rw [List.drop_eq_getElem_cons h]
  simp [List.getD, h]
theorem step_len (ob rt : Int) (ins : List Bool) (g : Gr) : (step1 ob rt ins g).length = ins.length := by
  unfold step1
  split <;> simp
theorem round_len (ob rt : Int) : ∀ (l : List Gr) (ins : List Bool), (round1 ob rt l ins).length = ins.length
  | [], _ => rfl
  | g :: l, ins => by
    show (round1 ob rt l (step1 ob rt ins g)).length = _
    rw [round_len ob rt l, step_len]

theorem bsIsA (ins : List Bool) (k : Nat) (h : k < ins.length) : D0.isA .bool ((Cs.es (eBs ins)).at k) := by
  show E.as .bool ((eBs ins).getD k E.dflt) = _
  simp [eBs, List.getD, h, E.as, E.bool]
theorem box_store {zs xs : List E} {n : Nat} (hx : xs.length = n) (hz : zs.length = n) : List.take 0 zs ++ List.take n (List.drop 0 xs) ++ List.drop (0 + n) zs = xs := by
  simp [← hx, ← hz]
  omega
theorem bsEnd (ins : List Bool) (k : Nat) (h : k < ins.length) : ((eBs ins).getD (0 + k * 1) E.dflt).bool = ins.getD k false := by
  simp [eBs, List.getD, h, E.bool]
theorem bsGet (ins : List Bool) (k : Nat) (h : k < ins.length) : ((eBs ins).getD k E.dflt).bool = ins.getD k false := by
  simp [eBs, List.getD, h, E.bool]

theorem stepC {ob rt gf gt go gr : Int} {gp b : Bool} {is : List Bool} (h : (bif (bif (bif gp then decide (go = ob) else false) then decide (gr = rt) else false) then ((eBs is).getD (0 + gf.toNat * 1) E.dflt).bool else false) = b) (hf : gf.toNat < is.length) : step1 ob rt is (gf, gt, go, gr, gp, ()) = bif b then is.set gt.toNat true else is := by
  rw [bsEnd is gf.toNat hf] at h
  subst h
  unfold step1
  dsimp only
  cases gp with
  | false => simp
  | true =>
    by_cases h1 : go = ob
    · by_cases h2 : gr = rt
      · cases h3 : is.getD gf.toNat false <;> simp [h1, h2, h3]
      · simp [h1, h2]
    · simp [h1]
theorem bsSet (is : List Bool) (k : Nat) (h : k < is.length) : List.take (0 + k * 1) (eBs is) ++ [E.v (.bool true)] ++ List.drop (0 + k * 1 + 1) (eBs is) = eBs (is.set k true) := by
  rw [Nat.zero_add, Nat.mul_one, List.set_eq_take_append_cons_drop, if_pos h]
  simp [eBs]

theorem reached_fn (l : List Gr) (u ob rt : Int) (hl : ∀ g ∈ l, g.ok) (hu : 0 ≤ u ∧ u < 3) (ho : 0 ≤ ob ∧ ob < 12) (hb : l.length ≤ 1000000000) : FnD Tryd.prog 154 [.one (.e (eGrs l)), .v (.int .i64 u), .v (.int .i64 ob), .v (.int .i64 rt)] (.v (.bool (reachF l u ob rt))) := by
  refine fn_intro (T := tab) tOk Tryd.func154 rfl (by kernel_rfl) (by simp [Tryd.ntmps154]) ?_
  intro X hX
  have hnt : X.nt = 54 := hX
  clear hX
  refine tr_seq (reg (T := tab) tOk hnt rfl (by exact trivial) ?_)
  refine tr_seq (reg (T := tab) tOk hnt rfl (by (dsimp only [AllP]; (repeat' first | exact trivial | assumption | exact Nat.le_of_ble_eq_true rfl | apply And.intro | intro _ | exact rfl))) ?_)
  obtain ⟨o1, o2⟩ := own_in ho
  have hO := Owner_fn ob
  rw [o1] at hO
  obtain ⟨o, ho'⟩ : ∃ o, o = (ob.tdiv 4).toNat := ⟨_, rfl⟩
  rw [← ho'] at hO o2
  refine tr_seq (tr_region (lex (T := tab) tOk hnt rfl ?_ (call rfl rfl rfl rfl rfl rfl rfl hnt hO (lex (T := tab) tOk hnt rfl ?_ (Lex.nil _)))) ?_)
  all_goals (try ((dsimp only [AllP]; (repeat' first | exact trivial | assumption | exact Nat.le_of_ble_eq_true rfl | apply And.intro | intro _ | exact rfl)); done))
  repeat' (first | refine tr_seq ?_ | refine reg (T := tab) tOk hnt rfl ?_ ?_ | refine regD (T := tab) tOk mixedR hnt rfl (by decide +kernel) ?_ ?_ | refine tr_cond rfl (fun _ => ?_) (fun _ => ?_) | refine tr_block ?_ | refine tr_skip ?_ | refine tr_ret ?_ | refine tr_exit ?_)
  all_goals (try ((dsimp only [AllP]; (repeat' first | exact trivial | assumption | exact Nat.le_of_ble_eq_true rfl | apply And.intro | intro _ | exact rfl)); done))
  · refine ⟨⟨rfl, ?_, Nat.zero_le _⟩, by omega, by omega⟩
    show 0 + (o : Int).toNat * 1 + 1 ≤ 3
    omega
  refine tr_loop (σ := Nat × List Bool) (fun x => St.of [(0, .one (.e (eGrs l))), (1, .v (.int .i64 u)), (2, .v (.int .i64 ob)), (3, .v (.int .i64 rt)), (9, .one (.ptr 9 0 0)), (10, .v (.int .i64 x.1))] [(9, ⟨0, .box (.es (eBs x.2)), 0⟩)])
    (fun x => x.1 ≤ 3 ∧ x.2.length = 3 ∧ rounds ob rt l (3 - x.1) x.2 = rounds ob rt l 3 (init1 ob)) (fun x => 3 - x.1) (0, init1 ob) (le_of (ad := []) ⟨rfl, rfl, rfl, rfl, ⟨rfl, rfl, rfl, rfl, rfl⟩, rfl, trivial⟩ (memOk_box rfl rfl (init_es o2 ho' _ rfl) trivial)) ⟨Nat.zero_le _, init_len ob, rfl⟩ ?_
  rintro ⟨i, ins⟩ ⟨j1, j2, j3⟩
  dsimp only at j1 j2 j3 ⊢
  repeat' (first | refine tr_seq ?_ | refine reg (T := tab) tOk hnt rfl ?_ ?_ | refine regD (T := tab) tOk mixedR hnt rfl (by decide +kernel) ?_ ?_ | refine tr_cond rfl (fun _ => ?_) (fun _ => ?_) | refine tr_block ?_ | refine tr_skip ?_ | refine tr_ret ?_ | refine tr_exit ?_)
  all_goals (try ((dsimp only [AllP]; (repeat' first | exact trivial | assumption | exact Nat.le_of_ble_eq_true rfl | apply And.intro | intro _ | exact rfl)); done))
  · rename_i hi
    have hi := of_decide_eq_true hi
    have hi : i < 3 := by omega
    refine tr_loop (σ := Nat × List Bool) (fun x => St.of [(0, .one (.e (eGrs l))), (1, .v (.int .i64 u)), (2, .v (.int .i64 ob)), (3, .v (.int .i64 rt)), (9, .one (.ptr 9 0 0)), (10, .v (.int .i64 i)), (21, .one (.e (eGrs l))), (22, .v (.int .i64 l.length)), (23, .v (.int .i64 x.1))] [(9, ⟨0, .box (.es (eBs x.2)), 0⟩)])
      (fun x => x.1 ≤ l.length ∧ x.2.length = 3 ∧ round1 ob rt (l.drop x.1) x.2 = round1 ob rt l ins) (fun x => l.length - x.1) (0, ins) (le_of (ad := []) ⟨rfl, rfl, rfl, rfl, ⟨rfl, rfl, rfl, rfl, rfl⟩, rfl, rfl, congrArg (fun z : Nat => E.v (.int .i64 (z : Int))) (List.length_map ..), rfl, trivial⟩ (memOk_box rfl rfl rfl trivial)) ⟨Nat.zero_le _, j2, rfl⟩ ?_
    rintro ⟨k, is⟩ ⟨q1, q2, q3⟩
    dsimp only at q1 q2 q3 ⊢
    refine tr_seq (reg (T := tab) tOk hnt rfl (by exact rfl) ?_)
    refine tr_seq (tr_cond rfl (fun hk => ?_) (fun hk => ?_))
    · refine tr_skip ?_
      have hk := of_decide_eq_true hk
      have hk : k < l.length := by omega
      refine tr_seq (tr_block ?_)
      have hlen : ((List.map eGr l).getD k []).length = 5 := by rw [grGet l hk]; rfl
      refine tr_seq (reg (T := tab) tOk hnt rfl ?_ ?_)
      · rw [Int.toNat_natCast]
        refine ⟨⟨?_, Nat.le_of_ble_eq_true rfl, Nat.zero_le _⟩, trivial, ?_, Int.natCast_nonneg _, ?_, hlen⟩
        · show (List.take 5 (List.drop 0 ((List.map eGr l).getD k []))).length = 5
          rw [List.length_take, List.length_drop, hlen]
          rfl
        · show 0 + 5 ≤ ((List.map eGr l).getD k []).length
          omega
        · rw [List.length_map]
          omega
      rw [box_store]
      rotate_left
      · exact hlen
      · rfl
      rw [Int.toNat_natCast, grGet l hk]
      have hg := grOk hl hk
      rw [grDrop hk] at q3
      generalize l.getD k gz = g at hg q3 ⊢
      obtain ⟨gf, gt, go, gr, gp, ⟨⟩⟩ := g
      refine tr_seq (reg (T := tab) tOk hnt rfl ?_ ?_)
      · have hf : 0 + gf.toNat * 1 < is.length := by have := hg.1; dsimp only at this; omega
        have hA := bsIsA is (0 + gf.toNat * 1) hf
        have hL : 0 + gf.toNat * 1 < (Cs.es (eBs is)).len := by show _ < (eBs is).length; simp only [eBs, List.length_map]; exact hf
        have h0 : 0 ≤ gf := hg.1.1
        have h3 : gf < 3 := hg.1.2
        dsimp only [AllP]
        (repeat' first | exact trivial | assumption | exact hA | exact hL | exact h0 | exact h3 | exact Nat.le_of_ble_eq_true rfl | apply And.intro | intro _ | exact rfl)
      repeat' (first | refine tr_seq ?_ | refine reg (T := tab) tOk hnt rfl ?_ ?_ | refine tr_cond rfl (fun _ => ?_) (fun _ => ?_) | refine tr_block ?_ | refine tr_skip ?_ | refine tr_exit ?_)
      · rename_i hc
        refine ⟨⟨rfl, ?_, Nat.zero_le _⟩, ⟨hg.2.1.1, hg.2.1.2⟩, ⟨Nat.le_of_ble_eq_true rfl, rfl⟩, trivial⟩
        · show 0 + gt.toNat * 1 + 1 ≤ (eBs is).length
          have := hg.2.1
          dsimp only at this
          simp only [eBs, List.length_map]
          omega
      · exact ⟨trivial, rfl⟩
      · rename_i hc
        have hs := stepC (gf := gf) (gt := gt) (go := go) (gr := gr) (gp := gp) (ob := ob) (rt := rt) (is := is) hc (by have := hg.1; dsimp only at this; omega)
        refine ⟨(k + 1, step1 ob rt is (gf, gt, go, gr, gp, ())), ⟨hk, (step_len ..).trans q2, q3⟩, by dsimp only; omega, le_of (ad := []) ⟨rfl, rfl, rfl, rfl, ⟨rfl, rfl, rfl, rfl, rfl⟩, rfl, rfl, rfl, ?_, trivial⟩ (memOk_box rfl rfl ?_ trivial)⟩
        · exact congrArg (fun z : Int => E.v (.int .i64 z)) (wrap64_id (by omega) (by omega))
        · exact (bsSet is gt.toNat (by have := hg.2.1; dsimp only at this; omega)).trans (congrArg eBs hs.symm)
      · exact ⟨trivial, rfl⟩
      · rename_i hc
        have hs := stepC (gf := gf) (gt := gt) (go := go) (gr := gr) (gp := gp) (ob := ob) (rt := rt) (is := is) hc (by have := hg.1; dsimp only at this; omega)
        refine ⟨(k + 1, step1 ob rt is (gf, gt, go, gr, gp, ())), ⟨hk, (step_len ..).trans q2, q3⟩, by dsimp only; omega, le_of (ad := []) ⟨rfl, rfl, rfl, rfl, ⟨rfl, rfl, rfl, rfl, rfl⟩, rfl, rfl, rfl, ?_, trivial⟩ (memOk_box rfl rfl ?_ trivial)⟩
        · exact congrArg (fun z : Int => E.v (.int .i64 z)) (wrap64_id (by omega) (by omega))
        · exact congrArg eBs hs.symm
    · refine tr_exit ?_
      have hk := of_decide_eq_false hk
      have hk : k = l.length := by omega
      subst hk
      rw [List.drop_length] at q3
      have q3 : is = round1 ob rt l ins := q3
      subst q3
      repeat' (first | refine tr_seq ?_ | refine reg (T := tab) tOk hnt rfl ?_ ?_ | refine tr_skip ?_)
      all_goals (try ((dsimp only [AllP]; (repeat' first | exact trivial | assumption | exact Nat.le_of_ble_eq_true rfl | apply And.intro | intro _ | exact rfl)); done))
      refine ⟨(i + 1, round1 ob rt l ins), ⟨by dsimp only; omega, q2, ?_⟩, by dsimp only; omega, le_of (ad := []) ⟨rfl, rfl, rfl, rfl, ⟨rfl, rfl, rfl, rfl, rfl⟩, ?_, trivial⟩ (memOk_box rfl rfl rfl trivial)⟩
      · rw [← j3]
        show rounds ob rt l (3 - (i + 1)) (round1 ob rt l ins) = _
        rw [show 3 - i = (3 - (i + 1)) + 1 by omega]
        rfl
      · exact congrArg (fun z : Int => E.v (.int .i64 z)) (wrap64_id (by omega) (by omega))
  · refine ⟨trivial, ⟨?_, ?_⟩, ⟨hu.1, hu.2⟩, trivial⟩
    · show 0 + u.toNat * 1 < (eBs ins).length
      simp only [eBs, List.length_map, j2]
      omega
    · exact bsIsA ins _ (by show 0 + u.toNat * 1 < ins.length; omega)
  · refine ⟨.inr rfl, _, _, rfl, by trivial, ?_⟩
    rename_i hi
    have hi := of_decide_eq_false hi
    have hi : i = 3 := by omega
    subst hi
    have : reachF l u ob rt = ins.getD u.toNat false := by
      show (rounds ob rt l 3 (init1 ob)).getD u.toNat false = _
      rw [← j3]
      rfl
    rw [this]
    exact congrArg (fun z : Bool => D.one (.e (.v (.bool z)))) (bsEnd ins u.toNat (by omega))
end Go.Proofs.YtphaholcndhonaaDoor
