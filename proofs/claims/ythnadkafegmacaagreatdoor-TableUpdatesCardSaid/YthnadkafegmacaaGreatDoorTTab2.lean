/- table.Check and the document's TableFault. No condition. -/
import Derived.Test.YthnadkafegmacaaGreatDoorTTab
namespace Go.Proofs.YthnadkafegmacaaGreatDoor
open Go Go.RowKit Go.Proofs.YthnadkafegmacaaGreatDoor.Ab
set_option linter.unusedSimpArgs false
set_option linter.unusedVariables false

structure Tbl where
  th : Bool
  n : Byt
  c : List Colm
  d : List (List Cel)
def eTab (t : Tbl) : List E := eBl t.th :: eT t.n :: eCols t.c :: (t.d.map eDr).flatten
structure Tbl.ok (t : Tbl) : Prop where
  h2 : t.d.length = 2
  h4 : ∀ d ∈ t.d, d.length = 4
  nm : t.n.length ≤ maxLen
  cs : ∀ c ∈ t.c, c.n.length ≤ maxLen
  vs : ∀ d ∈ t.d, ∀ x ∈ d, ∀ v ∈ x.r, v.fit
def celF (c : List Colm) : List Cel → Int
  | [] => 0
  | x :: r => if x.f = false then (if x.r.length ≠ 0 then 3 else celF c r) else if rowF x.r c ≠ 0 then rowF x.r c else celF c r
def drF (c : List Colm) : List (List Cel) → Int
  | [] => 0
  | d :: r => if celF c d ≠ 0 then celF c d else if kF [] d ≠ 0 then kF [] d else drF c r
def fstOk (c : List Colm) : Prop := ∃ a r, c = a :: r ∧ a.k = 2 ∧ a.u = false
def fstB : List Colm → Bool
  | [] => false
  | a :: _ => decide (a.k = 2) && !a.u
def tabF (t : Tbl) : Int := if t.th = false then 5 else if ¬ nmOk t.n then 3 else if colsF t.c ≠ 0 then colsF t.c else if fstB t.c = false then 3 else drF t.c t.d
theorem fstB_ok {c : List Colm} (h : fstB c = true) : fstOk c := by
  cases c with
  | nil => exact absurd h Bool.false_ne_true
  | cons a r =>
    unfold fstB at h
    rw [Bool.and_eq_true, decide_eq_true_eq, Bool.not_eq_true'] at h
    exact ⟨a, r, rfl, h.1, h.2⟩
theorem rowF_kOk {c : List Colm} {x : Cel} (hc : fstOk c) (h : x.f = true → rowF x.r c = 0) : kOk x := by
  intro hf
  obtain ⟨a, r, rfl, ha, hu⟩ := hc
  have h := h hf
  unfold rowF at h
  split at h
  · contradiction
  · split at h
    · exact absurd h (by decide)
    · rename_i h1 h2
      cases hx : x.r with
      | nil => rw [hx] at h2; exact absurd (by simp) h2
      | cons v vs =>
        rw [hx, rwF] at h
        split at h
        · contradiction
        · rename_i h3
          split at h
          · exact absurd h (by decide)
          · split at h
            · exact absurd h (by decide)
            · rename_i h5 h6
              have h3 : chk v = 0 := Classical.not_not.1 h3
              have hk : v.k = 2 := by omega
              unfold chk at h3
              refine ⟨List.cons_ne_nil _ _, hk, ?_, ?_⟩
              · show v.b = 0
                have : v.b.toNat = 0 := by omega
                exact BitVec.eq_of_toNat_eq this
              · show v.t = []
                exact List.eq_nil_of_length_eq_zero (by omega)
theorem celF_kOk {c : List Colm} (hc : fstOk c) : ∀ {d : List Cel}, celF c d = 0 → ∀ x ∈ d, kOk x
  | [], _ => fun x hx => absurd hx List.not_mem_nil
  | y :: r, h => by
    unfold celF at h
    intro x hx
    by_cases hy : y.f = false
    · rw [if_pos hy] at h
      split at h
      · exact absurd h (by decide)
      · rcases List.mem_cons.1 hx with rfl | hx
        · exact fun ht => absurd (hy.symm.trans ht) Bool.false_ne_true
        · exact celF_kOk hc h x hx
    · rw [if_neg hy] at h
      split at h
      · contradiction
      · rename_i h1
        rcases List.mem_cons.1 hx with rfl | hx
        · exact rowF_kOk hc fun _ => Classical.not_not.1 h1
        · exact celF_kOk hc h x hx
theorem tabLen {t : Tbl} (h : t.ok) : (eTab t).length = 19 := by
  have hd : ∀ l : List (List Cel), (∀ d ∈ l, d.length = 4) → ((l.map eDr).flatten).length = l.length * 8 := by
    intro l
    induction l with
    | nil => intro _; rfl
    | cons d l ih =>
      intro h
      rw [List.map_cons, List.flatten_cons, List.length_append, drLen d (h d List.mem_cons_self), ih fun x hx => h x (List.mem_cons_of_mem _ hx), List.length_cons]
      omega
  show ((t.d.map eDr).flatten).length + 1 + 1 + 1 = 19
  rw [hd _ h.h4, h.h2]
theorem tabDr {t : Tbl} (h : t.ok) : List.take 16 (List.drop (0 + 3) (eTab t)) = (t.d.map eDr).flatten := by
  have := tabLen h
  exact List.take_of_length_le (by rw [List.length_drop, this]; decide)
theorem drGet {l : List (List Cel)} (h : ∀ d ∈ l, d.length = 4) : ∀ i, i < l.length → ((l.map eDr).flatten.drop (i * 8)).take 8 = eDr (l.getD i []) := by
  induction l with
  | nil => intro i hi; exact absurd hi (Nat.not_lt_zero _)
  | cons a l ih =>
    have ha := drLen a (h a List.mem_cons_self)
    intro i hi
    cases i with
    | zero =>
      rw [List.map_cons, List.flatten_cons, Nat.zero_mul, List.drop_zero, ← ha, List.take_left']
      · rfl
      · rfl
    | succ i =>
      rw [List.map_cons, List.flatten_cons, show (i + 1) * 8 = (eDr a).length + i * 8 by rw [ha]; omega, ← List.drop_drop, List.drop_left']
      · rw [ih (fun x hx => h x (List.mem_cons_of_mem _ hx)) i (by simpa using hi)]
        rfl
      · rfl
theorem eTab0 (t : Tbl) : ((eTab t).getD (0 + 0) E.dflt).bool = t.th := rfl
theorem fst_nil : fstB [] = false := rfl
theorem fst_cons (a : Colm) (r : List Colm) : fstB (a :: r) = (decide (a.k = 2) && !a.u) := rfl
theorem fstG (r : Nat) (k : Int) (u : Bool) : (bif bif decide ((r : Int) + 1 = 0) then true else !decide (k = 2) then true else u) = !(decide (k = 2) && !u) := by
  rw [decide_eq_false (by omega)]
  cases u <;> cases decide (k = 2) <;> rfl
set_option maxRecDepth 10000 in
set_option maxHeartbeats 2000000 in
theorem tabCheck_fn (t : Tbl) (h : t.ok) : FnG Tryz.prog 98 gK [.agg (.es (eTab t))] (.one (.e (eI (tabF t)))) := by
  refine fn_introG (T := tab) tOk Tryz.func98 rfl (by kernel_rfl) (by simp [Tryz.ntmps98]) ?_
  intro X hX
  have hnt : X.nt = 79 := hX
  clear hX
  have h19 := tabLen h
  have hd := tabDr h
  have f19 : 0 + 19 ≤ (Cs.es (eTab t)).len := by show 0 + 19 ≤ (eTab t).length; omega
  have f16 : 0 + 3 + 16 ≤ (Cs.es (eTab t)).len := f19
  have h1 := lexCheck_fn ⟨1, t.n, 0, 0⟩ h.nm
  have h2 := columns_fn t.c h.cs
  have hnm := tkF_name t.n
  unfold tabF
  repeat' first | refine zzs ?_ | refine zzr hnt rfl ?_ ?_ | refine zzd hnt rfl ?_ ?_ | refine zzb ?_ | refine zzk ?_
  · exact zzt
  · exact zzt
  repeat' first | refine zzs ?_ | refine zzb ?_ | refine zzk ?_
  refine tr_cond rfl (fun hc => ?_) (fun hc => ?_)
  · simp only [zz1, zz2, zz3, zz4, zz5, zz6, zz7, zz8] at hc
    (try simp only [eTab0] at hc)
    (try simp only [zz1, zz2, zz3, zz4, zz5, zz6, zz7, zz8] at hc)
    rw [if_pos hc]
    repeat' first | refine zzs ?_ | refine zzr hnt rfl ?_ ?_ | refine zzd hnt rfl ?_ ?_ | refine zzb ?_ | refine zzk ?_
    · exact zzt
    exact tr_ret ⟨.inr rfl, _, _, rfl, trivial, rfl⟩
  simp only [zz1, zz2, zz3, zz4, zz5, zz6, zz7, zz8] at hc
  (try simp only [eTab0] at hc)
  (try simp only [zz1, zz2, zz3, zz4, zz5, zz6, zz7, zz8] at hc)
  rw [if_neg (by rw [hc]; exact Bool.noConfusion)]
  repeat' first | refine zzs ?_ | refine zzb ?_ | refine zzk ?_
  refine tr_region (zzx hnt rfl ?_ (callV rfl rfl rfl rfl rfl rfl rfl hnt rfl (h1) (zzx hnt rfl ?_ (Lex.nil _)))) ?_
  · exact zzt
  · exact zzt
  repeat' first | refine zzs ?_ | refine zzb ?_ | refine zzk ?_
  refine tr_cond rfl (fun hc => ?_) (fun hc => ?_)
  · simp only [zz1, zz2, zz3, zz4, zz5, zz6, zz7, zz8] at hc
    rw [if_pos (fun h => hc (hnm.2 h))]
    repeat' first | refine zzs ?_ | refine zzr hnt rfl ?_ ?_ | refine zzd hnt rfl ?_ ?_ | refine zzb ?_ | refine zzk ?_
    · exact zzt
    exact tr_ret ⟨.inr rfl, _, _, rfl, trivial, rfl⟩
  simp only [zz1, zz2, zz3, zz4, zz5, zz6, zz7, zz8] at hc
  rw [if_neg (not_not_intro (hnm.1 hc))]
  repeat' first | refine zzs ?_ | refine zzb ?_ | refine zzk ?_
  refine tr_region (zzx hnt rfl ?_ (callV rfl rfl rfl rfl rfl rfl rfl hnt rfl (h2) (zzx hnt rfl ?_ (Lex.nil _)))) ?_
  · exact zzt
  · exact zzt
  repeat' first | refine zzs ?_ | refine zzr hnt rfl ?_ ?_ | refine zzd hnt rfl ?_ ?_ | refine zzb ?_ | refine zzk ?_
  · exact zzt
  repeat' first | refine zzs ?_ | refine zzb ?_ | refine zzk ?_
  refine tr_cond rfl (fun hc => ?_) (fun hc => ?_)
  · simp only [zz1, zz2, zz3, zz4, zz5, zz6, zz7, zz8] at hc
    rw [if_pos hc]
    repeat' first | refine zzs ?_ | refine zzr hnt rfl ?_ ?_ | refine zzd hnt rfl ?_ ?_ | refine zzb ?_ | refine zzk ?_
    · exact zzt
    exact tr_ret ⟨.inr rfl, _, _, rfl, trivial, rfl⟩
  simp only [zz1, zz2, zz3, zz4, zz5, zz6, zz7, zz8] at hc
  rw [if_neg (not_not_intro hc)]
  clear h1 h2 hnm
  obtain ⟨th, n, c, d⟩ := t
  cases c with
  | nil =>
    repeat' first | refine zzs ?_ | refine zzb ?_ | refine zzk ?_
    first | refine zzr hnt rfl ?_ ?_ | refine zzd hnt rfl ?_ ?_
    · (dsimp only [AllP]; (repeat' first | exact trivial | assumption | exact Nat.le_of_ble_eq_true rfl | apply And.intro | (intro hh_; exact absurd (show true = false from hh_) Bool.noConfusion) | intro _ | exact rfl))
    repeat' first | refine zzs ?_ | refine zzb ?_ | refine zzk ?_
    refine tr_cond rfl (fun hc => ?_) (fun hc => ?_)
    · rw [if_pos fst_nil]
      repeat' first | refine zzs ?_ | refine zzr hnt rfl ?_ ?_ | refine zzd hnt rfl ?_ ?_ | refine zzb ?_ | refine zzk ?_
      · exact zzt
      exact tr_ret ⟨.inr rfl, _, _, rfl, trivial, rfl⟩
    exact absurd (show true = false from hc) Bool.noConfusion
  | cons a r =>
    rw [fst_cons]
    repeat' first | refine zzs ?_ | refine zzb ?_ | refine zzk ?_
    first | refine zzr hnt rfl ?_ ?_ | refine zzd hnt rfl ?_ ?_
    · (dsimp only [AllP]; (repeat' first | exact trivial | assumption | exact Nat.le_of_ble_eq_true rfl | apply And.intro | (intro _) | exact rfl | exact Int.natCast_pos.2 (Nat.succ_pos _) | exact Int.le_refl _))
    have hml : ((((eTab ⟨th, n, a :: r, d⟩).getD (0 + 2) E.dflt).xs.length : Nat) : Int) = (r.length : Int) + 1 := by show (((a :: r).map eCol).length : Int) = _; rw [List.length_map, List.length_cons]; omega
    repeat' first | refine zzs ?_ | refine zzb ?_ | refine zzk ?_
    refine tr_cond rfl (fun hc => ?_) (fun hc => ?_)
    · rw [hml] at hc
      have hc : (!(decide (a.k = 2) && !a.u)) = true := (fstG r.length a.k a.u).symm.trans hc
      rw [Bool.not_eq_true'] at hc
      rw [if_pos hc]
      repeat' first | refine zzs ?_ | refine zzr hnt rfl ?_ ?_ | refine zzd hnt rfl ?_ ?_ | refine zzb ?_ | refine zzk ?_
      · exact zzt
      exact tr_ret ⟨.inr rfl, _, _, rfl, trivial, rfl⟩
    rw [hml] at hc
    have hc : (!(decide (a.k = 2) && !a.u)) = false := (fstG r.length a.k a.u).symm.trans hc
    rw [Bool.not_eq_false'] at hc
    have hfs : fstOk (a :: r) := fstB_ok hc
    rw [if_neg (by rw [hc]; exact Bool.noConfusion)]
    generalize a :: r = c at *
    clear hml
    repeat' first | refine zzs ?_ | refine zzb ?_ | refine zzk ?_
    first | refine zzr hnt rfl ?_ ?_ | refine zzd hnt rfl ?_ ?_
    · exact zza
    rw [hd]
    repeat' first | refine zzs ?_ | refine zzb ?_ | refine zzk ?_
    refine tr_loop (σ := Nat) (fun i => St.of [(1, .one (.ptr 1 0 0)), (44, .agg (.es (d.map eDr).flatten)), (45, .one (.e (eI (i : Int)))), ((1000000 + 5), .one (.eptr fsE)), ((1000000 + 6), .one (.eptr acE))] [(1, ⟨0, .box (.es (eTab ⟨th, n, c, d⟩)), 0⟩)]) (fun i => drF c (d.drop i) = drF c d ∧ i ≤ d.length) (fun i => d.length - i) (0) (le_of (ad := []) ⟨zzl, zzl, zzl, zzl, zzl, trivial⟩ (memOk_box rfl rfl rfl trivial)) ⟨rfl, Nat.zero_le _⟩ ?_
    rintro i ⟨hi, il⟩
    have h2 : d.length = 2 := h.h2
    repeat' first | refine zzs ?_ | refine zzr hnt rfl ?_ ?_ | refine zzd hnt rfl ?_ ?_ | refine zzb ?_ | refine zzk ?_
    · exact zzt
    repeat' first | refine zzs ?_ | refine zzb ?_ | refine zzk ?_
    refine tr_cond rfl (fun hc => ?_) (fun hc => ?_)
    · simp only [zz1, zz2, zz3, zz4, zz5, zz6, zz7, zz8] at hc
      have hlt : i < d.length := by omega
      rw [drop_getD (d := []) hlt, drF] at hi
      have hg : List.take 8 (List.drop ((i : Int).toNat * 8) (d.map eDr).flatten) = eDr (d.getD i []) := drGet h.h4 i hlt
      have hdm : d.getD i [] ∈ d := by
        rw [List.getD_eq_getElem?_getD, List.getElem?_eq_getElem hlt]
        exact List.getElem_mem hlt
      have h4 : (d.getD i []).length = 4 := h.h4 _ hdm
      have hvs := h.vs _ hdm
      have h8 := drLen _ h4
      have e8 : (Cs.es (List.take 8 (List.drop ((i : Int).toNat * 8) (d.map eDr).flatten))).len = 8 := by rw [hg]; exact h8
      have l8 : i * 8 + 8 ≤ (Cs.es (d.map eDr).flatten).len := by rw [← hd]; show _ ≤ (List.take 16 _).length; rw [List.length_take, List.length_drop, h19]; omega
      repeat' first | refine zzs ?_ | refine zzb ?_ | refine zzk ?_
      first | refine zzr hnt rfl ?_ ?_ | refine zzd hnt rfl ?_ ?_
      · exact zza
      rw [hg]
      generalize d.getD i [] = e at *
      have f8 : 0 + 8 ≤ (Cs.es (eDr e)).len := by show 0 + 8 ≤ (eDr e).length; omega
      repeat' first | refine zzs ?_ | refine zzb ?_ | refine zzk ?_
      first | refine zzr hnt rfl ?_ ?_ | refine zzd hnt rfl ?_ ?_
      · exact zza
      rw [show List.take 8 (List.drop 0 (eDr e)) = eDr e from List.take_of_length_le (Nat.le_of_eq h8)]
      repeat' first | refine zzs ?_ | refine zzb ?_ | refine zzk ?_
      refine tr_loop (σ := Nat) (fun j => St.of [(1, .one (.ptr 1 0 0)), (5, .one (.ptr 5 0 0)), (44, .agg (.es (d.map eDr).flatten)), (45, .one (.e (eI (i : Int)))), (48, .agg (.es (eDr e))), (49, .one (.e (eI (j : Int)))), ((1000000 + 5), .one (.eptr fsE)), ((1000000 + 6), .one (.eptr acE))] [(1, ⟨0, .box (.es (eTab ⟨th, n, c, d⟩)), 0⟩), (5, ⟨0, .box (.es (eDr e)), 0⟩)]) (fun j => celF c (e.drop j) = celF c e ∧ j ≤ e.length) (fun j => e.length - j) (0) (le_of (ad := []) ⟨zzl, zzl, zzl, zzl, zzl, zzl, zzl, zzl, trivial⟩ (memOk_box rfl rfl rfl (memOk_box rfl rfl rfl trivial))) ⟨rfl, Nat.zero_le _⟩ ?_
      rintro j ⟨hj, jl⟩
      repeat' first | refine zzs ?_ | refine zzr hnt rfl ?_ ?_ | refine zzd hnt rfl ?_ ?_ | refine zzb ?_ | refine zzk ?_
      · exact zzt
      repeat' first | refine zzs ?_ | refine zzb ?_ | refine zzk ?_
      refine tr_cond rfl (fun hc => ?_) (fun hc => ?_)
      · simp only [zz1, zz2, zz3, zz4, zz5, zz6, zz7, zz8] at hc
        have hjt : j < e.length := by omega
        rw [drop_getD (d := cel0) hjt, celF] at hj
        have hg2 : List.take 2 (List.drop ((j : Int).toNat * 2) (eDr e)) = eCel (e.getD j cel0) := flatGet eCel 2 cel0 (fun _ => rfl) e j hjt
        have e2 : (Cs.es (List.take 2 (List.drop ((j : Int).toNat * 2) (eDr e)))).len = 2 := congrArg List.length hg2
        have l2 : j * 2 + 2 ≤ (Cs.es (eDr e)).len := by show _ ≤ (eDr e).length; omega
        repeat' first | refine zzs ?_ | refine zzb ?_ | refine zzk ?_
        first | refine zzr hnt rfl ?_ ?_ | refine zzd hnt rfl ?_ ?_
        · exact zza
        rw [hg2]
        have hxm : e.getD j cel0 ∈ e := by
          rw [List.getD_eq_getElem?_getD, List.getElem?_eq_getElem hjt]
          exact List.getElem_mem hjt
        have hv := hvs _ hxm
        generalize e.getD j cel0 = x at *
        clear hxm
        obtain ⟨xf, xr⟩ := x
        have hml : (xr.map eVal).length = xr.length := List.length_map ..
        cases xf with
        | false =>
          rw [if_pos rfl] at hj
          repeat' first | refine zzs ?_ | refine zzb ?_ | refine zzk ?_
          first | refine zzr hnt rfl ?_ ?_ | refine zzd hnt rfl ?_ ?_
          · exact zza
          repeat' first | refine zzs ?_ | refine zzb ?_ | refine zzk ?_
          refine tr_cond rfl (fun hc => ?_) (fun hc => ?_)
          · have hc : decide ((0 : Int) < ((xr.map eVal).length : Int)) = true := hc
            simp only [zz1, zz2, zz3, zz4, zz5, zz6, zz7, zz8] at hc
            (try simp only [hml] at hc)
            (try simp only [zz1, zz2, zz3, zz4, zz5, zz6, zz7, zz8] at hc)
            rw [if_pos (by show xr.length ≠ 0; omega)] at hj
            rw [← hj, if_pos (by decide)] at hi
            rw [← hi]
            repeat' first | refine zzs ?_ | refine zzr hnt rfl ?_ ?_ | refine zzd hnt rfl ?_ ?_ | refine zzb ?_ | refine zzk ?_
            · exact zzt
            exact tr_ret ⟨.inr rfl, _, _, rfl, trivial, rfl⟩
          have hc : decide ((0 : Int) < ((xr.map eVal).length : Int)) = false := hc
          simp only [zz1, zz2, zz3, zz4, zz5, zz6, zz7, zz8] at hc
          (try simp only [hml] at hc)
          (try simp only [zz1, zz2, zz3, zz4, zz5, zz6, zz7, zz8] at hc)
          rw [if_neg (by show ¬ xr.length ≠ 0; omega)] at hj
          repeat' first | refine zzs ?_ | refine zzr hnt rfl ?_ ?_ | refine zzd hnt rfl ?_ ?_ | refine zzb ?_ | refine zzk ?_
          · exact zzt
          repeat' first | refine zzs ?_ | refine zzb ?_ | refine zzk ?_
          refine tr_cond rfl (fun hc => ?_) (fun hc => ?_)
          · refine tr_exit ?_
            repeat' first | refine zzs ?_ | refine zzr hnt rfl ?_ ?_ | refine zzd hnt rfl ?_ ?_ | refine zzb ?_ | refine zzk ?_
            · exact zzt
            refine ⟨j + 1, ⟨hj, by omega⟩, by omega, le_of (ad := []) ⟨zzl, zzl, zzl, zzl, zzl, zzl, zzl, zzl, trivial⟩ (memOk_box rfl rfl rfl (memOk_box rfl rfl rfl trivial))⟩
          exact absurd (show true = false from hc) Bool.noConfusion
        | true =>
          rw [if_neg (fun h => Bool.noConfusion h)] at hj
          repeat' first | refine zzs ?_ | refine zzb ?_ | refine zzk ?_
          first | refine zzr hnt rfl ?_ ?_ | refine zzd hnt rfl ?_ ?_
          · exact zza
          repeat' first | refine zzs ?_ | refine zzb ?_ | refine zzk ?_
          refine tr_cond rfl (fun hc => ?_) (fun hc => ?_)
          · exact absurd (show false = true from hc) Bool.noConfusion
          repeat' first | refine zzs ?_ | refine zzb ?_ | refine zzk ?_
          first | refine zzr hnt rfl ?_ ?_ | refine zzd hnt rfl ?_ ?_
          · exact zza
          repeat' first | refine zzs ?_ | refine zzb ?_ | refine zzk ?_
          refine tr_cond rfl (fun hc => ?_) (fun hc => ?_)
          · exact absurd (show false = true from hc) Bool.noConfusion
          have h3 := Row_fn xr c h.cs (fun v hv' => (hv v hv').1)
          generalize rowF xr c = y at *
          repeat' first | refine zzs ?_ | refine zzb ?_ | refine zzk ?_
          refine tr_region (zzx hnt rfl ?_ (callV rfl rfl rfl rfl rfl rfl rfl hnt rfl (h3) (zzx hnt rfl ?_ (Lex.nil _)))) ?_
          · exact zzt
          · exact zzt
          repeat' first | refine zzs ?_ | refine zzr hnt rfl ?_ ?_ | refine zzd hnt rfl ?_ ?_ | refine zzb ?_ | refine zzk ?_
          · exact zzt
          repeat' first | refine zzs ?_ | refine zzb ?_ | refine zzk ?_
          refine tr_cond rfl (fun hc => ?_) (fun hc => ?_)
          · simp only [zz1, zz2, zz3, zz4, zz5, zz6, zz7, zz8] at hc
            rw [if_pos hc] at hj
            rw [← hj, if_pos hc] at hi
            rw [← hi]
            repeat' first | refine zzs ?_ | refine zzr hnt rfl ?_ ?_ | refine zzd hnt rfl ?_ ?_ | refine zzb ?_ | refine zzk ?_
            · exact zzt
            exact tr_ret ⟨.inr rfl, _, _, rfl, trivial, rfl⟩
          simp only [zz1, zz2, zz3, zz4, zz5, zz6, zz7, zz8] at hc
          rw [if_neg (not_not_intro hc)] at hj
          repeat' first | refine zzs ?_ | refine zzr hnt rfl ?_ ?_ | refine zzd hnt rfl ?_ ?_ | refine zzb ?_ | refine zzk ?_
          · exact zzt
          refine ⟨j + 1, ⟨hj, by omega⟩, by omega, le_of (ad := []) ⟨zzl, zzl, zzl, zzl, zzl, zzl, zzl, zzl, trivial⟩ (memOk_box rfl rfl rfl (memOk_box rfl rfl rfl trivial))⟩
      simp only [zz1, zz2, zz3, zz4, zz5, zz6, zz7, zz8] at hc
      refine tr_exit ?_
      rw [List.drop_eq_nil_of_le (by omega)] at hj
      have hj : celF c e = 0 := hj.symm
      rw [if_neg (not_not_intro hj)] at hi
      have h5 := keys_fn e h4 (celF_kOk hfs hj)
      rw [← show List.take 8 (List.drop 0 (eDr e)) = eDr e from List.take_of_length_le (Nat.le_of_eq h8)] at h5
      generalize kF [] e = y at *
      repeat' first | refine zzs ?_ | refine zzb ?_ | refine zzk ?_
      refine tr_region (zzx hnt rfl ?_ (call rfl rfl rfl rfl rfl rfl rfl hnt (h5) (zzx hnt rfl ?_ (Lex.nil _)))) ?_
      · exact zza
      · exact zzt
      repeat' first | refine zzs ?_ | refine zzr hnt rfl ?_ ?_ | refine zzd hnt rfl ?_ ?_ | refine zzb ?_ | refine zzk ?_
      · exact zzt
      repeat' first | refine zzs ?_ | refine zzb ?_ | refine zzk ?_
      refine tr_cond rfl (fun hc => ?_) (fun hc => ?_)
      · simp only [zz1, zz2, zz3, zz4, zz5, zz6, zz7, zz8] at hc
        rw [if_pos hc] at hi
        rw [← hi]
        repeat' first | refine zzs ?_ | refine zzr hnt rfl ?_ ?_ | refine zzd hnt rfl ?_ ?_ | refine zzb ?_ | refine zzk ?_
        · exact zzt
        exact tr_ret ⟨.inr rfl, _, _, rfl, trivial, rfl⟩
      simp only [zz1, zz2, zz3, zz4, zz5, zz6, zz7, zz8] at hc
      rw [if_neg (not_not_intro hc)] at hi
      repeat' first | refine zzs ?_ | refine zzr hnt rfl ?_ ?_ | refine zzd hnt rfl ?_ ?_ | refine zzb ?_ | refine zzk ?_
      · exact zzt
      refine ⟨i + 1, ⟨hi, by omega⟩, by omega, le_of (ad := []) ⟨zzl, zzl, zzl, zzl, zzl, trivial⟩ (memOk_box rfl rfl rfl trivial)⟩
    simp only [zz1, zz2, zz3, zz4, zz5, zz6, zz7, zz8] at hc
    refine tr_exit ?_
    rw [← hi, List.drop_eq_nil_of_le (by omega), drF]
    repeat' first | refine zzs ?_ | refine zzr hnt rfl ?_ ?_ | refine zzd hnt rfl ?_ ?_ | refine zzb ?_ | refine zzk ?_
    · exact zzt
    exact tr_ret ⟨.inr rfl, _, _, rfl, trivial, rfl⟩
set_option maxRecDepth 10000 in
set_option maxHeartbeats 2000000 in
theorem tableFault_fn (t : Tbl) (h : t.ok) : FnG Tryz.prog 105 gK [.agg (.es (eTab t))] (.one (.e (eI (tabF t)))) := by
  refine fn_introG (T := tab) tOk Tryz.func105 rfl (by kernel_rfl) (by simp [Tryz.ntmps105]) ?_
  intro X hX
  have hnt : X.nt = 80 := hX
  clear hX
  have h19 := tabLen h
  have hd := tabDr h
  have f19 : 0 + 19 ≤ (Cs.es (eTab t)).len := by show 0 + 19 ≤ (eTab t).length; omega
  have f16 : 0 + 3 + 16 ≤ (Cs.es (eTab t)).len := f19
  have h1 := isName_fn t.n h.nm
  have h2 := columnsFault_fn t.c h.cs
  have lc : (strB t.n).size = t.n.length := strB_size t.n
  unfold tabF
  repeat' first | refine zzs ?_ | refine zzr hnt rfl ?_ ?_ | refine zzd hnt rfl ?_ ?_ | refine zzb ?_ | refine zzk ?_
  · exact zzt
  · exact zzt
  repeat' first | refine zzs ?_ | refine zzb ?_ | refine zzk ?_
  refine tr_cond rfl (fun hc => ?_) (fun hc => ?_)
  · simp only [zz1, zz2, zz3, zz4, zz5, zz6, zz7, zz8] at hc
    (try simp only [eTab0] at hc)
    (try simp only [zz1, zz2, zz3, zz4, zz5, zz6, zz7, zz8] at hc)
    rw [if_pos hc]
    repeat' first | refine zzs ?_ | refine zzr hnt rfl ?_ ?_ | refine zzd hnt rfl ?_ ?_ | refine zzb ?_ | refine zzk ?_
    · exact zzt
    exact tr_ret ⟨.inr rfl, _, _, rfl, trivial, rfl⟩
  simp only [zz1, zz2, zz3, zz4, zz5, zz6, zz7, zz8] at hc
  (try simp only [eTab0] at hc)
  (try simp only [zz1, zz2, zz3, zz4, zz5, zz6, zz7, zz8] at hc)
  rw [if_neg (by rw [hc]; exact Bool.noConfusion)]
  repeat' first | refine zzs ?_ | refine zzb ?_ | refine zzk ?_
  refine tr_region (zzx hnt rfl ?_ (call rfl rfl rfl rfl rfl rfl rfl hnt (h1) (zzx hnt rfl ?_ (Lex.nil _)))) ?_
  · exact zzt
  · exact zzt
  have eN : ((eTab t).getD (0 + 1) E.dflt).str = strB t.n := rfl
  repeat' first | refine zzs ?_ | refine zzb ?_ | refine zzk ?_
  refine tr_cond rfl (fun hc => ?_) (fun hc => ?_)
  · simp only [zz1, zz2, zz3, zz4, zz5, zz6, zz7, zz8] at hc
    (try simp only [eN, lc] at hc)
    (try simp only [zz1, zz2, zz3, zz4, zz5, zz6, zz7, zz8] at hc)
    rw [if_pos (fun h => by rcases hc with hc | hc; exact Bool.false_ne_true (hc.symm.trans h.1); exact absurd h.2 (by omega))]
    repeat' first | refine zzs ?_ | refine zzr hnt rfl ?_ ?_ | refine zzd hnt rfl ?_ ?_ | refine zzb ?_ | refine zzk ?_
    · exact zzt
    exact tr_ret ⟨.inr rfl, _, _, rfl, trivial, rfl⟩
  simp only [zz1, zz2, zz3, zz4, zz5, zz6, zz7, zz8] at hc
  (try simp only [eN, lc] at hc)
  (try simp only [zz1, zz2, zz3, zz4, zz5, zz6, zz7, zz8] at hc)
  rw [if_neg (not_not_intro ⟨hc.1, by omega⟩)]
  repeat' first | refine zzs ?_ | refine zzb ?_ | refine zzk ?_
  refine tr_region (zzx hnt rfl ?_ (call rfl rfl rfl rfl rfl rfl rfl hnt (h2) (zzx hnt rfl ?_ (Lex.nil _)))) ?_
  · exact zzt
  · exact zzt
  repeat' first | refine zzs ?_ | refine zzr hnt rfl ?_ ?_ | refine zzd hnt rfl ?_ ?_ | refine zzb ?_ | refine zzk ?_
  · exact zzt
  repeat' first | refine zzs ?_ | refine zzb ?_ | refine zzk ?_
  refine tr_cond rfl (fun hc => ?_) (fun hc => ?_)
  · simp only [zz1, zz2, zz3, zz4, zz5, zz6, zz7, zz8] at hc
    rw [if_pos hc]
    repeat' first | refine zzs ?_ | refine zzr hnt rfl ?_ ?_ | refine zzd hnt rfl ?_ ?_ | refine zzb ?_ | refine zzk ?_
    · exact zzt
    exact tr_ret ⟨.inr rfl, _, _, rfl, trivial, rfl⟩
  simp only [zz1, zz2, zz3, zz4, zz5, zz6, zz7, zz8] at hc
  rw [if_neg (not_not_intro hc)]
  clear h1 h2 lc eN
  obtain ⟨th, n, c, d⟩ := t
  cases c with
  | nil =>
    repeat' first | refine zzs ?_ | refine zzb ?_ | refine zzk ?_
    first | refine zzr hnt rfl ?_ ?_ | refine zzd hnt rfl ?_ ?_
    · (dsimp only [AllP]; (repeat' first | exact trivial | assumption | exact Nat.le_of_ble_eq_true rfl | apply And.intro | (intro hh_; exact absurd (show true = false from hh_) Bool.noConfusion) | intro _ | exact rfl))
    repeat' first | refine zzs ?_ | refine zzb ?_ | refine zzk ?_
    refine tr_cond rfl (fun hc => ?_) (fun hc => ?_)
    · rw [if_pos fst_nil]
      repeat' first | refine zzs ?_ | refine zzr hnt rfl ?_ ?_ | refine zzd hnt rfl ?_ ?_ | refine zzb ?_ | refine zzk ?_
      · exact zzt
      exact tr_ret ⟨.inr rfl, _, _, rfl, trivial, rfl⟩
    exact absurd (show true = false from hc) Bool.noConfusion
  | cons a r =>
    rw [fst_cons]
    repeat' first | refine zzs ?_ | refine zzb ?_ | refine zzk ?_
    first | refine zzr hnt rfl ?_ ?_ | refine zzd hnt rfl ?_ ?_
    · (dsimp only [AllP]; (repeat' first | exact trivial | assumption | exact Nat.le_of_ble_eq_true rfl | apply And.intro | (intro _) | exact rfl | exact Int.natCast_pos.2 (Nat.succ_pos _) | exact Int.le_refl _))
    have hml : ((((eTab ⟨th, n, a :: r, d⟩).getD (0 + 2) E.dflt).xs.length : Nat) : Int) = (r.length : Int) + 1 := by show (((a :: r).map eCol).length : Int) = _; rw [List.length_map, List.length_cons]; omega
    repeat' first | refine zzs ?_ | refine zzb ?_ | refine zzk ?_
    refine tr_cond rfl (fun hc => ?_) (fun hc => ?_)
    · rw [hml] at hc
      have hc : (!(decide (a.k = 2) && !a.u)) = true := (fstG r.length a.k a.u).symm.trans hc
      rw [Bool.not_eq_true'] at hc
      rw [if_pos hc]
      repeat' first | refine zzs ?_ | refine zzr hnt rfl ?_ ?_ | refine zzd hnt rfl ?_ ?_ | refine zzb ?_ | refine zzk ?_
      · exact zzt
      exact tr_ret ⟨.inr rfl, _, _, rfl, trivial, rfl⟩
    rw [hml] at hc
    have hc : (!(decide (a.k = 2) && !a.u)) = false := (fstG r.length a.k a.u).symm.trans hc
    rw [Bool.not_eq_false'] at hc
    have hfs : fstOk (a :: r) := fstB_ok hc
    rw [if_neg (by rw [hc]; exact Bool.noConfusion)]
    generalize a :: r = c at *
    clear hml
    repeat' first | refine zzs ?_ | refine zzb ?_ | refine zzk ?_
    first | refine zzr hnt rfl ?_ ?_ | refine zzd hnt rfl ?_ ?_
    · exact zza
    rw [hd]
    repeat' first | refine zzs ?_ | refine zzb ?_ | refine zzk ?_
    refine tr_loop (σ := Nat) (fun i => St.of [(1, .one (.ptr 1 0 0)), (51, .agg (.es (d.map eDr).flatten)), (52, .one (.e (eI (i : Int)))), ((1000000 + 5), .one (.eptr fsE)), ((1000000 + 6), .one (.eptr acE))] [(1, ⟨0, .box (.es (eTab ⟨th, n, c, d⟩)), 0⟩)]) (fun i => drF c (d.drop i) = drF c d ∧ i ≤ d.length) (fun i => d.length - i) (0) (le_of (ad := []) ⟨zzl, zzl, zzl, zzl, zzl, trivial⟩ (memOk_box rfl rfl rfl trivial)) ⟨rfl, Nat.zero_le _⟩ ?_
    rintro i ⟨hi, il⟩
    have h2 : d.length = 2 := h.h2
    repeat' first | refine zzs ?_ | refine zzr hnt rfl ?_ ?_ | refine zzd hnt rfl ?_ ?_ | refine zzb ?_ | refine zzk ?_
    · exact zzt
    repeat' first | refine zzs ?_ | refine zzb ?_ | refine zzk ?_
    refine tr_cond rfl (fun hc => ?_) (fun hc => ?_)
    · simp only [zz1, zz2, zz3, zz4, zz5, zz6, zz7, zz8] at hc
      have hlt : i < d.length := by omega
      rw [drop_getD (d := []) hlt, drF] at hi
      have hg : List.take 8 (List.drop ((i : Int).toNat * 8) (d.map eDr).flatten) = eDr (d.getD i []) := drGet h.h4 i hlt
      have hdm : d.getD i [] ∈ d := by
        rw [List.getD_eq_getElem?_getD, List.getElem?_eq_getElem hlt]
        exact List.getElem_mem hlt
      have h4 : (d.getD i []).length = 4 := h.h4 _ hdm
      have hvs := h.vs _ hdm
      have h8 := drLen _ h4
      have e8 : (Cs.es (List.take 8 (List.drop ((i : Int).toNat * 8) (d.map eDr).flatten))).len = 8 := by rw [hg]; exact h8
      have l8 : i * 8 + 8 ≤ (Cs.es (d.map eDr).flatten).len := by rw [← hd]; show _ ≤ (List.take 16 _).length; rw [List.length_take, List.length_drop, h19]; omega
      repeat' first | refine zzs ?_ | refine zzb ?_ | refine zzk ?_
      first | refine zzr hnt rfl ?_ ?_ | refine zzd hnt rfl ?_ ?_
      · exact zza
      rw [hg]
      generalize d.getD i [] = e at *
      have f8 : 0 + 8 ≤ (Cs.es (eDr e)).len := by show 0 + 8 ≤ (eDr e).length; omega
      repeat' first | refine zzs ?_ | refine zzb ?_ | refine zzk ?_
      first | refine zzr hnt rfl ?_ ?_ | refine zzd hnt rfl ?_ ?_
      · exact zza
      rw [show List.take 8 (List.drop 0 (eDr e)) = eDr e from List.take_of_length_le (Nat.le_of_eq h8)]
      repeat' first | refine zzs ?_ | refine zzb ?_ | refine zzk ?_
      refine tr_loop (σ := Nat) (fun j => St.of [(1, .one (.ptr 1 0 0)), (5, .one (.ptr 5 0 0)), (51, .agg (.es (d.map eDr).flatten)), (52, .one (.e (eI (i : Int)))), (55, .agg (.es (eDr e))), (56, .one (.e (eI (j : Int)))), ((1000000 + 5), .one (.eptr fsE)), ((1000000 + 6), .one (.eptr acE))] [(1, ⟨0, .box (.es (eTab ⟨th, n, c, d⟩)), 0⟩), (5, ⟨0, .box (.es (eDr e)), 0⟩)]) (fun j => celF c (e.drop j) = celF c e ∧ j ≤ e.length) (fun j => e.length - j) (0) (le_of (ad := []) ⟨zzl, zzl, zzl, zzl, zzl, zzl, zzl, zzl, trivial⟩ (memOk_box rfl rfl rfl (memOk_box rfl rfl rfl trivial))) ⟨rfl, Nat.zero_le _⟩ ?_
      rintro j ⟨hj, jl⟩
      repeat' first | refine zzs ?_ | refine zzr hnt rfl ?_ ?_ | refine zzd hnt rfl ?_ ?_ | refine zzb ?_ | refine zzk ?_
      · exact zzt
      repeat' first | refine zzs ?_ | refine zzb ?_ | refine zzk ?_
      refine tr_cond rfl (fun hc => ?_) (fun hc => ?_)
      · simp only [zz1, zz2, zz3, zz4, zz5, zz6, zz7, zz8] at hc
        have hjt : j < e.length := by omega
        rw [drop_getD (d := cel0) hjt, celF] at hj
        have hg2 : List.take 2 (List.drop ((j : Int).toNat * 2) (eDr e)) = eCel (e.getD j cel0) := flatGet eCel 2 cel0 (fun _ => rfl) e j hjt
        have e2 : (Cs.es (List.take 2 (List.drop ((j : Int).toNat * 2) (eDr e)))).len = 2 := congrArg List.length hg2
        have l2 : j * 2 + 2 ≤ (Cs.es (eDr e)).len := by show _ ≤ (eDr e).length; omega
        repeat' first | refine zzs ?_ | refine zzb ?_ | refine zzk ?_
        first | refine zzr hnt rfl ?_ ?_ | refine zzd hnt rfl ?_ ?_
        · exact zza
        rw [hg2]
        have hxm : e.getD j cel0 ∈ e := by
          rw [List.getD_eq_getElem?_getD, List.getElem?_eq_getElem hjt]
          exact List.getElem_mem hjt
        have hv := hvs _ hxm
        generalize e.getD j cel0 = x at *
        clear hxm
        obtain ⟨xf, xr⟩ := x
        have hml : (xr.map eVal).length = xr.length := List.length_map ..
        cases xf with
        | false =>
          rw [if_pos rfl] at hj
          repeat' first | refine zzs ?_ | refine zzb ?_ | refine zzk ?_
          first | refine zzr hnt rfl ?_ ?_ | refine zzd hnt rfl ?_ ?_
          · exact zza
          repeat' first | refine zzs ?_ | refine zzb ?_ | refine zzk ?_
          refine tr_cond rfl (fun hc => ?_) (fun hc => ?_)
          · exact absurd (show false = true from hc) Bool.noConfusion
          repeat' first | refine zzs ?_ | refine zzb ?_ | refine zzk ?_
          first | refine zzr hnt rfl ?_ ?_ | refine zzd hnt rfl ?_ ?_
          · exact zza
          repeat' first | refine zzs ?_ | refine zzb ?_ | refine zzk ?_
          refine tr_cond rfl (fun hc => ?_) (fun hc => ?_)
          · have hc : (!decide (((xr.map eVal).length : Int) = 0)) = true := hc
            simp only [zz1, zz2, zz3, zz4, zz5, zz6, zz7, zz8] at hc
            (try simp only [hml] at hc)
            (try simp only [zz1, zz2, zz3, zz4, zz5, zz6, zz7, zz8] at hc)
            rw [if_pos (by show xr.length ≠ 0; omega)] at hj
            rw [← hj, if_pos (by decide)] at hi
            rw [← hi]
            repeat' first | refine zzs ?_ | refine zzr hnt rfl ?_ ?_ | refine zzd hnt rfl ?_ ?_ | refine zzb ?_ | refine zzk ?_
            · exact zzt
            exact tr_ret ⟨.inr rfl, _, _, rfl, trivial, rfl⟩
          have hc : (!decide (((xr.map eVal).length : Int) = 0)) = false := hc
          simp only [zz1, zz2, zz3, zz4, zz5, zz6, zz7, zz8] at hc
          (try simp only [hml] at hc)
          (try simp only [zz1, zz2, zz3, zz4, zz5, zz6, zz7, zz8] at hc)
          rw [if_neg (by show ¬ xr.length ≠ 0; omega)] at hj
          repeat' first | refine zzs ?_ | refine zzr hnt rfl ?_ ?_ | refine zzd hnt rfl ?_ ?_ | refine zzb ?_ | refine zzk ?_
          · exact zzt
          refine ⟨j + 1, ⟨hj, by omega⟩, by omega, le_of (ad := []) ⟨zzl, zzl, zzl, zzl, zzl, zzl, zzl, zzl, trivial⟩ (memOk_box rfl rfl rfl (memOk_box rfl rfl rfl trivial))⟩
        | true =>
          rw [if_neg (fun h => Bool.noConfusion h)] at hj
          repeat' first | refine zzs ?_ | refine zzb ?_ | refine zzk ?_
          first | refine zzr hnt rfl ?_ ?_ | refine zzd hnt rfl ?_ ?_
          · exact zza
          have h3 := rowFault_fn xr c h.cs (fun v hv' => (hv v hv').1)
          generalize rowF xr c = y at *
          repeat' first | refine zzs ?_ | refine zzb ?_ | refine zzk ?_
          refine tr_cond rfl (fun hc => ?_) (fun hc => ?_)
          · repeat' first | refine zzs ?_ | refine zzb ?_ | refine zzk ?_
            refine tr_region (zzx hnt rfl ?_ (callV rfl rfl rfl rfl rfl rfl rfl hnt rfl (h3) (zzx hnt rfl ?_ (Lex.nil _)))) ?_
            · exact zzt
            · exact zzt
            repeat' first | refine zzs ?_ | refine zzr hnt rfl ?_ ?_ | refine zzd hnt rfl ?_ ?_ | refine zzb ?_ | refine zzk ?_
            · exact zzt
            repeat' first | refine zzs ?_ | refine zzb ?_ | refine zzk ?_
            refine tr_cond rfl (fun hc => ?_) (fun hc => ?_)
            · simp only [zz1, zz2, zz3, zz4, zz5, zz6, zz7, zz8] at hc
              rw [if_pos hc] at hj
              rw [← hj, if_pos hc] at hi
              rw [← hi]
              repeat' first | refine zzs ?_ | refine zzr hnt rfl ?_ ?_ | refine zzd hnt rfl ?_ ?_ | refine zzb ?_ | refine zzk ?_
              · exact zzt
              exact tr_ret ⟨.inr rfl, _, _, rfl, trivial, rfl⟩
            simp only [zz1, zz2, zz3, zz4, zz5, zz6, zz7, zz8] at hc
            rw [if_neg (not_not_intro hc)] at hj
            repeat' first | refine zzs ?_ | refine zzr hnt rfl ?_ ?_ | refine zzd hnt rfl ?_ ?_ | refine zzb ?_ | refine zzk ?_
            · exact zzt
            refine ⟨j + 1, ⟨hj, by omega⟩, by omega, le_of (ad := []) ⟨zzl, zzl, zzl, zzl, zzl, zzl, zzl, zzl, trivial⟩ (memOk_box rfl rfl rfl (memOk_box rfl rfl rfl trivial))⟩
          exact absurd (show true = false from hc) Bool.noConfusion
      simp only [zz1, zz2, zz3, zz4, zz5, zz6, zz7, zz8] at hc
      refine tr_exit ?_
      rw [List.drop_eq_nil_of_le (by omega)] at hj
      have hj : celF c e = 0 := hj.symm
      rw [if_neg (not_not_intro hj)] at hi
      have h5 := keysFault_fn e h4 (celF_kOk hfs hj)
      rw [← show List.take 8 (List.drop 0 (eDr e)) = eDr e from List.take_of_length_le (Nat.le_of_eq h8)] at h5
      generalize kF [] e = y at *
      repeat' first | refine zzs ?_ | refine zzb ?_ | refine zzk ?_
      refine tr_region (zzx hnt rfl ?_ (call rfl rfl rfl rfl rfl rfl rfl hnt (h5) (zzx hnt rfl ?_ (Lex.nil _)))) ?_
      · exact zza
      · exact zzt
      repeat' first | refine zzs ?_ | refine zzr hnt rfl ?_ ?_ | refine zzd hnt rfl ?_ ?_ | refine zzb ?_ | refine zzk ?_
      · exact zzt
      repeat' first | refine zzs ?_ | refine zzb ?_ | refine zzk ?_
      refine tr_cond rfl (fun hc => ?_) (fun hc => ?_)
      · simp only [zz1, zz2, zz3, zz4, zz5, zz6, zz7, zz8] at hc
        rw [if_pos hc] at hi
        rw [← hi]
        repeat' first | refine zzs ?_ | refine zzr hnt rfl ?_ ?_ | refine zzd hnt rfl ?_ ?_ | refine zzb ?_ | refine zzk ?_
        · exact zzt
        exact tr_ret ⟨.inr rfl, _, _, rfl, trivial, rfl⟩
      simp only [zz1, zz2, zz3, zz4, zz5, zz6, zz7, zz8] at hc
      rw [if_neg (not_not_intro hc)] at hi
      repeat' first | refine zzs ?_ | refine zzr hnt rfl ?_ ?_ | refine zzd hnt rfl ?_ ?_ | refine zzb ?_ | refine zzk ?_
      · exact zzt
      refine ⟨i + 1, ⟨hi, by omega⟩, by omega, le_of (ad := []) ⟨zzl, zzl, zzl, zzl, zzl, trivial⟩ (memOk_box rfl rfl rfl trivial)⟩
    simp only [zz1, zz2, zz3, zz4, zz5, zz6, zz7, zz8] at hc
    refine tr_exit ?_
    rw [← hi, List.drop_eq_nil_of_le (by omega), drF]
    repeat' first | refine zzs ?_ | refine zzr hnt rfl ?_ ?_ | refine zzd hnt rfl ?_ ?_ | refine zzb ?_ | refine zzk ?_
    · exact zzt
    exact tr_ret ⟨.inr rfl, _, _, rfl, trivial, rfl⟩
end Go.Proofs.YthnadkafegmacaaGreatDoor
