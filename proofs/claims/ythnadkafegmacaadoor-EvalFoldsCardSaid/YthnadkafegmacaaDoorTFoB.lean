/- What is known of an expression ahead of any row: the document's way. No condition. -/
import Derived.Test.YthnadkafegmacaaDoorTFoA
namespace Go.Proofs.YthnadkafegmacaaDoor
open Go Go.RowKit Go.Proofs.YthnadkafegmacaaDoor.Ab
set_option linter.unusedSimpArgs false
set_option linter.unusedVariables false

def isLit (b : Ex) : Prop := b = litX b.v ∧ good b.v ∧ 0 ≤ b.v.i
theorem joinX_op {op : Int} (h : op ≠ 1) {l : List Ex} {r : Val × Int} (h1 : (joinX op l r).op = 1) : joinX op l r = litX r.1 ∧ r.2 = 0 ∧ 0 ≤ r.1.i ∧ l.all (fun a => decide (a.op = 1)) = true := by
  unfold joinX at h1 ⊢
  split at h1
  · rename_i hc
    rw [if_pos hc]
    exact ⟨rfl, hc.2.1, hc.2.2, hc.1⟩
  · exact absurd h1 h
/-- a part that is folded to a value has that value -/
theorem lit_of {x : Ex} (ho : exOk x) (hn : ndF x = 0) (h1 : (fdX x).op = 1) : isLit (fdX x) ∧ (thO [] x).ev [] = ((fdX x).v, 0) := by
  obtain ⟨n1, n2⟩ := nd_zero hn
  obtain ⟨k1, k2, k3, k4, k5, k6, k7⟩ := node_ok n1
  obtain ⟨w1, w2, w3⟩ := want_cases k1 k2
  have hok := th_ok [] [] rfl (fun v hv => nomatch hv) (nodes x) x (Nat.le_refl _) ho hn
  have hgd := (thO [] x).ev_good hok
  rw [fdX_eq] at h1 ⊢
  by_cases h0 : x.ar.length = 0
  · rw [if_pos h0] at h1 ⊢
    have hx : x = litX x.v := by
      obtain ⟨op, v, n, ar⟩ := x
      have h1 : op = 1 := h1
      subst h1
      have e1 : ar = [] := List.eq_nil_of_length_eq_zero h0
      have e2 : n = [] := List.eq_nil_of_length_eq_zero (Classical.not_not.1 fun e => absurd (show (1 : Int) = 2 from k4.2 e) (by decide))
      subst e1
      subst e2
      rfl
    have h7 := k7 h1
    refine ⟨⟨hx, ⟨h7.1, (exOk_parts ho).1.1.2⟩, h7.2⟩, ?_⟩
    rw [hx]
    rfl
  · rw [if_neg h0] at h1 ⊢
    have hne : x.op ≠ 1 := fun e => h0 (by have := w1.2 (.inl e); omega)
    obtain ⟨j1, j2, j3, _⟩ := joinX_op hne h1
    have hg := hgd j2
    generalize (thO [] x).ev [] = r at *
    obtain ⟨v, e⟩ := r
    dsimp only at j1 j2 j3 hg
    rw [j1]
    subst j2
    exact ⟨⟨rfl, hg, j3⟩, rfl⟩
theorem lit_ok {b : Ex} (h : isLit b) : exOk b ∧ ndF b = 0 ∧ nodes b = 1 ∧ (thO [] b).ev [] = (b.v, 0) := by
  obtain ⟨h1, h2, h3⟩ := h
  generalize b.v = v at *
  subst h1
  have hc := chk_cases h2.1
  refine ⟨⟨by decide, ⟨⟨⟨by omega, by omega⟩, h2.2⟩, by simp only [maxLen]; omega⟩, Nat.zero_le _, Nat.zero_le _, trivial⟩, ?_, rfl, rfl⟩
  rw [ndF_eq]
  have hn : nodeF (litX v) = 0 := (nodeF_zero (x := litX v) (show (1 : Int) ≤ 1 by decide) (show (1 : Int) ≤ 20 by decide)).2.2 ⟨rfl, ⟨fun e => absurd (show (1 : Int) = 2 from e) (by decide), fun e => absurd rfl e⟩, .inl rfl, fun e => absurd (show (1 : Int) = 2 from e) (by decide), fun _ => ⟨h2.1, h3⟩⟩
  rw [hn, if_neg (by decide)]
  rfl
theorem opX_ok {op : Int} {l : List Ex} (h1 : op1 op ∨ op2 op) (hw : (l.length : Int) = wantF op) (hl : ∀ b ∈ l, isLit b) : exOk (opX op l) ∧ ndF (opX op l) = 0 := by
  have hr : 3 ≤ op ∧ op ≤ 20 := by unfold op1 op2 at h1; omega
  have hlen : l.length ≤ 2 := by
    have : wantF op ≤ 2 := by unfold wantF; split; decide; split <;> decide
    omega
  constructor
  · refine ⟨⟨by omega, by omega⟩, ⟨⟨by decide, by decide⟩, Nat.zero_le _⟩, Nat.zero_le _, by simp only [maxLen]; omega, ?_⟩
    clear hw hlen
    induction l with
    | nil => trivial
    | cons b r ih => exact ⟨(lit_ok (hl b List.mem_cons_self)).1, ih fun c hc => hl c (List.mem_cons_of_mem _ hc)⟩
  · rw [ndF_eq]
    have hn : nodeF (opX op l) = 0 := (nodeF_zero (x := opX op l) (by show 1 ≤ op; omega) (by show op ≤ 20; omega)).2.2 ⟨hw, ⟨fun e => absurd (show op = 2 from e) (by omega), fun e => absurd rfl e⟩, .inr ⟨rfl, rfl, rfl, rfl⟩, fun e => absurd (show op = 2 from e) (by omega), fun e => absurd (show op = 1 from e) (by omega)⟩
    rw [hn, if_neg (by decide)]
    show ndL l = 0
    clear hw hlen hn
    induction l with
    | nil => rfl
    | cons b r ih =>
      rw [ndL, (lit_ok (hl b List.mem_cons_self)).2.1, if_neg (by decide)]
      exact ih fun c hc => hl c (List.mem_cons_of_mem _ hc)
/-- folded parts have the values that the parts had -/
theorem ev_opX {x : Ex} (ho : exOk x) (hn : ndF x = 0) (hk : x.ar.length ≠ 0) (hall : (fdL x.ar).all (fun a => decide (a.op = 1)) = true) : (op1 x.op ∨ op2 x.op) ∧ ((fdL x.ar).length : Int) = wantF x.op ∧ (∀ b ∈ fdL x.ar, isLit b) ∧ (thO [] (opX x.op (fdL x.ar))).ev [] = (thO [] x).ev [] := by
  obtain ⟨n1, n2⟩ := nd_zero hn
  obtain ⟨k1, k2, k3, k4, k5, k6, k7⟩ := node_ok n1
  obtain ⟨w1, w2, w3⟩ := want_cases k1 k2
  have hL := exOk_kids ho
  have hw2 : wantF x.op ≤ 2 := by unfold wantF; split; decide; split <;> decide
  have hlit : ∀ a ∈ x.ar, isLit (fdX a) ∧ (thO [] a).ev [] = ((fdX a).v, 0) := fun a ha => lit_of (hL.2 a ha) (n2 a ha) (of_decide_eq_true (List.all_eq_true.1 hall (fdX a) (by rw [fdL_map]; exact List.mem_map_of_mem ha)))
  refine ⟨?_, by rw [fdL_map, List.length_map]; exact k3, fun b hb => ?_, ?_⟩
  · rcases (by omega : wantF x.op = 1 ∨ wantF x.op = 2) with h | h
    · exact .inl (w2.1 h)
    · exact .inr (w3.1 h)
  · rw [fdL_map] at hb
    obtain ⟨a, ha, rfl⟩ := List.mem_map.1 hb
    exact (hlit a ha).1
  · obtain ⟨op, v, n, ar⟩ := x
    have hk : ar.length ≠ 0 := hk
    have k3 : (ar.length : Int) = wantF op := k3
    have hw2 : wantF op ≤ 2 := hw2
    have hlit : ∀ a ∈ ar, isLit (fdX a) ∧ (thO [] a).ev [] = ((fdX a).v, 0) := hlit
    show (thO [] (opX op (fdL ar))).ev [] = _
    rcases ar with _ | ⟨a, _ | ⟨b, _ | ⟨c, r⟩⟩⟩
    · exact absurd rfl hk
    · have h1 := hlit a (by simp)
      have e1 := (lit_ok h1.1).2.2.2
      rw [thO_eq, thO_eq]
      show solF op ((thO [] (fdX a)).ev []) = solF op ((thO [] a).ev [])
      rw [e1, h1.2]
    · have h1 := hlit a (by simp)
      have h2 := hlit b (by simp)
      have e1 := (lit_ok h1.1).2.2.2
      have e2 := (lit_ok h2.1).2.2.2
      rw [thO_eq, thO_eq]
      show twnF op ((thO [] (fdX a)).ev []) ((thO [] (fdX b)).ev []) = twnF op ((thO [] a).ev []) ((thO [] b).ev [])
      rw [e1, e2, h1.2, h2.2]
    · simp only [List.length_cons] at k3
      omega
theorem fdL_app (l r : List Ex) : fdL (l ++ r) = fdL l ++ fdL r := by rw [fdL_map, fdL_map, fdL_map, List.map_append]
theorem eExs_snoc (l : List Ex) (b : Ex) : eExs (l ++ [b]) = eExs l ++ [eEx b] := by rw [eExs_app, eExs, eExs]
def outD (op : Int) : List D0 := [.e (eI op), .e (eI 0), .e (eI 0), .e (eQ 0), .e (eT []), .e (eT []), .own 3000 0]
set_option maxRecDepth 10000 in
set_option maxHeartbeats 2000000 in
theorem foldedR_step (x : Ex) (hL : x.ar.length ≤ 2) (hx : exOk x) (hn : ndF x = 0) (ih : ∀ a ∈ x.ar, FnD Tryd.prog 38 [.agg (.es (eEx a))] (.agg (.es (eEx (fdX a))))) : FnD Tryd.prog 38 [.agg (.es (eEx x))] (.agg (.es (eEx (fdX x)))) := by
  refine fn_intro (T := tab) tOk Tryd.func38 rfl (by kernel_rfl) (by simp [Tryd.ntmps38]) ?_
  intro X hX
  have hnt : X.nt = 56 := hX
  clear hX
  have hml := exsLen x.ar
  have hF := fdX_eq x
  generalize fdX x = Z at *
  rw [eEx_eq x]
  repeat' first | refine zzs ?_ | refine zzb ?_ | refine zzk ?_
  first | refine zzr hnt rfl ?_ ?_ | refine zzd hnt rfl ?_ ?_
  · exact zzt
  repeat' first | refine zzs ?_ | refine zzb ?_ | refine zzk ?_
  first | refine zzr hnt rfl ?_ ?_ | refine zzd hnt rfl ?_ ?_
  · exact zza
  repeat' first | refine zzs ?_ | refine zzb ?_ | refine zzk ?_
  refine tr_cond rfl (fun hc => ?_) (fun hc => ?_)
  · simp only [zz1, zz2, zz3, zz4, zz5, zz6, zz7, zz8] at hc
    have hc : (((eExs x.ar).length : Nat) : Int) = 0 := hc
    rw [if_pos (by omega)] at hF
    rw [hF, eEx_eq x]
    repeat' first | refine zzs ?_ | refine zzr hnt rfl ?_ ?_ | refine zzd hnt rfl ?_ ?_ | refine zzb ?_ | refine zzk ?_
    · exact zzt
    exact tr_ret ⟨.inr rfl, _, _, rfl, zzp, rfl⟩
  simp only [zz1, zz2, zz3, zz4, zz5, zz6, zz7, zz8] at hc
  have hc : ¬ (((eExs x.ar).length : Nat) : Int) = 0 := hc
  have hk : x.ar.length ≠ 0 := by omega
  rw [if_neg hk] at hF
  repeat' first | refine zzs ?_ | refine zzb ?_ | refine zzk ?_
  first | refine zzr hnt rfl ?_ ?_ | refine zzd hnt rfl ?_ ?_
  · exact zzt
  repeat' first | refine zzs ?_ | refine zzb ?_ | refine zzk ?_
  first | refine zzr hnt rfl ?_ ?_ | refine zzd hnt rfl ?_ ?_
  · exact zzt
  repeat' first | refine zzs ?_ | refine zzb ?_ | refine zzk ?_
  first | refine zzr hnt rfl ?_ ?_ | refine zzd hnt rfl ?_ ?_
  · exact zzt
  repeat' first | refine zzs ?_ | refine zzb ?_ | refine zzk ?_
  refine tr_loop (σ := Nat) (fun i => St.of [(2, .one (.ptr 2 0 0)), (3, .one (.ptr 3 0 0)), (4, .v (.bool ((fdL (x.ar.take i)).all fun a => decide (a.op = 1)))), (19, .one (.e (.sl (eExs x.ar)))), (20, .one (.e (eI ((eExs x.ar).length : Int)))), (21, .one (.e (eI (i : Int))))] [(2, ⟨0, .box (.ds exZ), 0⟩), (3, ⟨0, .box (.ds (outD x.op)), 0⟩), (3000, ⟨0, .row 7 (eExs (fdL (x.ar.take i))), 0⟩)]) (fun i => i ≤ x.ar.length) (fun i => x.ar.length - i) (0) (le_of (ad := [3000]) ⟨zzl, zzl, zzl, zzl, zzl, zzl, trivial⟩ (memOk_box rfl rfl exZ_sim (memOk_box rfl rfl (by repeat' first | exact trivial | rfl | apply And.intro) (memOk_new rfl (by decide) trivial)))) (Nat.zero_le _) ?_
  rintro i il
  repeat' first | refine zzs ?_ | refine zzr hnt rfl ?_ ?_ | refine zzd hnt rfl ?_ ?_ | refine zzb ?_ | refine zzk ?_
  · exact zzt
  repeat' first | refine zzs ?_ | refine zzb ?_ | refine zzk ?_
  refine tr_cond rfl (fun hc => ?_) (fun hc => ?_)
  · simp only [zz1, zz2, zz3, zz4, zz5, zz6, zz7, zz8] at hc
    (try simp only [hml] at hc)
    (try simp only [zz1, zz2, zz3, zz4, zz5, zz6, zz7, zz8] at hc)
    have hlt : i < x.ar.length := by omega
    have hg := (exsGet x.ar i hlt).trans (eEx_eq _)
    have hmem := getD_mem (d := ex0) hlt
    have hf := ih _ hmem
    have htk : x.ar.take (i + 1) = x.ar.take i ++ [x.ar.getD i ex0] := take_succ hlt
    have hfl : fdL (x.ar.take (i + 1)) = fdL (x.ar.take i) ++ [fdX (x.ar.getD i ex0)] := by rw [htk, fdL_app]; rfl
    have hac : (fdL (x.ar.take i)).length ≤ 2 := by rw [fdL_map, List.length_map, List.length_take]; omega
    generalize hnx : fdL (x.ar.take (i + 1)) = nx at *
    generalize fdL (x.ar.take i) = ac at *
    repeat' first | refine zzs ?_ | refine zzb ?_ | refine zzk ?_
    first | refine zzr hnt rfl ?_ ?_ | refine zzd hnt rfl ?_ ?_
    · rw [Int.toNat_natCast, hg, hml]
      exact zza
    rw [Int.toNat_natCast, hg]
    generalize x.ar.getD i ex0 = a at *
    have hbl := ex7 (fdX a)
    generalize fdX a = b at *
    refine tr_le (s' := St.of [(2, .one (.ptr 2 0 0)), (3, .one (.ptr 3 0 0)), (4, .v (.bool (ac.all fun a => decide (a.op = 1)))), (6, .one (.ptr 6 0 0)), (19, .one (.e (.sl (eExs x.ar)))), (20, .one (.e (eI ((eExs x.ar).length : Int)))), (21, .one (.e (eI (i : Int))))] [(2, ⟨0, .box (.ds exZ), 0⟩), (3, ⟨0, .box (.ds (outD x.op)), 0⟩), (3000, ⟨0, .row 7 (eExs ac), 0⟩), (6, ⟨0, .box (.es [eI a.op, eI a.v.k, eI a.v.i, eQ a.v.b, eT a.v.t, eT a.n, .sl (eExs a.ar)]), 0⟩)]) (le_of (ad := []) ⟨zzl, zzl, zzl, zzl, zzl, zzl, zzl, trivial⟩ (memOk_box rfl rfl exZ_sim (memOk_box rfl rfl (by repeat' first | exact trivial | rfl | apply And.intro) (memOk_row rfl rfl rfl (memOk_box rfl rfl rfl trivial))))) ?_
    rw [eEx_eq a, eEx_eq b] at hf
    repeat' first | refine zzs ?_ | refine zzb ?_ | refine zzk ?_
    refine tr_region (zzx hnt rfl ?_ (call rfl rfl rfl rfl rfl rfl rfl hnt (hf) (zzx hnt rfl ?_ (Lex.nil _)))) ?_
    · exact zza
    · exact zza
    refine tr_le (s' := St.of [(2, .one (.ptr 2 0 0)), (3, .one (.ptr 3 0 0)), (4, .v (.bool (ac.all fun a => decide (a.op = 1)))), (7, .one (.ptr 7 0 0)), (19, .one (.e (.sl (eExs x.ar)))), (20, .one (.e (eI ((eExs x.ar).length : Int)))), (21, .one (.e (eI (i : Int))))] [(2, ⟨0, .box (.ds exZ), 0⟩), (3, ⟨0, .box (.ds (outD x.op)), 0⟩), (3000, ⟨0, .row 7 (eExs ac), 0⟩), (7, ⟨0, .box (.es [eI b.op, eI b.v.k, eI b.v.i, eQ b.v.b, eT b.v.t, eT b.n, .sl (eExs b.ar)]), 0⟩)]) (le_of (ad := []) ⟨zzl, zzl, zzl, zzl, zzl, zzl, zzl, trivial⟩ (memOk_box rfl rfl exZ_sim (memOk_box rfl rfl (by repeat' first | exact trivial | rfl | apply And.intro) (memOk_row rfl rfl rfl (memOk_box rfl rfl rfl trivial))))) ?_
    repeat' first | refine zzs ?_ | refine zzb ?_ | refine zzk ?_
    first | refine zzr hnt rfl ?_ ?_ | refine zzd hnt rfl ?_ ?_
    · exact zza
    have hql : (eExs ac).length = ac.length := exsLen ac
    have hq1 : (eExs ac).length + 1 ≤ maxLen := by rw [hql]; simp only [maxLen]; omega
    have hq2 : ((eExs ac).length + 1) * 88 ≤ 140737488355328 := by rw [hql]; omega
    repeat' first | refine zzs ?_ | refine zzb ?_ | refine zzk ?_
    first | refine zzr hnt rfl ?_ ?_ | refine zzd hnt rfl ?_ ?_
    · exact zza
    repeat' first | refine zzs ?_ | refine zzr hnt rfl ?_ ?_ | refine zzd hnt rfl ?_ ?_ | refine zzb ?_ | refine zzk ?_
    · exact zzt
    have hall : (bif ac.all (fun a => decide (a.op = 1)) then decide (b.op = 1) else false) = (ac ++ [b]).all fun a => decide (a.op = 1) := by
      rw [List.all_append]
      cases ac.all fun a => decide (a.op = 1) <;> simp
    refine ⟨i + 1, hlt, by omega, le_of (ad := []) ⟨⟨rfl, rfl, rfl, rfl, rfl⟩, ⟨rfl, rfl, rfl, rfl, rfl⟩, ?_, rfl, rfl, congrArg (fun z : Int => E.v (.int .i64 z)) (wrap64_id (n := (i : Int) + 1) (by omega) (by omega)), trivial⟩ (memOk_box rfl rfl exZ_sim (memOk_box rfl rfl (by repeat' first | exact trivial | rfl | apply And.intro) (memOk_row rfl rfl ?_ trivial)))⟩
    · exact congrArg (fun z : Bool => E.v (.bool z)) (hall.trans (by rw [hnx, hfl]))
    · show _ = eExs (fdL (x.ar.take (i + 1)))
      rw [hnx, hfl, eExs_snoc, eEx_eq b]
      rfl
  simp only [zz1, zz2, zz3, zz4, zz5, zz6, zz7, zz8] at hc
  (try simp only [hml] at hc)
  (try simp only [zz1, zz2, zz3, zz4, zz5, zz6, zz7, zz8] at hc)
  have hi : i = x.ar.length := by omega
  subst hi
  rw [List.take_length]
  have hev := ev_opX hx hn hk
  have hlen : (fdL x.ar).length = x.ar.length := by rw [fdL_map, List.length_map]
  refine tr_exit ?_
  generalize fdL x.ar = l at *
  repeat' first | refine zzs ?_ | refine zzb ?_ | refine zzk ?_
  first | refine zzr hnt rfl ?_ ?_ | refine zzd hnt rfl ?_ ?_
  · exact zzt
  unfold joinX at hF
  repeat' first | refine zzs ?_ | refine zzb ?_ | refine zzk ?_
  refine tr_cond rfl (fun hc => ?_) (fun hc => ?_)
  · have hall : (l.all fun a => decide (a.op = 1)) = true := hc
    obtain ⟨e1, e2, e3, e4⟩ := hev hall
    obtain ⟨o1, o2⟩ := opX_ok e1 e2 e3
    have hv := valued_all [] [] rfl (fun v hv => nomatch hv) (fun i hi => nomatch hi) (nodes (opX x.op l)) (opX x.op l) (Nat.le_refl _) o1 o2
    rw [e4, eEx_op] at hv
    generalize (thO [] x).ev [] = r at *
    obtain ⟨v, e⟩ := r
    dsimp only at hF
    rw [hall] at hF
    repeat' first | refine zzs ?_ | refine zzb ?_ | refine zzk ?_
    refine tr_region (zzx hnt rfl ?_ (callU rfl rfl rfl rfl rfl rfl rfl hnt (hv) (zzx hnt rfl ?_ (Lex.nil _)))) ?_
    · exact zza
    · exact zza
    repeat' first | refine zzs ?_ | refine zzr hnt rfl ?_ ?_ | refine zzd hnt rfl ?_ ?_ | refine zzb ?_ | refine zzk ?_
    · exact zzt
    have hB : (bif decide (e = 0) then decide (0 ≤ ((eVal v).getD (0 + 1) E.dflt).int) else false) = decide (e = 0 ∧ 0 ≤ v.i) := by
      rw [eVal1]
      by_cases h1 : e = 0 <;> by_cases h2 : 0 ≤ v.i <;> simp [h1, h2]
    repeat' first | refine zzs ?_ | refine zzb ?_ | refine zzk ?_
    refine tr_cond rfl (fun hc => ?_) (fun hc => ?_)
    · have hc := of_decide_eq_true (hB.symm.trans hc)
      rw [if_pos ⟨rfl, hc⟩] at hF
      rw [hF, eEx_lit]
      repeat' first | refine zzs ?_ | refine zzr hnt rfl ?_ ?_ | refine zzd hnt rfl ?_ ?_ | refine zzb ?_ | refine zzk ?_
      · exact zzt
      exact tr_ret ⟨.inr rfl, _, _, rfl, zzp, rfl⟩
    have hc := of_decide_eq_false (hB.symm.trans hc)
    rw [if_neg (fun h => hc h.2)] at hF
    rw [hF, eEx_op]
    repeat' first | refine zzs ?_ | refine zzr hnt rfl ?_ ?_ | refine zzd hnt rfl ?_ ?_ | refine zzb ?_ | refine zzk ?_
    · exact zzt
    exact tr_ret ⟨.inr rfl, _, _, rfl, zzp, rfl⟩
  have hall : (l.all fun a => decide (a.op = 1)) = false := hc
  rw [if_neg (fun h => by rw [hall] at h; exact Bool.false_ne_true h.1)] at hF
  rw [hF, eEx_op]
  repeat' first | refine zzs ?_ | refine zzr hnt rfl ?_ ?_ | refine zzd hnt rfl ?_ ?_ | refine zzb ?_ | refine zzk ?_
  · exact zzt
  exact tr_ret ⟨.inr rfl, _, _, rfl, zzp, rfl⟩
theorem foldedR_all : ∀ (m : Nat) (x : Ex), nodes x ≤ m → exOk x → ndF x = 0 → FnD Tryd.prog 38 [.agg (.es (eEx x))] (.agg (.es (eEx (fdX x))))
  | 0, x, h, _, _ => absurd h (by have := nodes_pos x; omega)
  | m + 1, x, h, ho, hn => by
    obtain ⟨n1, n2⟩ := nd_zero hn
    have k3 := (node_ok n1).2.2.1
    have hw2 : wantF x.op ≤ 2 := by unfold wantF; split; decide; split <;> decide
    exact foldedR_step x (by omega) ho hn fun a ha => foldedR_all m a (kid_nodes h ha) ((exOk_kids ho).2 a ha) (n2 a ha)
def foF (x : Ex) : Ex × Int := if exF x ≠ 0 then (ex0, exF x) else (fdX x, 0)
def rXE (x : Ex × Int) : D := .tup [(true, .es (eEx x.1)), (false, .es [eI x.2])]
theorem eEx_ex0 : eEx ex0 = [eI 0, eI 0, eI 0, eQ 0, eT [], eT [], .sl []] := by unfold ex0; rw [eEx, eExs]; rfl
set_option maxRecDepth 10000 in
set_option maxHeartbeats 2000000 in
theorem FoldedOf_fn (x : Ex) (hx : exOk x) : FnG Tryd.prog 20 gK [.agg (.es (eEx x))] (rXE (foF x)) := by
  refine fn_introG (T := tab) tOk Tryd.func20 rfl (by kernel_rfl) (by simp [Tryd.ntmps20]) ?_
  intro X hX
  have hnt : X.nt = 13 := hX
  clear hX
  have h7 : 0 + 7 ≤ (Cs.es (eEx x)).len := by have := ex7 x; show 0 + 7 ≤ (eEx x).length; omega
  have e7 : (Cs.es (eEx x)).len = 7 := ex7 x
  have h1 := exprFault_fn x hx
  rw [← exAll x] at h1
  have hF : foF x = foF x := rfl
  conv at hF => rhs; unfold foF
  generalize foF x = Z at *
  repeat' first | refine zzs ?_ | refine zzb ?_ | refine zzk ?_
  first | refine zzr hnt rfl ?_ ?_ | refine zzd hnt rfl ?_ ?_
  · exact zza
  repeat' first | refine zzs ?_ | refine zzb ?_ | refine zzk ?_
  refine tr_region (zzx hnt rfl ?_ (callV rfl rfl rfl rfl rfl rfl rfl hnt rfl (h1) (zzx hnt rfl ?_ (Lex.nil _)))) ?_
  · exact zza
  · exact zza
  repeat' first | refine zzs ?_ | refine zzr hnt rfl ?_ ?_ | refine zzd hnt rfl ?_ ?_ | refine zzb ?_ | refine zzk ?_
  · exact zzt
  repeat' first | refine zzs ?_ | refine zzb ?_ | refine zzk ?_
  refine tr_cond rfl (fun hc => ?_) (fun hc => ?_)
  · simp only [zz1, zz2, zz3, zz4, zz5, zz6, zz7, zz8] at hc
    rw [if_pos hc] at hF
    subst hF
    unfold rXE
    rw [eEx_ex0]
    repeat' first | refine zzs ?_ | refine zzr hnt rfl ?_ ?_ | refine zzd hnt rfl ?_ ?_ | refine zzb ?_ | refine zzk ?_
    · exact zzt
    exact tr_ret ⟨.inr rfl, _, _, rfl, zzp, rfl⟩
  simp only [zz1, zz2, zz3, zz4, zz5, zz6, zz7, zz8] at hc
  rw [if_neg (not_not_intro hc)] at hF
  have hx0 := exF_ok hc
  have h2 := foldedR_all (nodes x) x (Nat.le_refl _) hx hx0
  rw [← exAll x] at h2
  subst hF
  generalize fdX x = z at *
  unfold rXE
  rw [eEx_eq z] at h2 ⊢
  repeat' first | refine zzs ?_ | refine zzb ?_ | refine zzk ?_
  refine tr_region (zzx hnt rfl ?_ (call rfl rfl rfl rfl rfl rfl rfl hnt (h2) (zzx hnt rfl ?_ (Lex.nil _)))) ?_
  · exact zza
  · exact zza
  exact tr_ret ⟨.inr rfl, _, _, rfl, zzp, rfl⟩
set_option maxRecDepth 10000 in
set_option maxHeartbeats 2000000 in
theorem Fold_fn (x : Ex) (hx : exOk x) : FnG Tryd.prog 19 gK [.agg (.es (eEx x))] (rXE (foF x)) := by
  refine fn_introG (T := tab) tOk Tryd.func19 rfl (by kernel_rfl) (by simp [Tryd.ntmps19]) ?_
  intro X hX
  have hnt : X.nt = 15 := hX
  clear hX
  have h7 : 0 + 7 ≤ (Cs.es (eEx x)).len := by have := ex7 x; show 0 + 7 ≤ (eEx x).length; omega
  have e7 : (Cs.es (eEx x)).len = 7 := ex7 x
  have h1 := exprCheck_fn x hx
  rw [← exAll x] at h1
  have hF : foF x = foF x := rfl
  conv at hF => rhs; unfold foF
  generalize foF x = Z at *
  repeat' first | refine zzs ?_ | refine zzb ?_ | refine zzk ?_
  first | refine zzr hnt rfl ?_ ?_ | refine zzd hnt rfl ?_ ?_
  · exact zza
  repeat' first | refine zzs ?_ | refine zzb ?_ | refine zzk ?_
  refine tr_region (zzx hnt rfl ?_ (callV rfl rfl rfl rfl rfl rfl rfl hnt rfl (h1) (zzx hnt rfl ?_ (Lex.nil _)))) ?_
  · exact zza
  · exact zza
  repeat' first | refine zzs ?_ | refine zzr hnt rfl ?_ ?_ | refine zzd hnt rfl ?_ ?_ | refine zzb ?_ | refine zzk ?_
  · exact zzt
  repeat' first | refine zzs ?_ | refine zzb ?_ | refine zzk ?_
  refine tr_cond rfl (fun hc => ?_) (fun hc => ?_)
  · simp only [zz1, zz2, zz3, zz4, zz5, zz6, zz7, zz8] at hc
    rw [if_pos hc] at hF
    subst hF
    unfold rXE
    rw [eEx_ex0]
    repeat' first | refine zzs ?_ | refine zzr hnt rfl ?_ ?_ | refine zzd hnt rfl ?_ ?_ | refine zzb ?_ | refine zzk ?_
    · exact zzt
    exact tr_ret ⟨.inr rfl, _, _, rfl, zzp, rfl⟩
  simp only [zz1, zz2, zz3, zz4, zz5, zz6, zz7, zz8] at hc
  rw [if_neg (not_not_intro hc)] at hF
  have hx0 := exF_ok hc
  have h2 := thing_fn [] (Nat.zero_le _) x
  have h3 := exprOf_all (nodes x) x (Nat.le_refl _) hx hx0
  rw [← exAll x] at h2 h3
  rw [Th.val_eq] at h2 h3
  subst hF
  generalize fdX x = z at *
  unfold rXE
  rw [eEx_eq z] at h3 ⊢
  repeat' first | refine zzs ?_ | refine zzb ?_ | refine zzk ?_
  refine tr_draw (T := tab) tOk hnt mixedR (lexD (T := tab) rfl ?_ (callD rfl rfl rfl rfl rfl rfl rfl rfl (h2) (lexD (T := tab) rfl ?_ (callVD rfl rfl rfl rfl rfl rfl rfl rfl rfl (h3) (lexD (T := tab) rfl ?_ (.nil _)))))) (by first | decide +kernel | kernel_rfl) ?_
  · (dsimp only [AllP]; (repeat' first | exact trivial | assumption | exact Nat.le_of_ble_eq_true rfl | apply And.intro | exact eCells_len1 _ _ ‹_› | exact eCells_isByte _ _ ‹_› | (intro hh_; have hg_ := hh_; (try simp only [condT_ff, condF_tt, notE_t, notE_f, Bool.and_eq_true, ne_eq, decide_eq_true_eq, decide_eq_false_iff_not] at hg_)) | intro _ | exact rfl | omega))
    all_goals trace_state
  · (dsimp only [AllP]; (repeat' first | exact trivial | assumption | exact Nat.le_of_ble_eq_true rfl | apply And.intro | exact eCells_len1 _ _ ‹_› | exact eCells_isByte _ _ ‹_› | (intro hh_; have hg_ := hh_; (try simp only [condT_ff, condF_tt, notE_t, notE_f, Bool.and_eq_true, ne_eq, decide_eq_true_eq, decide_eq_false_iff_not] at hg_)) | intro _ | exact rfl | omega))
    all_goals trace_state
  · (dsimp only [AllP]; (repeat' first | exact trivial | assumption | exact Nat.le_of_ble_eq_true rfl | apply And.intro | exact eCells_len1 _ _ ‹_› | exact eCells_isByte _ _ ‹_› | (intro hh_; have hg_ := hh_; (try simp only [condT_ff, condF_tt, notE_t, notE_f, Bool.and_eq_true, ne_eq, decide_eq_true_eq, decide_eq_false_iff_not] at hg_)) | intro _ | exact rfl | omega))
    all_goals trace_state
  exact tr_ret ⟨.inr rfl, _, _, rfl, zzp, rfl⟩
end Go.Proofs.YthnadkafegmacaaDoor
