/- What an UPDATE sets: a row changed. No condition. -/
import Derived.Test.YthnadkafegmacaaGreatDoorTUpC
namespace Go.Proofs.YthnadkafegmacaaGreatDoor
open Go Go.RowKit Go.Proofs.YthnadkafegmacaaGreatDoor.Ab
set_option linter.unusedSimpArgs false
set_option linter.unusedVariables false

set_option maxRecDepth 10000 in
set_option maxHeartbeats 2000000 in
theorem row_own (r : List Val) (hl0 : r.length ≤ 1000) : FnO Tryz.prog 111 ([]) [.one (.e (eRow r))] (.one (.own 3 0)) [(3, ⟨0, .row 4 (r.map eVal), 0⟩)] := by
  refine fn_introO (T := tab) tOk Tryz.func111 rfl (by kernel_rfl) (by simp [Tryz.ntmps111]) ?_
  intro X hX
  have hnt : X.nt = 6 := hX
  clear hX
  have h4 := rows4 r
  have hml := rowLen r
  have b1 : 0 + (r.map eVal).length ≤ maxLen := by unfold maxLen; omega
  have b2 : (0 + (r.map eVal).length) * 40 ≤ 140737488355328 := by omega
  repeat' first | refine zzs ?_ | refine zzr hnt rfl ?_ ?_ | refine zzd hnt rfl ?_ ?_ | refine zzb ?_ | refine zzk ?_
  · exact zzt
  · exact zza
  repeat' first | refine zzs ?_ | refine zzb ?_ | refine zzk ?_
  exact tr_ret ⟨.inr rfl, _, _, _, rfl, trivial, rfl, fun X => le_of (ad := []) ⟨⟨rfl, rfl, rfl, rfl⟩, trivial⟩ (memOk_row rfl rfl (List.nil_append _) trivial)⟩
/-- a row changed: what is set, one by one, out of the old row -/
def chF (cols : List Colm) (old : List Val) : List Val → List USet → List Val × Int
  | out, [] => (out, 0)
  | out, s :: r =>
    if (evF s.x cols old).2 ≠ 0 then ([], (evF s.x cols old).2)
    else if (evF s.x cols old).1.k = 0 ∧ (cols.getD (fsF cols s.c 0).toNat col0).u = false then ([], 12)
    else chF cols old (out.set (fsF cols s.c 0).toNat (evF s.x cols old).1) r
theorem setV (l : List Val) {q : Nat} (h : q < l.length) (v : Val) : setEl (l.map eVal) q 0 4 (eVal v) = (l.set q v).map eVal := by
  unfold setEl
  have h4 : ((l.map eVal).getD q []).length = 4 := by
    rw [List.getD_eq_getElem?_getD, List.getElem?_map, List.getElem?_eq_getElem h]
    rfl
  rw [List.map_set, List.take_zero, List.drop_eq_nil_of_le (by omega), List.nil_append, List.append_nil]
def rRo (r : List Val × Int) : D := .tup [(false, .es [eRow r.1]), (false, .es [eI r.2])]
set_option maxRecDepth 10000 in
set_option maxHeartbeats 2000000 in
theorem changed_fn (old : List Val) (cols : List Colm) (l : List USet) (hl : old.length = cols.length) (hc5 : cols.length ≤ 5) (hn : ∀ c ∈ cols, c.n.length ≤ maxLen) (hv : ∀ v ∈ old, v.ok) (hx : ∀ s ∈ l, exOk s.x ∧ 0 ≤ fsF cols s.c 0) (h4 : l.length ≤ 4) : FnG Tryz.prog 41 gK [.one (.e (eRow old)), .one (.e (eCols cols)), .one (.e (.sl (l.map eUs)))] (rRo (chF cols old old l)) := by
  refine fn_introG (T := tab) tOk Tryz.func41 rfl (by kernel_rfl) (by simp [Tryz.ntmps41]) ?_
  intro X hX
  have hnt : X.nt = 54 := hX
  clear hX
  have hml := usLen l
  have hro := row_own old (by omega)
  repeat' first | refine zzs ?_ | refine zzb ?_ | refine zzk ?_
  first | refine zzr hnt rfl ?_ ?_ | refine zzd hnt rfl ?_ ?_
  · exact zzt
  repeat' first | refine zzs ?_ | refine zzb ?_ | refine zzk ?_
  refine tr_region (zzx hnt rfl ?_ (callO (base := 2000) rfl rfl rfl rfl rfl rfl rfl hnt rfl rfl (hro) rfl (zzx hnt rfl ?_ (Lex.nil _)))) ?_
  · exact zzt
  · exact zzt
  repeat' first | refine zzs ?_ | refine zzr hnt rfl ?_ ?_ | refine zzd hnt rfl ?_ ?_ | refine zzb ?_ | refine zzk ?_
  · exact zzt
  repeat' first | refine zzs ?_ | refine zzb ?_ | refine zzk ?_
  refine tr_loop (σ := Nat × List Val) (fun y => St.of [(0, .one (.e (eRow old))), (1, .one (.e (eCols cols))), (8, .one (.own 2003 0)), (16, .one (.e (.sl (l.map eUs)))), (17, .one (.e (eI ((l.map eUs).length : Int)))), (18, .one (.e (eI (y.1 : Int)))), ((1000000 + 5), .one (.eptr fsE)), ((1000000 + 6), .one (.eptr acE))] [(2003, ⟨0, .row 4 (y.2.map eVal), 0⟩)]) (fun y => chF cols old y.2 (l.drop y.1) = chF cols old old l ∧ y.2.length = cols.length ∧ y.1 ≤ l.length) (fun y => l.length - y.1) ((0, old)) (le_of (ad := []) ⟨zzl, zzl, zzl, zzl, zzl, zzl, zzl, zzl, trivial⟩ (memOk_row rfl rfl rfl trivial)) ⟨rfl, hl, Nat.zero_le _⟩ ?_
  rintro ⟨i, out⟩ ⟨hi, hol, il⟩
  dsimp only at hi hol il ⊢
  repeat' first | refine zzs ?_ | refine zzr hnt rfl ?_ ?_ | refine zzd hnt rfl ?_ ?_ | refine zzb ?_ | refine zzk ?_
  · exact zzt
  repeat' first | refine zzs ?_ | refine zzb ?_ | refine zzk ?_
  refine tr_cond rfl (fun hc => ?_) (fun hc => ?_)
  rotate_left
  · simp only [zz1, zz2, zz3, zz4, zz5, zz6, zz7, zz8] at hc
    (try simp only [hml] at hc)
    (try simp only [zz1, zz2, zz3, zz4, zz5, zz6, zz7, zz8] at hc)
    rw [List.drop_eq_nil_of_le (by omega)] at hi
    rw [← hi, chF]
    refine tr_exit ?_
    repeat' first | refine zzs ?_ | refine zzr hnt rfl ?_ ?_ | refine zzd hnt rfl ?_ ?_ | refine zzb ?_ | refine zzk ?_
    · exact zzt
    exact tr_ret ⟨.inr rfl, _, _, rfl, zzp, rfl⟩
  simp only [zz1, zz2, zz3, zz4, zz5, zz6, zz7, zz8] at hc
  (try simp only [hml] at hc)
  (try simp only [zz1, zz2, zz3, zz4, zz5, zz6, zz7, zz8] at hc)
  have hlt : i < l.length := by omega
  have hg := usGet l i hlt
  have hmem := getD_mem (d := use0) hlt
  obtain ⟨hxs, hf0⟩ := hx _ hmem
  rw [drop_getD (d := use0) hlt, chF] at hi
  repeat' first | refine zzs ?_ | refine zzb ?_ | refine zzk ?_
  first | refine zzr hnt rfl ?_ ?_ | refine zzd hnt rfl ?_ ?_
  · rw [Int.toNat_natCast, hg, hml]
    exact zza
  rw [Int.toNat_natCast, hg]
  generalize l.getD i use0 = s at *
  have hev := Eval_fn s.x cols old hxs hn hv
  rw [← usX s] at hev
  generalize evF s.x cols old = z at *
  obtain ⟨v, e⟩ := z
  dsimp only at hi
  repeat' first | refine zzs ?_ | refine zzb ?_ | refine zzk ?_
  refine tr_region (zzx hnt rfl ?_ (callV rfl rfl rfl rfl rfl rfl rfl hnt rfl (hev) (zzx hnt rfl ?_ (Lex.nil _)))) ?_
  · exact zza
  · exact zza
  refine tr_le (s' := St.of [(0, .one (.e (eRow old))), (1, .one (.e (eCols cols))), (8, .one (.own 2003 0)), (10, .one (.ptr 10 0 0)), (11, .one (.ptr 11 0 0)), (12, .one (.e (eI e))), (16, .one (.e (.sl (l.map eUs)))), (17, .one (.e (eI ((l.map eUs).length : Int)))), (18, .one (.e (eI (i : Int)))), ((1000000 + 5), .one (.eptr fsE)), ((1000000 + 6), .one (.eptr acE))] [(2003, ⟨0, .row 4 (out.map eVal), 0⟩), (10, ⟨0, .box (.es (eUs s)), 0⟩), (11, ⟨0, .box (.es (eVal v)), 0⟩)]) (le_of (ad := []) ⟨zzl, zzl, zzl, zzl, zzl, zzl, zzl, zzl, zzl, zzl, zzl, trivial⟩ (memOk_row rfl rfl rfl (memOk_box rfl rfl rfl (memOk_box rfl rfl rfl trivial)))) ?_
  repeat' first | refine zzs ?_ | refine zzr hnt rfl ?_ ?_ | refine zzd hnt rfl ?_ ?_ | refine zzb ?_ | refine zzk ?_
  · exact zzt
  repeat' first | refine zzs ?_ | refine zzb ?_ | refine zzk ?_
  refine tr_cond rfl (fun hc => ?_) (fun hc => ?_)
  · simp only [zz1, zz2, zz3, zz4, zz5, zz6, zz7, zz8] at hc
    rw [if_pos hc] at hi
    rw [← hi]
    repeat' first | refine zzs ?_ | refine zzr hnt rfl ?_ ?_ | refine zzd hnt rfl ?_ ?_ | refine zzb ?_ | refine zzk ?_
    · exact zzt
    exact tr_ret ⟨.inr rfl, _, _, rfl, zzp, rfl⟩
  simp only [zz1, zz2, zz3, zz4, zz5, zz6, zz7, zz8] at hc
  rw [if_neg (not_not_intro hc)] at hi
  have hcf := column_fn cols s.c
  have hrg := fs_rng cols s.c
  repeat' first | refine zzs ?_ | refine zzb ?_ | refine zzk ?_
  refine tr_region (zzx hnt rfl ?_ (call rfl rfl rfl rfl rfl rfl rfl hnt (hcf) (zzx hnt rfl ?_ (Lex.nil _)))) ?_
  · exact zzt
  · exact zzt
  obtain ⟨q, hq⟩ : ∃ q : Nat, fsF cols s.c 0 = q := ⟨(fsF cols s.c 0).toNat, by omega⟩
  rw [hq] at hrg hi ⊢
  have hql : q < cols.length := by omega
  have hcl := colsLen cols
  have hcg := colsGet cols q hql
  rw [Int.toNat_natCast] at hi
  repeat' first | refine zzs ?_ | refine zzb ?_ | refine zzk ?_
  first | refine zzr hnt rfl ?_ ?_ | refine zzd hnt rfl ?_ ?_
  · rw [Int.toNat_natCast, hcg, hcl]
    exact zza
  rw [Int.toNat_natCast, hcg]
  generalize cols.getD q col0 = c at *
  repeat' first | refine zzs ?_ | refine zzb ?_ | refine zzk ?_
  refine tr_cond rfl (fun hc => ?_) (fun hc => ?_)
  · have hc : (bif decide (v.k = 0) then !c.u else false) = true := hc
    have hc2 : v.k = 0 ∧ c.u = false := by
      cases hu : c.u <;> simp [hu] at hc
      exact ⟨hc, rfl⟩
    rw [if_pos hc2] at hi
    rw [← hi]
    repeat' first | refine zzs ?_ | refine zzr hnt rfl ?_ ?_ | refine zzd hnt rfl ?_ ?_ | refine zzb ?_ | refine zzk ?_
    · exact zzt
    exact tr_ret ⟨.inr rfl, _, _, rfl, zzp, rfl⟩
  have hc : (bif decide (v.k = 0) then !c.u else false) = false := hc
  have hc2 : ¬ (v.k = 0 ∧ c.u = false) := fun ⟨a, b⟩ => by rw [decide_eq_true a, b] at hc; cases hc
  rw [if_neg hc2] at hi
  have hoq : q < out.length := by omega
  have hol2 : (out.map eVal).length = out.length := List.length_map ..
  repeat' first | refine zzs ?_ | refine zzb ?_ | refine zzk ?_
  first | refine zzr hnt rfl ?_ ?_ | refine zzd hnt rfl ?_ ?_
  · rw [hol2]
    exact zza
  have hset := setV out (q := q) hoq v
  repeat' first | refine zzs ?_ | refine zzr hnt rfl ?_ ?_ | refine zzd hnt rfl ?_ ?_ | refine zzb ?_ | refine zzk ?_
  · exact zzt
  refine ⟨(i + 1, out.set q v), ⟨hi, by dsimp only; rw [List.length_set]; exact hol, hlt⟩, by dsimp only; omega, le_of (ad := []) ⟨zzl, zzl, zzl, zzl, zzl, zzl, zzl, zzl, trivial⟩ (memOk_row rfl rfl hset trivial)⟩
end Go.Proofs.YthnadkafegmacaaGreatDoor
