/- What an UPDATE sets: the document's check. No condition. -/
import Derived.Test.YthnadkafegmacaaGreatDoorTUpB
namespace Go.Proofs.YthnadkafegmacaaGreatDoor
open Go Go.RowKit Go.Proofs.YthnadkafegmacaaGreatDoor.Ab
set_option linter.unusedSimpArgs false
set_option linter.unusedVariables false

def eNs (l : List USet) : List (List E) := l.map fun s => [eT s.c]
theorem nsLen (l : List USet) : (eNs l).length = l.length := List.length_map ..
theorem nsGet (l : List USet) (i : Nat) (h : i < l.length) : (eNs l).getD i [] = [eT (l.getD i use0).c] := by
  unfold eNs
  rw [List.getD_eq_getElem?_getD, List.getElem?_map, List.getElem?_eq_getElem h, List.getD_eq_getElem?_getD, List.getElem?_eq_getElem h]
  rfl
set_option maxRecDepth 10000 in
set_option maxHeartbeats 2000000 in
theorem setsFault_fn (l : List USet) (cols : List Colm) (hu : uniq cols) (hx : ∀ s ∈ l, exOk s.x) (hn : ∀ c ∈ cols, c.n.length ≤ maxLen) : FnG Tryz.prog 43 gK [.one (.e (.sl (l.map eUs))), .one (.e (eCols cols))] (.one (.e (eI (setsF l cols)))) := by
  refine fn_introG (T := tab) tOk Tryz.func43 rfl (by kernel_rfl) (by simp [Tryz.ntmps43]) ?_
  intro X hX
  have hnt : X.nt = 73 := hX
  clear hX
  have hml := usLen l
  have h8 : ∀ cs ∈ l.map eUs, cs.length = 8 := fun cs hc => by
    obtain ⟨q, _, rfl⟩ := List.mem_map.1 hc
    rfl
  unfold setsF
  repeat' first | refine zzs ?_ | refine zzb ?_ | refine zzk ?_
  first | refine zzr hnt rfl ?_ ?_ | refine zzd hnt rfl ?_ ?_
  · exact zzt
  repeat' first | refine zzs ?_ | refine zzb ?_ | refine zzk ?_
  first | refine zzr hnt rfl ?_ ?_ | refine zzd hnt rfl ?_ ?_
  · exact zza
  repeat' first | refine zzs ?_ | refine zzb ?_ | refine zzk ?_
  refine tr_cond rfl (fun hc => ?_) (fun hc => ?_)
  · have hc : (bif decide (((l.map eUs).length : Int) = 0) then true else decide (4 < ((l.map eUs).length : Int))) = true := hc
    rw [hml] at hc
    simp only [zz1, zz2, zz3, zz4, zz5, zz6, zz7, zz8] at hc
    rw [if_pos (by omega)]
    repeat' first | refine zzs ?_ | refine zzr hnt rfl ?_ ?_ | refine zzd hnt rfl ?_ ?_ | refine zzb ?_ | refine zzk ?_
    · exact zzt
    exact tr_ret ⟨.inr rfl, _, _, rfl, zzp, rfl⟩
  have hc : (bif decide (((l.map eUs).length : Int) = 0) then true else decide (4 < ((l.map eUs).length : Int))) = false := hc
  rw [hml] at hc
  simp only [zz1, zz2, zz3, zz4, zz5, zz6, zz7, zz8] at hc
  rw [if_neg (by omega)]
  have h4 : l.length ≤ 4 := by omega
  clear hc
  repeat' first | refine zzs ?_ | refine zzr hnt rfl ?_ ?_ | refine zzd hnt rfl ?_ ?_ | refine zzb ?_ | refine zzk ?_
  · exact zzt
  · exact zzt
  repeat' first | refine zzs ?_ | refine zzb ?_ | refine zzk ?_
  refine tr_loop (σ := Nat) (fun i => St.of [(1, .one (.e (eCols cols))), (5, .one (.own 3000 0)), (22, .one (.e (.sl (l.map eUs)))), (23, .one (.e (eI ((l.map eUs).length : Int)))), (24, .one (.e (eI (i : Int)))), ((1000000 + 5), .one (.eptr fsE)), ((1000000 + 6), .one (.eptr acE))] [(3000, ⟨0, .row 1 (eNs (l.take i)), 0⟩)]) (fun i => stL cols (l.take i) (l.drop i) = stL cols [] l ∧ i ≤ l.length) (fun i => l.length - i) (0) (le_of (ad := [3000]) ⟨zzl, zzl, zzl, zzl, zzl, zzl, zzl, trivial⟩ (memOk_new rfl (by decide) trivial)) ⟨rfl, Nat.zero_le _⟩ ?_
  rintro i ⟨hi, il⟩
  repeat' first | refine zzs ?_ | refine zzr hnt rfl ?_ ?_ | refine zzd hnt rfl ?_ ?_ | refine zzb ?_ | refine zzk ?_
  · exact zzt
  repeat' first | refine zzs ?_ | refine zzb ?_ | refine zzk ?_
  refine tr_cond rfl (fun hc => ?_) (fun hc => ?_)
  rotate_left
  · simp only [zz1, zz2, zz3, zz4, zz5, zz6, zz7, zz8] at hc
    (try simp only [hml] at hc)
    (try simp only [zz1, zz2, zz3, zz4, zz5, zz6, zz7, zz8] at hc)
    rw [List.drop_eq_nil_of_le (by omega)] at hi
    have hi : 0 = stL cols [] l := by rw [← hi, stL]
    rw [← hi]
    refine tr_exit ?_
    repeat' first | refine zzs ?_ | refine zzr hnt rfl ?_ ?_ | refine zzd hnt rfl ?_ ?_ | refine zzb ?_ | refine zzk ?_
    · exact zzt
    exact tr_ret ⟨.inr rfl, _, _, rfl, zzp, rfl⟩
  simp only [zz1, zz2, zz3, zz4, zz5, zz6, zz7, zz8] at hc
  (try simp only [hml] at hc)
  (try simp only [zz1, zz2, zz3, zz4, zz5, zz6, zz7, zz8] at hc)
  have hlt : i < l.length := by omega
  have hg := usGet l i hlt
  have hmem := getD_mem (d := use0) hlt
  have hxs := hx _ hmem
  rw [drop_getD (d := use0) hlt, stL] at hi
  have htk : l.take (i + 1) = l.take i ++ [l.getD i use0] := take_succ hlt
  rw [← htk] at hi
  have htl : (l.take i).length = i := by rw [List.length_take]; omega
  generalize hnx : l.take (i + 1) = nx at *
  repeat' first | refine zzs ?_ | refine zzb ?_ | refine zzk ?_
  first | refine zzr hnt rfl ?_ ?_ | refine zzd hnt rfl ?_ ?_
  · rw [Int.toNat_natCast, hg, hml]
    exact zza
  rw [Int.toNat_natCast, hg]
  generalize l.getD i use0 = s at *
  have hcf := columnAt_fn cols s.c
  rw [colAt_eq hu] at hcf
  have hrg := fs_rng cols s.c
  repeat' first | refine zzs ?_ | refine zzb ?_ | refine zzk ?_
  refine tr_region (zzx hnt rfl ?_ (call rfl rfl rfl rfl rfl rfl rfl hnt (hcf) (zzx hnt rfl ?_ (Lex.nil _)))) ?_
  · exact zzt
  · exact zzt
  repeat' first | refine zzs ?_ | refine zzb ?_ | refine zzk ?_
  first | refine zzr hnt rfl ?_ ?_ | refine zzd hnt rfl ?_ ?_
  · exact zzt
  repeat' first | refine zzs ?_ | refine zzb ?_ | refine zzk ?_
  refine tr_cond rfl (fun hc => ?_) (fun hc => ?_)
  · simp only [zz1, zz2, zz3, zz4, zz5, zz6, zz7, zz8] at hc
    rw [if_pos hc] at hi
    rw [← hi]
    repeat' first | refine zzs ?_ | refine zzr hnt rfl ?_ ?_ | refine zzd hnt rfl ?_ ?_ | refine zzb ?_ | refine zzk ?_
    · exact zzt
    exact tr_ret ⟨.inr rfl, _, _, rfl, zzp, rfl⟩
  simp only [zz1, zz2, zz3, zz4, zz5, zz6, zz7, zz8] at hc
  rw [if_neg hc] at hi
  generalize l.take i = dn at *
  have hdl := nsLen dn
  refine tr_le (s' := St.of [(1, .one (.e (eCols cols))), (5, .one (.own 3000 0)), (7, .one (.ptr 7 0 0)), (8, .one (.e (eI (fsF cols s.c 0)))), (22, .one (.e (.sl (l.map eUs)))), (23, .one (.e (eI ((l.map eUs).length : Int)))), (24, .one (.e (eI (i : Int)))), ((1000000 + 5), .one (.eptr fsE)), ((1000000 + 6), .one (.eptr acE))] [(3000, ⟨0, .row 1 (eNs dn), 0⟩), (7, ⟨0, .box (.es (eUs s)), 0⟩)]) (le_of (ad := []) ⟨zzl, zzl, zzl, zzl, zzl, zzl, zzl, zzl, zzl, trivial⟩ (memOk_row rfl rfl rfl (memOk_box rfl rfl rfl trivial))) ?_
  repeat' first | refine zzs ?_ | refine zzr hnt rfl ?_ ?_ | refine zzd hnt rfl ?_ ?_ | refine zzb ?_ | refine zzk ?_
  · exact zzt
  repeat' first | refine zzs ?_ | refine zzb ?_ | refine zzk ?_
  refine tr_loop (σ := Nat) (fun j => St.of [(1, .one (.e (eCols cols))), (5, .one (.own 3000 0)), (7, .one (.ptr 7 0 0)), (8, .one (.e (eI (fsF cols s.c 0)))), (22, .one (.e (.sl (l.map eUs)))), (23, .one (.e (eI ((l.map eUs).length : Int)))), (24, .one (.e (eI (i : Int)))), (34, .one (.own 3000 0)), (35, .one (.e (eI ((eNs dn).length : Int)))), (36, .one (.e (eI (j : Int)))), ((1000000 + 5), .one (.eptr fsE)), ((1000000 + 6), .one (.eptr acE))] [(3000, ⟨0, .row 1 (eNs dn), 0⟩), (7, ⟨0, .box (.es (eUs s)), 0⟩)]) (fun j => inD (dn.drop j) s.c = inD dn s.c ∧ j ≤ dn.length) (fun j => dn.length - j) (0) (le_of (ad := []) ⟨zzl, zzl, zzl, zzl, zzl, zzl, zzl, zzl, zzl, zzl, zzl, zzl, trivial⟩ (memOk_row rfl rfl rfl (memOk_box rfl rfl rfl trivial))) ⟨rfl, Nat.zero_le _⟩ ?_
  rintro j ⟨hj, jl⟩
  repeat' first | refine zzs ?_ | refine zzr hnt rfl ?_ ?_ | refine zzd hnt rfl ?_ ?_ | refine zzb ?_ | refine zzk ?_
  · exact zzt
  repeat' first | refine zzs ?_ | refine zzb ?_ | refine zzk ?_
  refine tr_cond rfl (fun hc => ?_) (fun hc => ?_)
  · simp only [zz1, zz2, zz3, zz4, zz5, zz6, zz7, zz8] at hc
    (try simp only [hdl] at hc)
    (try simp only [zz1, zz2, zz3, zz4, zz5, zz6, zz7, zz8] at hc)
    have hjt : j < dn.length := by omega
    have hgj := nsGet dn j hjt
    rw [drop_getD (d := use0) hjt, inD, List.any_cons] at hj
    repeat' first | refine zzs ?_ | refine zzb ?_ | refine zzk ?_
    first | refine zzr hnt rfl ?_ ?_ | refine zzd hnt rfl ?_ ?_
    · rw [Int.toNat_natCast, hgj, hdl]
      exact zza
    rw [Int.toNat_natCast, hgj]
    generalize dn.getD j use0 = d at *
    repeat' first | refine zzs ?_ | refine zzb ?_ | refine zzk ?_
    first | refine zzr hnt rfl ?_ ?_ | refine zzd hnt rfl ?_ ?_
    · exact zzt
    repeat' first | refine zzs ?_ | refine zzb ?_ | refine zzk ?_
    refine tr_cond rfl (fun hc => ?_) (fun hc => ?_)
    · have hc : d.c = s.c := by
        have hc : strEq (strB d.c) (strB s.c) = true := hc
        rw [strEq_B] at hc
        exact of_decide_eq_true hc
      rw [decide_eq_true hc, Bool.true_or] at hj
      rw [if_pos hj.symm] at hi
      rw [← hi]
      repeat' first | refine zzs ?_ | refine zzr hnt rfl ?_ ?_ | refine zzd hnt rfl ?_ ?_ | refine zzb ?_ | refine zzk ?_
      · exact zzt
      exact tr_ret ⟨.inr rfl, _, _, rfl, zzp, rfl⟩
    have hc : ¬ d.c = s.c := by
      have hc : strEq (strB d.c) (strB s.c) = false := hc
      rw [strEq_B] at hc
      exact of_decide_eq_false hc
    rw [decide_eq_false hc, Bool.false_or] at hj
    repeat' first | refine zzs ?_ | refine zzr hnt rfl ?_ ?_ | refine zzd hnt rfl ?_ ?_ | refine zzb ?_ | refine zzk ?_
    · exact zzt
    refine ⟨j + 1, ⟨hj, hjt⟩, by omega, le_of (ad := []) ⟨zzl, zzl, zzl, zzl, zzl, zzl, zzl, zzl, zzl, zzl, zzl, zzl, trivial⟩ (memOk_row rfl rfl rfl (memOk_box rfl rfl rfl trivial))⟩
  simp only [zz1, zz2, zz3, zz4, zz5, zz6, zz7, zz8] at hc
  (try simp only [hdl] at hc)
  (try simp only [zz1, zz2, zz3, zz4, zz5, zz6, zz7, zz8] at hc)
  rw [List.drop_eq_nil_of_le (by omega)] at hj
  rw [if_neg (by rw [← hj]; exact Bool.noConfusion)] at hi
  refine tr_exit ?_
  have hq1 : (eNs dn).length + 1 ≤ maxLen := by rw [hdl, htl]; simp only [maxLen]; omega
  have hq2 : ((eNs dn).length + 1) * 16 ≤ 140737488355328 := by rw [hdl, htl]; omega
  repeat' first | refine zzs ?_ | refine zzb ?_ | refine zzk ?_
  first | refine zzr hnt rfl ?_ ?_ | refine zzd hnt rfl ?_ ?_
  · exact zza
  have hko := KindOf_fn s.x cols hxs hn
  rw [← usX s] at hko
  generalize koF s.x cols = k at *
  obtain ⟨k1, k2, k3⟩ := k
  dsimp only at hi
  repeat' first | refine zzs ?_ | refine zzb ?_ | refine zzk ?_
  refine tr_region (zzx hnt rfl ?_ (callV rfl rfl rfl rfl rfl rfl rfl hnt rfl (hko) (zzx hnt rfl ?_ (Lex.nil _)))) ?_
  · exact zza
  · exact zza
  repeat' first | refine zzs ?_ | refine zzr hnt rfl ?_ ?_ | refine zzd hnt rfl ?_ ?_ | refine zzb ?_ | refine zzk ?_
  · exact zzt
  repeat' first | refine zzs ?_ | refine zzb ?_ | refine zzk ?_
  refine tr_cond rfl (fun hc => ?_) (fun hc => ?_)
  · simp only [zz1, zz2, zz3, zz4, zz5, zz6, zz7, zz8] at hc
    rw [if_pos hc] at hi
    rw [← hi]
    repeat' first | refine zzs ?_ | refine zzr hnt rfl ?_ ?_ | refine zzd hnt rfl ?_ ?_ | refine zzb ?_ | refine zzk ?_
    · exact zzt
    exact tr_ret ⟨.inr rfl, _, _, rfl, zzp, rfl⟩
  simp only [zz1, zz2, zz3, zz4, zz5, zz6, zz7, zz8] at hc
  rw [if_neg (not_not_intro hc)] at hi
  obtain ⟨q, hq⟩ : ∃ q : Nat, fsF cols s.c 0 = q := ⟨(fsF cols s.c 0).toNat, by omega⟩
  rw [hq] at hrg hi ⊢
  have hql : q < cols.length := by omega
  have hcl := colsLen cols
  have hcg := colsGet cols q hql
  rw [Int.toNat_natCast] at hi
  repeat' first | refine zzs ?_ | refine zzb ?_ | refine zzk ?_
  first | refine zzr hnt rfl ?_ ?_ | refine zzd hnt rfl ?_ ?_
  · rw [Int.toNat_natCast, hcg, hcl]
    exact zza
  rw [Int.toNat_natCast, hcg]
  generalize cols.getD q col0 = c at *
  repeat' first | refine zzs ?_ | refine zzb ?_ | refine zzk ?_
  refine tr_cond rfl (fun hc => ?_) (fun hc => ?_)
  · have hc : (bif !decide (k1 = 0) then !decide (k1 = c.k) else false) = true := hc
    simp only [zz1, zz2, zz3, zz4, zz5, zz6, zz7, zz8] at hc
    rw [if_pos (by omega)] at hi
    rw [← hi]
    repeat' first | refine zzs ?_ | refine zzr hnt rfl ?_ ?_ | refine zzd hnt rfl ?_ ?_ | refine zzb ?_ | refine zzk ?_
    · exact zzt
    exact tr_ret ⟨.inr rfl, _, _, rfl, zzp, rfl⟩
  have hc : (bif !decide (k1 = 0) then !decide (k1 = c.k) else false) = false := hc
  simp only [zz1, zz2, zz3, zz4, zz5, zz6, zz7, zz8] at hc
  rw [if_neg (by omega)] at hi
  repeat' first | refine zzs ?_ | refine zzr hnt rfl ?_ ?_ | refine zzd hnt rfl ?_ ?_ | refine zzb ?_ | refine zzk ?_
  · exact zzt
  refine ⟨i + 1, ⟨by rw [hnx]; exact hi, hlt⟩, by omega, le_of (ad := []) ⟨zzl, zzl, zzl, zzl, zzl, zzl, zzl, trivial⟩ (memOk_row rfl rfl (by rw [hnx, htk]; unfold eNs; rw [List.map_append]; rfl) trivial)⟩
end Go.Proofs.YthnadkafegmacaaGreatDoor
