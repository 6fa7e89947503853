/- What an UPDATE sets: table.sets. No condition. -/
import Derived.Test.YthnadkafegmacaaGreatDoorTUpA
namespace Go.Proofs.YthnadkafegmacaaGreatDoor
open Go Go.RowKit Go.Proofs.YthnadkafegmacaaGreatDoor.Ab
set_option linter.unusedSimpArgs false
set_option linter.unusedVariables false

def inD (l : List USet) (s : Byt) : Bool := l.any fun d => decide (d.c = s)
/-- the faults of what is set, from what is done on -/
def stL (cols : List Colm) : List USet → List USet → Int
  | _, [] => 0
  | done, s :: r =>
    if fsF cols s.c 0 < 0 then 5 else if inD done s.c = true then 8
    else if (koF s.x cols).2.2 ≠ 0 then (koF s.x cols).2.2
    else if (koF s.x cols).1 ≠ 0 ∧ (koF s.x cols).1 ≠ (cols.getD (fsF cols s.c 0).toNat col0).k then 2
    else stL cols (done ++ [s]) r
def setsF (l : List USet) (cols : List Colm) : Int := if l.length < 1 ∨ 4 < l.length then 1 else stL cols [] l
theorem fs_rng (l : List Colm) (s : Byt) : fsF l s 0 < l.length := by
  rcases fs_find l s 0 with ⟨_, h⟩ | ⟨j, hj, _, h⟩
  · rw [h]; omega
  · rw [h]; omega
set_option maxRecDepth 10000 in
set_option maxHeartbeats 2000000 in
theorem sets_fn (l : List USet) (cols : List Colm) (hx : ∀ s ∈ l, exOk s.x) (hn : ∀ c ∈ cols, c.n.length ≤ maxLen) : FnG Tryz.prog 40 gK [.one (.e (.sl (l.map eUs))), .one (.e (eCols cols))] (.one (.e (eI (setsF l cols)))) := by
  refine fn_introG (T := tab) tOk Tryz.func40 rfl (by kernel_rfl) (by simp [Tryz.ntmps40]) ?_
  intro X hX
  have hnt : X.nt = 71 := hX
  clear hX
  have hml := usLen l
  have h8 : ∀ cs ∈ l.map eUs, cs.length = 8 := fun cs hc => by
    obtain ⟨q, _, rfl⟩ := List.mem_map.1 hc
    rfl
  unfold setsF
  repeat' first | refine zzs ?_ | refine zzb ?_ | refine zzk ?_
  first | refine zzr hnt rfl ?_ ?_ | refine zzd hnt rfl ?_ ?_
  · exact zzt
  repeat' first | refine zzs ?_ | refine zzb ?_ | refine zzk ?_
  first | refine zzr hnt rfl ?_ ?_ | refine zzd hnt rfl ?_ ?_
  · exact zza
  repeat' first | refine zzs ?_ | refine zzb ?_ | refine zzk ?_
  refine tr_cond rfl (fun hc => ?_) (fun hc => ?_)
  · have hc : (bif decide (((l.map eUs).length : Int) < 1) then true else decide (4 < ((l.map eUs).length : Int))) = true := hc
    rw [hml] at hc
    simp only [zz1, zz2, zz3, zz4, zz5, zz6, zz7, zz8] at hc
    rw [if_pos (by omega)]
    repeat' first | refine zzs ?_ | refine zzr hnt rfl ?_ ?_ | refine zzd hnt rfl ?_ ?_ | refine zzb ?_ | refine zzk ?_
    · exact zzt
    exact tr_ret ⟨.inr rfl, _, _, rfl, zzp, rfl⟩
  have hc : (bif decide (((l.map eUs).length : Int) < 1) then true else decide (4 < ((l.map eUs).length : Int))) = false := hc
  rw [hml] at hc
  simp only [zz1, zz2, zz3, zz4, zz5, zz6, zz7, zz8] at hc
  rw [if_neg (by omega)]
  have h4 : l.length ≤ 4 := by omega
  clear hc
  repeat' first | refine zzs ?_ | refine zzr hnt rfl ?_ ?_ | refine zzd hnt rfl ?_ ?_ | refine zzb ?_ | refine zzk ?_
  · exact zzt
  repeat' first | refine zzs ?_ | refine zzb ?_ | refine zzk ?_
  refine tr_loop (σ := Nat) (fun i => St.of [(0, .one (.e (.sl (l.map eUs)))), (1, .one (.e (eCols cols))), (21, .one (.e (.sl (l.map eUs)))), (22, .one (.e (eI ((l.map eUs).length : Int)))), (23, .one (.e (eI (i : Int)))), ((1000000 + 5), .one (.eptr fsE)), ((1000000 + 6), .one (.eptr acE))] []) (fun i => stL cols (l.take i) (l.drop i) = stL cols [] l ∧ i ≤ l.length) (fun i => l.length - i) (0) (le_of (ad := []) ⟨zzl, zzl, zzl, zzl, zzl, zzl, zzl, trivial⟩ trivial) ⟨rfl, Nat.zero_le _⟩ ?_
  rintro i ⟨hi, il⟩
  repeat' first | refine zzs ?_ | refine zzr hnt rfl ?_ ?_ | refine zzd hnt rfl ?_ ?_ | refine zzb ?_ | refine zzk ?_
  · exact zzt
  repeat' first | refine zzs ?_ | refine zzb ?_ | refine zzk ?_
  refine tr_cond rfl (fun hc => ?_) (fun hc => ?_)
  rotate_left
  · simp only [zz1, zz2, zz3, zz4, zz5, zz6, zz7, zz8] at hc
    (try simp only [hml] at hc)
    (try simp only [zz1, zz2, zz3, zz4, zz5, zz6, zz7, zz8] at hc)
    rw [List.drop_eq_nil_of_le (by omega)] at hi
    have hi : 0 = stL cols [] l := by rw [← hi, stL]
    rw [← hi]
    refine tr_exit ?_
    repeat' first | refine zzs ?_ | refine zzr hnt rfl ?_ ?_ | refine zzd hnt rfl ?_ ?_ | refine zzb ?_ | refine zzk ?_
    · exact zzt
    exact tr_ret ⟨.inr rfl, _, _, rfl, zzp, rfl⟩
  simp only [zz1, zz2, zz3, zz4, zz5, zz6, zz7, zz8] at hc
  (try simp only [hml] at hc)
  (try simp only [zz1, zz2, zz3, zz4, zz5, zz6, zz7, zz8] at hc)
  have hlt : i < l.length := by omega
  have hg := usGet l i hlt
  have hmem := getD_mem (d := use0) hlt
  have hxs := hx _ hmem
  rw [drop_getD (d := use0) hlt, stL] at hi
  have htk : l.take (i + 1) = l.take i ++ [l.getD i use0] := take_succ hlt
  rw [← htk] at hi
  have htl : (l.take i).length = i := by rw [List.length_take]; omega
  generalize hnx : l.take (i + 1) = nx at *
  repeat' first | refine zzs ?_ | refine zzb ?_ | refine zzk ?_
  first | refine zzr hnt rfl ?_ ?_ | refine zzd hnt rfl ?_ ?_
  · rw [Int.toNat_natCast, hg, hml]
    exact zza
  rw [Int.toNat_natCast, hg]
  generalize l.getD i use0 = s at *
  have hcf := column_fn cols s.c
  have hrg := fs_rng cols s.c
  repeat' first | refine zzs ?_ | refine zzb ?_ | refine zzk ?_
  refine tr_region (zzx hnt rfl ?_ (call rfl rfl rfl rfl rfl rfl rfl hnt (hcf) (zzx hnt rfl ?_ (Lex.nil _)))) ?_
  · exact zzt
  · exact zzt
  repeat' first | refine zzs ?_ | refine zzb ?_ | refine zzk ?_
  first | refine zzr hnt rfl ?_ ?_ | refine zzd hnt rfl ?_ ?_
  · exact zzt
  repeat' first | refine zzs ?_ | refine zzb ?_ | refine zzk ?_
  refine tr_cond rfl (fun hc => ?_) (fun hc => ?_)
  · simp only [zz1, zz2, zz3, zz4, zz5, zz6, zz7, zz8] at hc
    rw [if_pos hc] at hi
    rw [← hi]
    repeat' first | refine zzs ?_ | refine zzr hnt rfl ?_ ?_ | refine zzd hnt rfl ?_ ?_ | refine zzb ?_ | refine zzk ?_
    · exact zzt
    exact tr_ret ⟨.inr rfl, _, _, rfl, zzp, rfl⟩
  simp only [zz1, zz2, zz3, zz4, zz5, zz6, zz7, zz8] at hc
  rw [if_neg hc] at hi
  refine tr_le (s' := St.of [(0, .one (.e (.sl (l.map eUs)))), (1, .one (.e (eCols cols))), (5, .one (.e (eI (i : Int)))), (6, .one (.ptr 6 0 0)), (7, .one (.e (eI (fsF cols s.c 0)))), (21, .one (.e (.sl (l.map eUs)))), (22, .one (.e (eI ((l.map eUs).length : Int)))), (23, .one (.e (eI (i : Int)))), ((1000000 + 5), .one (.eptr fsE)), ((1000000 + 6), .one (.eptr acE))] [(6, ⟨0, .box (.es (eUs s)), 0⟩)]) (le_of (ad := []) ⟨zzl, zzl, zzl, zzl, zzl, zzl, zzl, zzl, zzl, zzl, trivial⟩ (memOk_box rfl rfl rfl trivial)) ?_
  repeat' first | refine zzs ?_ | refine zzb ?_ | refine zzk ?_
  first | refine zzr hnt rfl ?_ ?_ | refine zzd hnt rfl ?_ ?_
  · rw [hml]
    exact zza
  have hsl : List.take ((i : Int).toNat - Int.toNat 0) (List.drop (Int.toNat 0) (l.map eUs)) = (l.take i).map eUs := by
    rw [Int.toNat_natCast]
    show List.take i (l.map eUs) = _
    rw [List.map_take]
  rw [hsl]
  generalize l.take i = dn at *
  have hdl := usLen dn
  repeat' first | refine zzs ?_ | refine zzb ?_ | refine zzk ?_
  refine tr_loop (σ := Nat) (fun j => St.of [(0, .one (.e (.sl (l.map eUs)))), (1, .one (.e (eCols cols))), (6, .one (.ptr 6 0 0)), (7, .one (.e (eI (fsF cols s.c 0)))), (21, .one (.e (.sl (l.map eUs)))), (22, .one (.e (eI ((l.map eUs).length : Int)))), (23, .one (.e (eI (i : Int)))), (36, .one (.e (.sl (dn.map eUs)))), (37, .one (.e (eI ((dn.map eUs).length : Int)))), (38, .one (.e (eI (j : Int)))), ((1000000 + 5), .one (.eptr fsE)), ((1000000 + 6), .one (.eptr acE))] [(6, ⟨0, .box (.es (eUs s)), 0⟩)]) (fun j => inD (dn.drop j) s.c = inD dn s.c ∧ j ≤ dn.length) (fun j => dn.length - j) (0) (le_of (ad := []) ⟨zzl, zzl, zzl, zzl, zzl, zzl, zzl, zzl, zzl, zzl, zzl, zzl, trivial⟩ (memOk_box rfl rfl rfl trivial)) ⟨rfl, Nat.zero_le _⟩ ?_
  rintro j ⟨hj, jl⟩
  repeat' first | refine zzs ?_ | refine zzr hnt rfl ?_ ?_ | refine zzd hnt rfl ?_ ?_ | refine zzb ?_ | refine zzk ?_
  · exact zzt
  repeat' first | refine zzs ?_ | refine zzb ?_ | refine zzk ?_
  refine tr_cond rfl (fun hc => ?_) (fun hc => ?_)
  · simp only [zz1, zz2, zz3, zz4, zz5, zz6, zz7, zz8] at hc
    (try simp only [hdl] at hc)
    (try simp only [zz1, zz2, zz3, zz4, zz5, zz6, zz7, zz8] at hc)
    have hjt : j < dn.length := by omega
    have hgj := usGet dn j hjt
    rw [drop_getD (d := use0) hjt, inD, List.any_cons] at hj
    repeat' first | refine zzs ?_ | refine zzb ?_ | refine zzk ?_
    first | refine zzr hnt rfl ?_ ?_ | refine zzd hnt rfl ?_ ?_
    · rw [Int.toNat_natCast, hgj, hdl]
      exact zza
    rw [Int.toNat_natCast, hgj]
    generalize dn.getD j use0 = d at *
    repeat' first | refine zzs ?_ | refine zzb ?_ | refine zzk ?_
    first | refine zzr hnt rfl ?_ ?_ | refine zzd hnt rfl ?_ ?_
    · exact zzt
    repeat' first | refine zzs ?_ | refine zzb ?_ | refine zzk ?_
    refine tr_cond rfl (fun hc => ?_) (fun hc => ?_)
    · have hc : d.c = s.c := by
        have hc : strEq (strB d.c) (strB s.c) = true := hc
        rw [strEq_B] at hc
        exact of_decide_eq_true hc
      rw [decide_eq_true hc, Bool.true_or] at hj
      rw [if_pos hj.symm] at hi
      rw [← hi]
      repeat' first | refine zzs ?_ | refine zzr hnt rfl ?_ ?_ | refine zzd hnt rfl ?_ ?_ | refine zzb ?_ | refine zzk ?_
      · exact zzt
      exact tr_ret ⟨.inr rfl, _, _, rfl, zzp, rfl⟩
    have hc : ¬ d.c = s.c := by
      have hc : strEq (strB d.c) (strB s.c) = false := hc
      rw [strEq_B] at hc
      exact of_decide_eq_false hc
    rw [decide_eq_false hc, Bool.false_or] at hj
    repeat' first | refine zzs ?_ | refine zzr hnt rfl ?_ ?_ | refine zzd hnt rfl ?_ ?_ | refine zzb ?_ | refine zzk ?_
    · exact zzt
    refine ⟨j + 1, ⟨hj, hjt⟩, by omega, le_of (ad := []) ⟨zzl, zzl, zzl, zzl, zzl, zzl, zzl, zzl, zzl, zzl, zzl, zzl, trivial⟩ (memOk_box rfl rfl rfl trivial)⟩
  simp only [zz1, zz2, zz3, zz4, zz5, zz6, zz7, zz8] at hc
  (try simp only [hdl] at hc)
  (try simp only [zz1, zz2, zz3, zz4, zz5, zz6, zz7, zz8] at hc)
  rw [List.drop_eq_nil_of_le (by omega)] at hj
  rw [if_neg (by rw [← hj]; exact Bool.noConfusion)] at hi
  refine tr_exit ?_
  have hko := Of_fn s.x cols hxs hn
  rw [← usX s] at hko
  generalize koF s.x cols = k at *
  obtain ⟨k1, k2, k3⟩ := k
  dsimp only at hi
  repeat' first | refine zzs ?_ | refine zzb ?_ | refine zzk ?_
  refine tr_region (zzx hnt rfl ?_ (callV rfl rfl rfl rfl rfl rfl rfl hnt rfl (hko) (zzx hnt rfl ?_ (Lex.nil _)))) ?_
  · exact zza
  · exact zza
  repeat' first | refine zzs ?_ | refine zzr hnt rfl ?_ ?_ | refine zzd hnt rfl ?_ ?_ | refine zzb ?_ | refine zzk ?_
  · exact zzt
  repeat' first | refine zzs ?_ | refine zzb ?_ | refine zzk ?_
  refine tr_cond rfl (fun hc => ?_) (fun hc => ?_)
  · simp only [zz1, zz2, zz3, zz4, zz5, zz6, zz7, zz8] at hc
    rw [if_pos hc] at hi
    rw [← hi]
    repeat' first | refine zzs ?_ | refine zzr hnt rfl ?_ ?_ | refine zzd hnt rfl ?_ ?_ | refine zzb ?_ | refine zzk ?_
    · exact zzt
    exact tr_ret ⟨.inr rfl, _, _, rfl, zzp, rfl⟩
  simp only [zz1, zz2, zz3, zz4, zz5, zz6, zz7, zz8] at hc
  rw [if_neg (not_not_intro hc)] at hi
  obtain ⟨q, hq⟩ : ∃ q : Nat, fsF cols s.c 0 = q := ⟨(fsF cols s.c 0).toNat, by omega⟩
  rw [hq] at hrg hi ⊢
  have hql : q < cols.length := by omega
  have hcl := colsLen cols
  have hcg := colsGet cols q hql
  rw [Int.toNat_natCast] at hi
  repeat' first | refine zzs ?_ | refine zzb ?_ | refine zzk ?_
  first | refine zzr hnt rfl ?_ ?_ | refine zzd hnt rfl ?_ ?_
  · rw [Int.toNat_natCast, hcg, hcl]
    exact zza
  rw [Int.toNat_natCast, hcg]
  generalize cols.getD q col0 = c at *
  repeat' first | refine zzs ?_ | refine zzb ?_ | refine zzk ?_
  refine tr_cond rfl (fun hc => ?_) (fun hc => ?_)
  · have hc : (bif !decide (k1 = 0) then !decide (k1 = c.k) else false) = true := hc
    simp only [zz1, zz2, zz3, zz4, zz5, zz6, zz7, zz8] at hc
    rw [if_pos (by omega)] at hi
    rw [← hi]
    repeat' first | refine zzs ?_ | refine zzr hnt rfl ?_ ?_ | refine zzd hnt rfl ?_ ?_ | refine zzb ?_ | refine zzk ?_
    · exact zzt
    exact tr_ret ⟨.inr rfl, _, _, rfl, zzp, rfl⟩
  have hc : (bif !decide (k1 = 0) then !decide (k1 = c.k) else false) = false := hc
  simp only [zz1, zz2, zz3, zz4, zz5, zz6, zz7, zz8] at hc
  rw [if_neg (by omega)] at hi
  repeat' first | refine zzs ?_ | refine zzr hnt rfl ?_ ?_ | refine zzd hnt rfl ?_ ?_ | refine zzb ?_ | refine zzk ?_
  · exact zzt
  refine ⟨i + 1, ⟨by rw [hnx]; exact hi, hlt⟩, by omega, le_of (ad := []) ⟨zzl, zzl, zzl, zzl, zzl, zzl, zzl, trivial⟩ trivial⟩
end Go.Proofs.YthnadkafegmacaaGreatDoor
