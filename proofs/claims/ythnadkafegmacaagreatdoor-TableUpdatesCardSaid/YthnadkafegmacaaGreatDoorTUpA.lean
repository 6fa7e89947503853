/- What an UPDATE sets: its check. No condition. -/
import Derived.Test.YthnadkafegmacaaGreatDoorTUpS
namespace Go.Proofs.YthnadkafegmacaaGreatDoor
open Go Go.RowKit Go.Proofs.YthnadkafegmacaaGreatDoor.Ab
set_option linter.unusedSimpArgs false
set_option linter.unusedVariables false

structure USet where
  c : Byt
  x : Ex
def use0 : USet := ⟨[], ex0⟩
def eUs (s : USet) : List E := [eT s.c, eI s.x.op, eI s.x.v.k, eI s.x.v.i, eQ s.x.v.b, eT s.x.v.t, eT s.x.n, .sl (eExs s.x.ar)]
theorem usX (s : USet) : List.take 7 (List.drop (0 + 1) (eUs s)) = eEx s.x := by rw [eEx_eq]; rfl
theorem usLen (l : List USet) : (l.map eUs).length = l.length := List.length_map ..
theorem usGet (l : List USet) (i : Nat) (h : i < l.length) : (l.map eUs).getD i [] = eUs (l.getD i use0) := by
  rw [List.getD_eq_getElem?_getD, List.getElem?_map, List.getElem?_eq_getElem h, List.getD_eq_getElem?_getD, List.getElem?_eq_getElem h]
  rfl
set_option maxRecDepth 10000 in
set_option maxHeartbeats 2000000 in
theorem column_fn (l : List Colm) (s : Byt) : FnD Tryz.prog 110 [.one (.e (eCols l)), .one (.e (eT s))] (.one (.e (eI (fsF l s 0)))) := by
  refine FnD.len ⟨_, _, Tryz.func110, rfl, by kernel_rfl⟩ 0 rfl fun hl0 => ?_
  refine fn_intro (T := tab) tOk Tryz.func110 rfl (by kernel_rfl) (by simp [Tryz.ntmps110]) ?_
  intro X hX
  have hnt : X.nt = 20 := hX
  clear hX
  have hml := colsLen l
  unfold maxLen at hl0
  repeat' first | refine zzs ?_ | refine zzr hnt rfl ?_ ?_ | refine zzd hnt rfl ?_ ?_ | refine zzb ?_ | refine zzk ?_
  · exact zzt
  · exact zzt
  repeat' first | refine zzs ?_ | refine zzb ?_ | refine zzk ?_
  refine tr_loop (σ := Nat) (fun i => St.of [(1, .one (.e (eT s))), (7, .one (.e (eCols l))), (8, .one (.e (eI ((l.map eCol).length : Int)))), (9, .one (.e (eI (i : Int))))] []) (fun i => fsF (l.drop i) s i = fsF l s 0 ∧ i ≤ l.length) (fun i => l.length - i) (0) (le_of (ad := []) ⟨zzl, zzl, zzl, zzl, trivial⟩ trivial) ⟨rfl, Nat.zero_le _⟩ ?_
  rintro i ⟨hi, il⟩
  repeat' first | refine zzs ?_ | refine zzr hnt rfl ?_ ?_ | refine zzd hnt rfl ?_ ?_ | refine zzb ?_ | refine zzk ?_
  · exact zzt
  repeat' first | refine zzs ?_ | refine zzb ?_ | refine zzk ?_
  refine tr_cond rfl (fun hc => ?_) (fun hc => ?_)
  · simp only [zz1, zz2, zz3, zz4, zz5, zz6, zz7, zz8] at hc
    (try simp only [hml] at hc)
    (try simp only [zz1, zz2, zz3, zz4, zz5, zz6, zz7, zz8] at hc)
    have hlt : i < l.length := by omega
    have hg := colsGet l i hlt
    rw [drop_getD (d := col0) hlt, fsF] at hi
    repeat' first | refine zzs ?_ | refine zzb ?_ | refine zzk ?_
    first | refine zzr hnt rfl ?_ ?_ | refine zzd hnt rfl ?_ ?_
    · rw [Int.toNat_natCast, hg, hml]
      exact zza
    rw [Int.toNat_natCast, hg]
    generalize l.getD i col0 = c at *
    repeat' first | refine zzs ?_ | refine zzb ?_ | refine zzk ?_
    first | refine zzr hnt rfl ?_ ?_ | refine zzd hnt rfl ?_ ?_
    · exact zza
    repeat' first | refine zzs ?_ | refine zzb ?_ | refine zzk ?_
    refine tr_cond rfl (fun hc => ?_) (fun hc => ?_)
    · have hc : c.n = s := by
        have hc : strEq (strB c.n) (strB s) = true := hc
        rw [strEq_B] at hc
        exact of_decide_eq_true hc
      rw [if_pos hc] at hi
      rw [← hi]
      repeat' first | refine zzs ?_ | refine zzr hnt rfl ?_ ?_ | refine zzd hnt rfl ?_ ?_ | refine zzb ?_ | refine zzk ?_
      · exact zzt
      exact tr_ret ⟨.inr rfl, _, _, rfl, zzp, rfl⟩
    have hc : ¬ c.n = s := by
      have hc : strEq (strB c.n) (strB s) = false := hc
      rw [strEq_B] at hc
      exact of_decide_eq_false hc
    rw [if_neg hc] at hi
    repeat' first | refine zzs ?_ | refine zzr hnt rfl ?_ ?_ | refine zzd hnt rfl ?_ ?_ | refine zzb ?_ | refine zzk ?_
    · exact zzt
    refine ⟨i + 1, ⟨hi, hlt⟩, by omega, le_of (ad := []) ⟨zzl, zzl, zzl, zzl, trivial⟩ trivial⟩
  simp only [zz1, zz2, zz3, zz4, zz5, zz6, zz7, zz8] at hc
  (try simp only [hml] at hc)
  (try simp only [zz1, zz2, zz3, zz4, zz5, zz6, zz7, zz8] at hc)
  rw [List.drop_eq_nil_of_le (by omega)] at hi
  have hi : -1 = fsF l s 0 := hi
  rw [← hi]
  refine tr_exit ?_
  repeat' first | refine zzs ?_ | refine zzr hnt rfl ?_ ?_ | refine zzd hnt rfl ?_ ?_ | refine zzb ?_ | refine zzk ?_
  · exact zzt
  exact tr_ret ⟨.inr rfl, _, _, rfl, zzp, rfl⟩
end Go.Proofs.YthnadkafegmacaaGreatDoor
