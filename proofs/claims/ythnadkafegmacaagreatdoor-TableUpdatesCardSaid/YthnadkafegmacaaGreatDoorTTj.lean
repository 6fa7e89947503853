/- table.Insert and the document's Inserted. No condition. -/
import Derived.Test.YthnadkafegmacaaGreatDoorTTi
namespace Go.Proofs.YthnadkafegmacaaGreatDoor
open Go Go.RowKit Go.Proofs.YthnadkafegmacaaGreatDoor.Ab
set_option linter.unusedSimpArgs false
set_option linter.unusedVariables false

def rTb (r : Tbl × Int) : D := .tup [(true, .es (eTab r.1)), (false, .es [eI r.2])]
def bgE (t : Tbl) (i : Int) : Int := if tabF t ≠ 0 then tabF t else if i < 0 ∨ 2 ≤ i then 6 else 0
theorem colsF_len {l : List Colm} (h : colsF l = 0) : l.length ≤ 5 := by
  unfold colsF at h
  split at h
  · exact absurd h (by decide)
  · omega
theorem rowF_len {r : List Val} {l : List Colm} (h : rowF r l = 0) : r.length = l.length := by
  unfold rowF at h
  split at h
  · contradiction
  · split at h
    · exact absurd h (by decide)
    · rename_i h1; exact Classical.not_not.1 h1
theorem celF_len {c : List Colm} (hc : c.length ≤ 5) : ∀ {d : List Cel}, celF c d = 0 → ∀ x ∈ d, x.r.length ≤ 5
  | [], _ => fun x hx => absurd hx List.not_mem_nil
  | y :: r, h => by
    unfold celF at h
    intro x hx
    by_cases hy : y.f = false
    · rw [if_pos hy] at h
      split at h
      · exact absurd h (by decide)
      · rename_i h1
        rcases List.mem_cons.1 hx with rfl | hx
        · omega
        · exact celF_len hc h x hx
    · rw [if_neg hy] at h
      split at h
      · contradiction
      · rename_i h1
        rcases List.mem_cons.1 hx with rfl | hx
        · rw [rowF_len (Classical.not_not.1 h1)]; exact hc
        · exact celF_len hc h x hx
theorem drF_each {c : List Colm} : ∀ {l : List (List Cel)}, drF c l = 0 → ∀ d ∈ l, celF c d = 0 ∧ kF [] d = 0
  | [], _ => fun d hd => absurd hd List.not_mem_nil
  | e :: r, h => by
    rw [drF] at h
    split at h
    · contradiction
    · rename_i h1
      split at h
      · contradiction
      · rename_i h2
        intro d hd
        rcases List.mem_cons.1 hd with rfl | hd
        · exact ⟨Classical.not_not.1 h1, Classical.not_not.1 h2⟩
        · exact drF_each h d hd
theorem tabF_parts {t : Tbl} (h : tabF t = 0) : t.th = true ∧ nmOk t.n ∧ colsF t.c = 0 ∧ fstOk t.c ∧ ∀ d ∈ t.d, celF t.c d = 0 ∧ kF [] d = 0 := by
  unfold tabF at h
  split at h
  · exact absurd h (by decide)
  · rename_i h1
    split at h
    · exact absurd h (by decide)
    · rename_i h2
      split at h
      · contradiction
      · rename_i h3
        split at h
        · exact absurd h (by decide)
        · rename_i h4
          exact ⟨by cases hh : t.th; exact absurd hh h1; rfl, Classical.not_not.1 h2, Classical.not_not.1 h3, fstB_ok (by cases hh : fstB t.c; exact absurd hh h4; rfl), drF_each h⟩
theorem tabF_short {t : Tbl} (h : tabF t = 0) : t.short := by
  obtain ⟨_, _, h3, _, h5⟩ := tabF_parts h
  have hc := colsF_len h3
  exact ⟨by omega, fun d hd x hx => Nat.le_trans (celF_len hc (h5 d hd).1 x hx) (by decide)⟩
set_option maxRecDepth 10000 in
set_option maxHeartbeats 2000000 in
theorem begun_fn (t : Tbl) (i : Int) (h : t.ok) : FnG Tryz.prog 34 gK [.agg (.es (eTab t)), .one (.e (eI i))] (rTb (if bgE t i = 0 then t else tz, bgE t i)) := by
  refine fn_introG (T := tab) tOk Tryz.func34 rfl (by kernel_rfl) (by simp [Tryz.ntmps34]) ?_
  intro X hX
  have hnt : X.nt = 22 := hX
  clear hX
  have h19 := tabLen h
  have f19 : 0 + 19 ≤ (Cs.es (eTab t)).len := by show 0 + 19 ≤ (eTab t).length; omega
  have e19 : (Cs.es (List.take 19 (List.drop 0 (eTab t)))).len = 19 := by rw [tabAll h]; exact h19
  have h1 := tabCheck_fn t h
  have h2 := fun hz => fresh_fn t h (tabF_short hz)
  unfold bgE
  rw [← tabAll h] at h1 h2
  generalize tabF t = e at *
  repeat' first | refine zzs ?_ | refine zzr hnt rfl ?_ ?_ | refine zzd hnt rfl ?_ ?_ | refine zzb ?_ | refine zzk ?_
  · exact zzt
  repeat' first | refine zzs ?_ | refine zzb ?_ | refine zzk ?_
  refine tr_region (zzx hnt rfl ?_ (callV rfl rfl rfl rfl rfl rfl rfl hnt rfl (h1) (zzx hnt rfl ?_ (Lex.nil _)))) ?_
  · exact zza
  · exact zzt
  repeat' first | refine zzs ?_ | refine zzr hnt rfl ?_ ?_ | refine zzd hnt rfl ?_ ?_ | refine zzb ?_ | refine zzk ?_
  · exact zzt
  repeat' first | refine zzs ?_ | refine zzb ?_ | refine zzk ?_
  refine tr_cond rfl (fun hc => ?_) (fun hc => ?_)
  · simp only [zz1, zz2, zz3, zz4, zz5, zz6, zz7, zz8] at hc
    rw [if_pos hc, if_neg hc]
    repeat' first | refine zzs ?_ | refine zzr hnt rfl ?_ ?_ | refine zzd hnt rfl ?_ ?_ | refine zzb ?_ | refine zzk ?_
    · exact zzt
    repeat' first | refine zzs ?_ | refine zzb ?_ | refine zzk ?_
    refine tr_ret ⟨.inr rfl, _, _, rfl, zzp, ?_⟩
    exact rfl
  simp only [zz1, zz2, zz3, zz4, zz5, zz6, zz7, zz8] at hc
  rw [if_neg (not_not_intro hc)]
  repeat' first | refine zzs ?_ | refine zzb ?_ | refine zzk ?_
  first | refine zzr hnt rfl ?_ ?_ | refine zzd hnt rfl ?_ ?_
  · exact zza
  repeat' first | refine zzs ?_ | refine zzb ?_ | refine zzk ?_
  refine tr_cond rfl (fun hc => ?_) (fun hc => ?_)
  · have hc : (bif decide (i < 0) then true else decide (2 ≤ i)) = true := hc
    simp only [zz1, zz2, zz3, zz4, zz5, zz6, zz7, zz8] at hc
    rw [if_pos hc, if_neg (by decide)]
    repeat' first | refine zzs ?_ | refine zzr hnt rfl ?_ ?_ | refine zzd hnt rfl ?_ ?_ | refine zzb ?_ | refine zzk ?_
    · exact zzt
    repeat' first | refine zzs ?_ | refine zzb ?_ | refine zzk ?_
    refine tr_ret ⟨.inr rfl, _, _, rfl, zzp, ?_⟩
    exact rfl
  have hc2 : (bif decide (i < 0) then true else decide (2 ≤ i)) = false := hc
  clear hc
  have hc := hc2
  simp only [zz1, zz2, zz3, zz4, zz5, zz6, zz7, zz8] at hc
  rw [if_neg (show ¬ (i < 0 ∨ 2 ≤ i) by omega), if_pos rfl]
  have h2 := h2 ‹e = 0›
  repeat' first | refine zzs ?_ | refine zzb ?_ | refine zzk ?_
  refine tr_region (zzx hnt rfl ?_ (call rfl rfl rfl rfl rfl rfl rfl hnt (h2) (zzx hnt rfl ?_ (Lex.nil _)))) ?_
  · exact zza
  · exact zza
  repeat' first | refine zzs ?_ | refine zzb ?_ | refine zzk ?_
  refine tr_ret ⟨.inr rfl, _, _, rfl, ?_, ?_⟩
  · exact zza
  rw [tabAll h, tabAll h]
  rfl
set_option maxRecDepth 10000 in
set_option maxHeartbeats 2000000 in
theorem ready_fn (t : Tbl) (i : Int) (h : t.ok) : FnG Tryz.prog 37 gK [.agg (.es (eTab t)), .one (.e (eI i))] (.one (.e (eI (bgE t i)))) := by
  refine fn_introG (T := tab) tOk Tryz.func37 rfl (by kernel_rfl) (by simp [Tryz.ntmps37]) ?_
  intro X hX
  have hnt : X.nt = 17 := hX
  clear hX
  have h19 := tabLen h
  have f19 : 0 + 19 ≤ (Cs.es (eTab t)).len := by show 0 + 19 ≤ (eTab t).length; omega
  have h1 := tableFault_fn t h
  unfold bgE
  rw [← tabAll h] at h1
  generalize tabF t = e at *
  repeat' first | refine zzs ?_ | refine zzr hnt rfl ?_ ?_ | refine zzd hnt rfl ?_ ?_ | refine zzb ?_ | refine zzk ?_
  · exact zzt
  repeat' first | refine zzs ?_ | refine zzb ?_ | refine zzk ?_
  refine tr_region (zzx hnt rfl ?_ (callV rfl rfl rfl rfl rfl rfl rfl hnt rfl (h1) (zzx hnt rfl ?_ (Lex.nil _)))) ?_
  · exact zza
  · exact zzt
  repeat' first | refine zzs ?_ | refine zzr hnt rfl ?_ ?_ | refine zzd hnt rfl ?_ ?_ | refine zzb ?_ | refine zzk ?_
  · exact zzt
  repeat' first | refine zzs ?_ | refine zzb ?_ | refine zzk ?_
  refine tr_cond rfl (fun hc => ?_) (fun hc => ?_)
  · simp only [zz1, zz2, zz3, zz4, zz5, zz6, zz7, zz8] at hc
    rw [if_pos hc]
    repeat' first | refine zzs ?_ | refine zzr hnt rfl ?_ ?_ | refine zzd hnt rfl ?_ ?_ | refine zzb ?_ | refine zzk ?_
    · exact zzt
    repeat' first | refine zzs ?_ | refine zzb ?_ | refine zzk ?_
    refine tr_ret ⟨.inr rfl, _, _, rfl, zzp, ?_⟩
    exact rfl
  simp only [zz1, zz2, zz3, zz4, zz5, zz6, zz7, zz8] at hc
  rw [if_neg (not_not_intro hc)]
  repeat' first | refine zzs ?_ | refine zzb ?_ | refine zzk ?_
  first | refine zzr hnt rfl ?_ ?_ | refine zzd hnt rfl ?_ ?_
  · exact zza
  repeat' first | refine zzs ?_ | refine zzb ?_ | refine zzk ?_
  refine tr_cond rfl (fun hc => ?_) (fun hc => ?_)
  · have hc : (bif !decide (i = 0) then !decide (i = 1) else false) = true := hc
    simp only [zz1, zz2, zz3, zz4, zz5, zz6, zz7, zz8] at hc
    rw [if_pos (by omega)]
    repeat' first | refine zzs ?_ | refine zzr hnt rfl ?_ ?_ | refine zzd hnt rfl ?_ ?_ | refine zzb ?_ | refine zzk ?_
    · exact zzt
    repeat' first | refine zzs ?_ | refine zzb ?_ | refine zzk ?_
    refine tr_ret ⟨.inr rfl, _, _, rfl, zzp, ?_⟩
    exact rfl
  have hc : (bif !decide (i = 0) then !decide (i = 1) else false) = false := hc
  simp only [zz1, zz2, zz3, zz4, zz5, zz6, zz7, zz8] at hc
  rw [if_neg (by omega)]
  repeat' first | refine zzs ?_ | refine zzr hnt rfl ?_ ?_ | refine zzd hnt rfl ?_ ?_ | refine zzb ?_ | refine zzk ?_
  · exact zzt
  repeat' first | refine zzs ?_ | refine zzb ?_ | refine zzk ?_
  refine tr_ret ⟨.inr rfl, _, _, rfl, zzp, ?_⟩
  exact rfl
def putT (t : Tbl) (i j : Nat) (x : Cel) : Tbl := { t with d := t.d.set i ((t.d.getD i []).set j x) }
theorem tabDrw {t : Tbl} (h : t.ok) {i : Nat} (hi : i < 2) : List.take 8 (List.drop (0 + 3 + i * 8) (eTab t)) = eDr (t.d.getD i []) := by
  have h1 : List.drop (0 + 3) (eTab t) = (t.d.map eDr).flatten := rfl
  rw [← List.drop_drop, h1]
  exact drGet h.h4 i (by rw [h.h2]; exact hi)
theorem len4 {α : Type} {l : List α} (h : l.length = 4) : ∃ a b c d, l = [a, b, c, d] := by
  match l, h with
  | [a, b, c, d], _ => exact ⟨a, b, c, d, rfl⟩
theorem tabPut {t : Tbl} (h : t.ok) {i j : Nat} (hi : i < 2) (hj : j < 4) (x : Cel) : List.take (0 + 3 + i * 8 + j * 2) (eTab t) ++ eCel x ++ List.drop (0 + 3 + i * 8 + j * 2 + 2) (eTab t) = eTab (putT t i j x) := by
  obtain ⟨h2, h4, _, _, _⟩ := h
  obtain ⟨th, n, c, d⟩ := t
  match d, h2 with
  | [p, q], _ =>
    obtain ⟨a0, a1, a2, a3, rfl⟩ := len4 (h4 p (by simp))
    obtain ⟨b0, b1, b2, b3, rfl⟩ := len4 (h4 q (by simp))
    have hi : i = 0 ∨ i = 1 := by omega
    have hj : j = 0 ∨ j = 1 ∨ j = 2 ∨ j = 3 := by omega
    rcases hi with rfl | rfl <;> rcases hj with rfl | rfl | rfl | rfl <;> rfl
theorem putT_ok {t : Tbl} (h : t.ok) {i j : Nat} (hi : i < 2) (x : Cel) (hx : ∀ v ∈ x.r, v.fit) : (putT t i j x).ok := by
  have hil : i < t.d.length := by rw [h.h2]; exact hi
  have hm := memD (d := []) hil
  have hmem : ∀ d ∈ (putT t i j x).d, d = (t.d.getD i []).set j x ∨ d ∈ t.d := fun d hd => (List.mem_or_eq_of_mem_set hd).symm.imp id id
  refine ⟨?_, ?_, h.nm, h.cs, ?_⟩
  · show (t.d.set i _).length = 2
    rw [List.length_set, h.h2]
  · intro d hd
    rcases hmem d hd with rfl | hd
    · rw [List.length_set]; exact h.h4 _ hm
    · exact h.h4 _ hd
  · intro d hd y hy
    rcases hmem d hd with rfl | hd
    · rcases List.mem_or_eq_of_mem_set hy with hy | rfl
      · exact h.vs _ hm y hy
      · exact hx
    · exact h.vs _ hd y hy
end Go.Proofs.YthnadkafegmacaaGreatDoor
