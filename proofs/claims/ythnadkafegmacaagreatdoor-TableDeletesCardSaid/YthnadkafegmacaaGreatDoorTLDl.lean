/- The law TableDeletes: its function. No condition. -/
import Derived.Test.YthnadkafegmacaaGreatDoorTDlB
namespace Go.Proofs.YthnadkafegmacaaGreatDoor
open Go Go.RowKit Go.Proofs.YthnadkafegmacaaGreatDoor.Ab
set_option linter.unusedSimpArgs false
set_option linter.unusedVariables false

theorem tzOk : tz.ok := by
  refine ⟨rfl, ?_, Nat.zero_le _, fun c hc => absurd hc List.not_mem_nil, ?_⟩
  · intro d hd
    simp only [tz, List.mem_cons, List.not_mem_nil, or_false] at hd
    rcases hd with rfl | rfl <;> rfl
  · intro d hd x hx v hv
    simp only [tz, List.mem_cons, List.not_mem_nil, or_false] at hd
    rcases hd with rfl | rfl <;> (simp only [List.mem_cons, List.not_mem_nil, or_false, or_self] at hx; subst hx; exact absurd hv List.not_mem_nil)
theorem dlW_ok (x : Ex) {m : Nat} (hm : m < 2) : ∀ (f j : Nat) (t : Tbl) (n : Int), t.ok → (dlW x m f j t n).1.ok
  | 0, _, t, n, h => h
  | f + 1, j, t, n, h => by
    rw [dlW]
    split
    · exact dlW_ok x hm f _ t n h
    split
    · exact tzOk
    split
    · exact dlW_ok x hm f _ _ _ (putT_ok h hm cel0 (fun v hv => nomatch hv))
    · exact dlW_ok x hm f _ t n h
theorem delF_ok {t : Tbl} (h : t.ok) {i : Int} {x : Ex} : (delF t i x).1.ok := by
  unfold delF
  split
  · exact tzOk
  · rename_i h0
    split
    · exact tzOk
    · have := bg_in (Classical.not_not.1 h0)
      exact dlW_ok x (by omega) 4 0 t 0 h
set_option maxRecDepth 10000 in
set_option maxHeartbeats 2000000 in
theorem tableDeletes_fn (t : Tbl) (i : Int) (x : Ex) (h : t.ok) (hx : exOk x) : FnG Tryz.prog 5 gK [.agg (.es (eTab t)), .one (.e (eI i)), .agg (.es (eEx x))] (.v (.bool true)) := by
  refine fn_introG (T := tab) tOk Tryz.func5 rfl (by kernel_rfl) (by simp [Tryz.ntmps5]) ?_
  intro X hX
  have hnt : X.nt = 42 := hX
  clear hX
  have h19 := tabLen h
  have f19 : 0 + 19 ≤ (Cs.es (eTab t)).len := by show 0 + 19 ≤ (eTab t).length; omega
  have h7 : 0 + 7 ≤ (Cs.es (eEx x)).len := by have := ex7 x; show 0 + 7 ≤ (eEx x).length; omega
  have e7 : (Cs.es (eEx x)).len = 7 := ex7 x
  have h1 := Delete_fn t i x h hx
  have h2 := Deleted_fn t i x h hx
  have hok := delF_ok h (i := i) (x := x)
  rw [← tabAll h, ← exAll x] at h1 h2
  unfold rTn at h1 h2
  generalize delF t i x = q at *
  obtain ⟨t', n, e⟩ := q
  dsimp only at hok h1 h2
  have h19' := tabLen hok
  have f19' : 0 + 19 ≤ (Cs.es (eTab t')).len := by show 0 + 19 ≤ (eTab t').length; omega
  have e19' : (Cs.es (eTab t')).len = 19 := h19'
  have h3 := sameTable_fn t' hok
  rw [← tabAll hok] at h3
  repeat' first | refine zzs ?_ | refine zzr hnt rfl ?_ ?_ | refine zzd hnt rfl ?_ ?_ | refine zzb ?_ | refine zzk ?_
  · exact zzt
  repeat' first | refine zzs ?_ | refine zzb ?_ | refine zzk ?_
  refine tr_region (zzx hnt rfl ?_ (callV rfl rfl rfl rfl rfl rfl rfl hnt rfl (h1) (zzx hnt rfl ?_ (Lex.nil _)))) ?_
  · exact zza
  · exact zza
  repeat' first | refine zzs ?_ | refine zzb ?_ | refine zzk ?_
  refine tr_region (zzx hnt rfl ?_ (callV rfl rfl rfl rfl rfl rfl rfl hnt rfl (h2) (zzx hnt rfl ?_ (Lex.nil _)))) ?_
  · exact zza
  · exact zza
  repeat' first | refine zzs ?_ | refine zzb ?_ | refine zzk ?_
  refine tr_region (zzx hnt rfl ?_ (callG rfl rfl rfl rfl rfl rfl hnt rfl (fun hq => ?_) (fun hq => h3) (zzx hnt rfl ?_ (Lex.nil _)))) ?_
  · exact zza
  · exact zza
  · exact zza
  repeat' first | refine zzs ?_ | refine zzb ?_ | refine zzk ?_
  refine tr_ret ⟨.inr rfl, _, _, rfl, by trivial, ?_⟩
  simp
  rfl
end Go.Proofs.YthnadkafegmacaaGreatDoor
