/- The law TableUpdates: its function. No condition. -/
import Derived.Test.YthnadkafegmacaaGreatDoorTUpI
namespace Go.Proofs.YthnadkafegmacaaGreatDoor
open Go Go.RowKit Go.Proofs.YthnadkafegmacaaGreatDoor.Ab
set_option linter.unusedSimpArgs false
set_option linter.unusedVariables false

theorem upW_ok (x : Ex) {l : List USet} {m : Nat} {c : List Colm} (hm : m < 2) (hs : ∀ s ∈ l, exOk s.x ∧ stOk c s) : ∀ (f j : Nat) (t : Tbl) (n : Int), j + f ≤ 4 → t.ok → t.c = c → celF c (t.d.getD m []) = 0 → (upW x l m f j t n).1.ok
  | 0, _, t, n, _, h, _, _ => by
    rw [upW]
    split
    · exact tzOk
    · exact h
  | f + 1, j, t, n, hj, h, hc, he => by
    subst hc
    rw [upW]
    split
    · exact upW_ok x hm hs f _ t n (by omega) h rfl he
    rename_i h1
    split
    · exact tzOk
    split
    · exact upW_ok x hm hs f _ t n (by omega) h rfl he
    split
    · exact tzOk
    rename_i h4
    obtain ⟨u1, u2⟩ := up_step (l := l) (m := m) (j := j) h hm (by omega) he hs (by simpa using h1) (Classical.not_not.1 h4)
    exact upW_ok x hm hs f _ _ _ (by omega) u1 rfl u2
theorem updF_ok {t : Tbl} (h : t.ok) {i : Int} {x : Ex} {l : List USet} (hs : ∀ s ∈ l, exOk s.x) : (updF t i x l).1.ok := by
  unfold updF
  split
  · exact tzOk
  rename_i h0
  split
  · exact tzOk
  split
  · exact tzOk
  rename_i h2
  obtain ⟨ht, i0, i2⟩ := bg_in (Classical.not_not.1 h0)
  obtain ⟨p1, p2, p3, p4, p5⟩ := tabF_parts ht
  refine upW_ok x (c := t.c) (by omega) (fun s hs' => ⟨hs s hs', ?_⟩) 4 0 t 0 (by omega) h rfl (p5 _ (memD (d := []) (by rw [h.h2]; omega))).1
  have he : setsF l t.c = 0 := Classical.not_not.1 h2
  unfold setsF at he
  split at he
  · cases he
  · exact stL_ok he s hs'
set_option maxRecDepth 10000 in
set_option maxHeartbeats 2000000 in
theorem tableUpdates_fn (t : Tbl) (i : Int) (x : Ex) (l : List USet) (h : t.ok) (hx : exOk x) (hs : ∀ s ∈ l, exOk s.x) : FnG Tryz.prog 6 gK [.agg (.es (eTab t)), .one (.e (eI i)), .agg (.es (eEx x)), .one (.e (.sl (l.map eUs)))] (.v (.bool true)) := by
  refine fn_introG (T := tab) tOk Tryz.func6 rfl (by kernel_rfl) (by simp [Tryz.ntmps6]) ?_
  intro X hX
  have hnt : X.nt = 46 := hX
  clear hX
  have h19 := tabLen h
  have f19 : 0 + 19 ≤ (Cs.es (eTab t)).len := by show 0 + 19 ≤ (eTab t).length; omega
  have h7 : 0 + 7 ≤ (Cs.es (eEx x)).len := by have := ex7 x; show 0 + 7 ≤ (eEx x).length; omega
  have e7 : (Cs.es (eEx x)).len = 7 := ex7 x
  have h1 := Update_fn t i x l h hx hs
  have h2 := Updated_fn t i x l h hx hs
  have hok := updF_ok h (i := i) (x := x) hs
  rw [← tabAll h, ← exAll x] at h1 h2
  unfold rTn at h1 h2
  generalize updF t i x l = q at *
  obtain ⟨t', n, e⟩ := q
  dsimp only at hok h1 h2
  have h19' := tabLen hok
  have f19' : 0 + 19 ≤ (Cs.es (eTab t')).len := by show 0 + 19 ≤ (eTab t').length; omega
  have e19' : (Cs.es (eTab t')).len = 19 := h19'
  have h3 := sameTable_fn t' hok
  rw [← tabAll hok] at h3
  repeat' first | refine zzs ?_ | refine zzr hnt rfl ?_ ?_ | refine zzd hnt rfl ?_ ?_ | refine zzb ?_ | refine zzk ?_
  · exact zzt
  repeat' first | refine zzs ?_ | refine zzb ?_ | refine zzk ?_
  refine tr_region (zzx hnt rfl ?_ (callV rfl rfl rfl rfl rfl rfl rfl hnt rfl (h1) (zzx hnt rfl ?_ (Lex.nil _)))) ?_
  · exact zza
  · exact zza
  repeat' first | refine zzs ?_ | refine zzb ?_ | refine zzk ?_
  refine tr_region (zzx hnt rfl ?_ (callV rfl rfl rfl rfl rfl rfl rfl hnt rfl (h2) (zzx hnt rfl ?_ (Lex.nil _)))) ?_
  · exact zza
  · exact zza
  repeat' first | refine zzs ?_ | refine zzb ?_ | refine zzk ?_
  refine tr_region (zzx hnt rfl ?_ (callG rfl rfl rfl rfl rfl rfl hnt rfl (fun hq => ?_) (fun hq => h3) (zzx hnt rfl ?_ (Lex.nil _)))) ?_
  · exact zza
  · exact zza
  · exact zza
  repeat' first | refine zzs ?_ | refine zzb ?_ | refine zzk ?_
  refine tr_ret ⟨.inr rfl, _, _, rfl, by trivial, ?_⟩
  simp
  rfl
end Go.Proofs.YthnadkafegmacaaGreatDoor
