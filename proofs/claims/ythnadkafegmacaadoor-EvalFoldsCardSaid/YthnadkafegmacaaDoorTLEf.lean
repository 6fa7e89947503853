/- The law EvalFolds's own function. No condition. -/
import Derived.Test.YthnadkafegmacaaDoorTFoB
import Derived.Test.YthnadkafegmacaaDoorTSx
namespace Go.Proofs.YthnadkafegmacaaDoor
open Go Go.RowKit Go.Proofs.YthnadkafegmacaaDoor.Ab
set_option linter.unusedSimpArgs false
set_option linter.unusedVariables false

theorem lit_exOk {v : Val} (h : good v) : exOk (litX v) := by
  have hc := chk_cases h.1
  exact ⟨by decide, ⟨⟨⟨by omega, by omega⟩, h.2⟩, by simp only [maxLen]; omega⟩, Nat.zero_le _, Nat.zero_le _, trivial⟩
theorem exOkL_map {l : List Ex} (h : ∀ a ∈ l, exOk (fdX a)) : exOkL (fdL l) := by
  induction l with
  | nil => trivial
  | cons a r ih => exact ⟨h a List.mem_cons_self, ih fun b hb => h b (List.mem_cons_of_mem _ hb)⟩
theorem fd_ok : ∀ (m : Nat) (x : Ex), nodes x ≤ m → exOk x → ndF x = 0 → exOk (fdX x)
  | 0, x, h, _, _ => absurd h (by have := nodes_pos x; omega)
  | m + 1, x, h, ho, hn => by
    obtain ⟨n1, n2⟩ := nd_zero hn
    have hg := Th.ev_good (thO [] x) (th_ok [] [] rfl (fun v hv => nomatch hv) (m + 1) x h ho hn)
    rw [fdX_eq]
    split
    · exact ho
    · unfold joinX
      split
      · rename_i hc
        exact lit_exOk (hg hc.2.1)
      · refine ⟨((exOk_eq x).1 ho).1, ⟨⟨by decide, by decide⟩, Nat.zero_le _⟩, Nat.zero_le _, ?_, exOkL_map fun a ha => fd_ok m a (kid_nodes h ha) ((exOk_kids ho).2 a ha) (n2 a ha)⟩
        rw [fdL_map, List.length_map]
        exact (exOk_kids ho).1
theorem ex0_ok : exOk ex0 := ⟨by decide, ⟨⟨by decide, by decide⟩, Nat.zero_le _⟩, Nat.zero_le _, Nat.zero_le _, trivial⟩
theorem fo_ok {x : Ex} (ho : exOk x) : exOk (foF x).1 := by
  unfold foF
  split
  · exact ex0_ok
  · rename_i h
    exact fd_ok (nodes x) x (Nat.le_refl _) ho (exF_ok (Classical.not_not.1 h))
set_option maxRecDepth 10000 in
set_option maxHeartbeats 2000000 in
theorem evalFolds_fn (x : Ex) (hx : exOk x) : FnG Tryd.prog 6 gK [.agg (.es (eEx x))] (.v (.bool true)) := by
  refine fn_introG (T := tab) tOk Tryd.func6 rfl (by kernel_rfl) (by simp [Tryd.ntmps6]) ?_
  intro X hX
  have hnt : X.nt = 25 := hX
  clear hX
  have h7 : 0 + 7 ≤ (Cs.es (eEx x)).len := by have := ex7 x; show 0 + 7 ≤ (eEx x).length; omega
  have e7 : (Cs.es (eEx x)).len = 7 := ex7 x
  have h1 := Fold_fn x hx
  have h2 := FoldedOf_fn x hx
  have h3 := sameExpr_fn (foF x).1 (fo_ok hx)
  rw [← exAll x] at h1 h2
  unfold rXE at h1 h2
  generalize foF x = A at *
  obtain ⟨z, e⟩ := A
  dsimp only at h1 h2 h3
  rw [eEx_eq z] at h1 h2 h3
  repeat' first | refine zzs ?_ | refine zzb ?_ | refine zzk ?_
  first | refine zzr hnt rfl ?_ ?_ | refine zzd hnt rfl ?_ ?_
  · exact zza
  repeat' first | refine zzs ?_ | refine zzb ?_ | refine zzk ?_
  refine tr_region (zzx hnt rfl ?_ (callV rfl rfl rfl rfl rfl rfl rfl hnt rfl (h1) (zzx hnt rfl ?_ (Lex.nil _)))) ?_
  · exact zza
  · exact zza
  repeat' first | refine zzs ?_ | refine zzb ?_ | refine zzk ?_
  refine tr_region (zzx hnt rfl ?_ (callV rfl rfl rfl rfl rfl rfl rfl hnt rfl (h2) (zzx hnt rfl ?_ (Lex.nil _)))) ?_
  · exact zza
  · exact zza
  repeat' first | refine zzs ?_ | refine zzb ?_ | refine zzk ?_
  refine tr_region (zzx hnt rfl ?_ (callG rfl rfl rfl rfl rfl rfl hnt rfl (fun hq => ?_) (fun hq => h3) (zzx hnt rfl ?_ (Lex.nil _)))) ?_
  · exact zza
  · exact zza
  · exact zza
  refine tr_ret ⟨.inr rfl, _, _, rfl, by trivial, ?_⟩
  simp
  rfl
end Go.Proofs.YthnadkafegmacaaDoor
