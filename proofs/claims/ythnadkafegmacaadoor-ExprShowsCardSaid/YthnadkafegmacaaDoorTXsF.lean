/- The document's expression shown. No condition. -/
import Derived.Test.YthnadkafegmacaaDoorTXsE
namespace Go.Proofs.YthnadkafegmacaaDoor
open Go Go.RowKit Go.Proofs.YthnadkafegmacaaDoor.Ab
set_option linter.unusedSimpArgs false
set_option linter.unusedVariables false

def eTss (ls : List (List Tok)) : E := .sl (ls.map fun l => [eTks l])
theorem flat_take {α : Type} {ls : List (List α)} {i : Nat} (h : i < ls.length) : (ls.take (i + 1)).flatten = (ls.take i).flatten ++ ls.getD i [] := by
  rw [take_succ (d := []) h, List.flatten_append]
  simp
theorem flat_take_le {α : Type} (ls : List (List α)) (i : Nat) : (ls.take i).flatten.length ≤ ls.flatten.length := by
  have h : ls.flatten = (ls.take i).flatten ++ (ls.drop i).flatten := by rw [← List.flatten_append, List.take_append_drop]
  rw [h, List.length_append]
  omega
set_option maxRecDepth 10000 in
set_option maxHeartbeats 2000000 in
theorem cat_fn (ls : List (List Tok)) (hl : ls.length ≤ 5) (hb : ls.flatten.length ≤ 100000) : FnD Tryd.prog 74 [.one (.e (eTss ls))] (.one (.e (eTks ls.flatten))) := by
  refine fn_intro (T := tab) tOk Tryd.func74 rfl (by kernel_rfl) (by simp [Tryd.ntmps74]) ?_
  intro X hX
  have hnt : X.nt = 17 := hX
  clear hX
  have hml : (ls.map fun l => [eTks l]).length = ls.length := List.length_map ..
  repeat' first | refine zzs ?_ | refine zzb ?_ | refine zzk ?_
  first | refine zzr hnt rfl ?_ ?_ | refine zzd hnt rfl ?_ ?_
  · exact zzt
  repeat' first | refine zzs ?_ | refine zzb ?_ | refine zzk ?_
  first | refine zzr hnt rfl ?_ ?_ | refine zzd hnt rfl ?_ ?_
  · exact zzt
  repeat' first | refine zzs ?_ | refine zzb ?_ | refine zzk ?_
  first | refine zzr hnt rfl ?_ ?_ | refine zzd hnt rfl ?_ ?_
  · exact zzt
  repeat' first | refine zzs ?_ | refine zzb ?_ | refine zzk ?_
  refine tr_loop (σ := Nat) (fun i => St.of [(3, .one (.own 3000 0)), (6, .one (.e (.sl (ls.map fun l => [eTks l])))), (7, .one (.e (eI ((ls.map fun l => [eTks l]).length : Int)))), (8, .one (.e (eI (i : Int))))] [(3000, ⟨0, .row 4 ((ls.take i).flatten.map eTok), 0⟩)]) (fun i => i ≤ ls.length) (fun i => ls.length - i) (0) (le_of (ad := [3000]) ⟨zzl, zzl, zzl, zzl, trivial⟩ (memOk_new rfl (by decide) trivial)) (Nat.zero_le _) ?_
  rintro i il
  repeat' first | refine zzs ?_ | refine zzr hnt rfl ?_ ?_ | refine zzd hnt rfl ?_ ?_ | refine zzb ?_ | refine zzk ?_
  · exact zzt
  repeat' first | refine zzs ?_ | refine zzb ?_ | refine zzk ?_
  refine tr_cond rfl (fun hc => ?_) (fun hc => ?_)
  · simp only [zz1, zz2, zz3, zz4, zz5, zz6, zz7, zz8] at hc
    (try simp only [hml] at hc)
    (try simp only [zz1, zz2, zz3, zz4, zz5, zz6, zz7, zz8] at hc)
    have hlt : i < ls.length := by omega
    have hg : (ls.map fun l => [eTks l]).getD i [] = [eTks (ls.getD i [])] := by
      rw [List.getD_eq_getElem?_getD, List.getElem?_map, List.getD_eq_getElem?_getD, List.getElem?_eq_getElem hlt]
      rfl
    have hft := flat_take hlt
    have hfl := flat_take_le ls (i + 1)
    rw [hft, List.length_append] at hfl
    generalize hnx : (ls.take (i + 1)).flatten = nx at *
    generalize (ls.take i).flatten = ac at *
    repeat' first | refine zzs ?_ | refine zzb ?_ | refine zzk ?_
    first | refine zzr hnt rfl ?_ ?_ | refine zzd hnt rfl ?_ ?_
    · rw [Int.toNat_natCast, hg, hml]
      exact zza
    rw [Int.toNat_natCast, hg]
    generalize ls.getD i [] = l at *
    refine tr_le (s' := St.of [(3, .one (.own 3000 0)), (5, .one (.e (eTks l))), (6, .one (.e (.sl (ls.map fun l => [eTks l])))), (7, .one (.e (eI ((ls.map fun l => [eTks l]).length : Int)))), (8, .one (.e (eI (i : Int))))] [(3000, ⟨0, .row 4 (ac.map eTok), 0⟩)]) (le_of (ad := []) ⟨zzl, zzl, zzl, zzl, zzl, trivial⟩ (memOk_row rfl rfl rfl trivial)) ?_
    have la : (ac.map eTok).length = ac.length := List.length_map ..
    have ll : (l.map eTok).length = l.length := List.length_map ..
    have hq1 : (ac.map eTok).length + (l.map eTok).length ≤ maxLen := by rw [la, ll]; simp only [maxLen]; omega
    have hq2 : ((ac.map eTok).length + (l.map eTok).length) * 40 ≤ 140737488355328 := by rw [la, ll]; omega
    have h4 : ∀ cs ∈ l.map eTok, cs.length = 4 := fun cs hc => by
      obtain ⟨q, _, rfl⟩ := List.mem_map.1 hc
      rfl
    repeat' first | refine zzs ?_ | refine zzb ?_ | refine zzk ?_
    first | refine zzr hnt rfl ?_ ?_ | refine zzd hnt rfl ?_ ?_
    · exact zza
    repeat' first | refine zzs ?_ | refine zzr hnt rfl ?_ ?_ | refine zzd hnt rfl ?_ ?_ | refine zzb ?_ | refine zzk ?_
    · exact zzt
    refine ⟨i + 1, hlt, by omega, le_of (ad := []) ⟨zzl, zzl, zzl, zzl, trivial⟩ (memOk_row rfl rfl (by rw [hnx, hft, List.map_append]) trivial)⟩
  simp only [zz1, zz2, zz3, zz4, zz5, zz6, zz7, zz8] at hc
  (try simp only [hml] at hc)
  (try simp only [zz1, zz2, zz3, zz4, zz5, zz6, zz7, zz8] at hc)
  have hi : i = ls.length := by omega
  subst hi
  rw [List.take_length]
  refine tr_exit ?_
  repeat' first | refine zzs ?_ | refine zzr hnt rfl ?_ ?_ | refine zzd hnt rfl ?_ ?_ | refine zzb ?_ | refine zzk ?_
  · exact zzt
  exact tr_ret ⟨.inr rfl, _, _, rfl, trivial, rfl⟩
set_option maxRecDepth 10000 in
set_option maxHeartbeats 2000000 in
theorem litTokens_fn (v : Val) (hv : v.k = 1 → v.i = 0 ∨ v.i = 1) : FnG Tryd.prog 73 ([(6, spE)]) [.agg (.es (eVal v))] (.one (.e (eTks [ltT v]))) := by
  refine fn_introG (T := tab) tOk Tryd.func73 rfl (by kernel_rfl) (by simp [Tryd.ntmps73]) ?_
  intro X hX
  have hnt : X.nt = 32 := hX
  clear hX
  unfold ltT
  repeat' first | refine zzs ?_ | refine zzr hnt rfl ?_ ?_ | refine zzd hnt rfl ?_ ?_ | refine zzb ?_ | refine zzk ?_
  · exact zzt
  · exact zzt
  · exact zzt
  repeat' first | refine zzs ?_ | refine zzb ?_ | refine zzk ?_
  refine tr_cond rfl (fun hc => ?_) (fun hc => ?_)
  · simp only [zz1, zz2, zz3, zz4, zz5, zz6, zz7, zz8] at hc
    (try simp only [eVal0] at hc)
    (try simp only [zz1, zz2, zz3, zz4, zz5, zz6, zz7, zz8] at hc)
    rw [if_pos hc]
    have h := tokens_i
    repeat' first | refine zzs ?_ | refine zzb ?_ | refine zzk ?_
    refine tr_region (zzx hnt rfl ?_ (callV rfl rfl rfl rfl rfl rfl rfl hnt rfl (h) (zzx hnt rfl ?_ (Lex.nil _)))) ?_
    · exact zzt
    · exact zzt
    exact tr_ret ⟨.inr rfl, _, _, rfl, zzp, rfl⟩
  simp only [zz1, zz2, zz3, zz4, zz5, zz6, zz7, zz8] at hc
  (try simp only [eVal0] at hc)
  (try simp only [zz1, zz2, zz3, zz4, zz5, zz6, zz7, zz8] at hc)
  rw [if_neg hc]
  repeat' first | refine zzs ?_ | refine zzb ?_ | refine zzk ?_
  first | refine zzr hnt rfl ?_ ?_ | refine zzd hnt rfl ?_ ?_
  · exact zzt
  repeat' first | refine zzs ?_ | refine zzb ?_ | refine zzk ?_
  refine tr_cond rfl (fun hc => ?_) (fun hc => ?_)
  · simp only [zz1, zz2, zz3, zz4, zz5, zz6, zz7, zz8] at hc
    (try simp only [eVal0] at hc)
    (try simp only [zz1, zz2, zz3, zz4, zz5, zz6, zz7, zz8] at hc)
    rw [if_pos hc]
    have hk := hv hc
    have e1 : eVal v = [eI v.k, eI v.i, eQ v.b, eT v.t] := rfl
    rw [e1]
    rcases hk with h | h
    · rw [h]
      have h := tokens_j
      repeat' first | refine zzs ?_ | refine zzb ?_ | refine zzk ?_
      refine tr_region (zzx hnt rfl ?_ (callV rfl rfl rfl rfl rfl rfl rfl hnt rfl (h) (zzx hnt rfl ?_ (Lex.nil _)))) ?_
      · dsimp only [AllP]; (repeat' first | exact trivial | apply And.intro  | assumption | exact Nat.le_of_ble_eq_true rfl | exact rfl | intro _ | exact (by decide : (0 : Int) ≤ 0) | exact (by decide : (0 : Int) ≤ 1) | exact (by decide : (0 : Int) < 2) | exact (by decide : (1 : Int) < 2))
      · exact zzt
      exact tr_ret ⟨.inr rfl, _, _, rfl, zzp, rfl⟩
    · rw [h]
      have h := tokens_k
      repeat' first | refine zzs ?_ | refine zzb ?_ | refine zzk ?_
      refine tr_region (zzx hnt rfl ?_ (callV rfl rfl rfl rfl rfl rfl rfl hnt rfl (h) (zzx hnt rfl ?_ (Lex.nil _)))) ?_
      · dsimp only [AllP]; (repeat' first | exact trivial | apply And.intro  | assumption | exact Nat.le_of_ble_eq_true rfl | exact rfl | intro _ | exact (by decide : (0 : Int) ≤ 0) | exact (by decide : (0 : Int) ≤ 1) | exact (by decide : (0 : Int) < 2) | exact (by decide : (1 : Int) < 2))
      · exact zzt
      exact tr_ret ⟨.inr rfl, _, _, rfl, zzp, rfl⟩
  simp only [zz1, zz2, zz3, zz4, zz5, zz6, zz7, zz8] at hc
  (try simp only [eVal0] at hc)
  (try simp only [zz1, zz2, zz3, zz4, zz5, zz6, zz7, zz8] at hc)
  rw [if_neg hc]
  repeat' first | refine zzs ?_ | refine zzb ?_ | refine zzk ?_
  first | refine zzr hnt rfl ?_ ?_ | refine zzd hnt rfl ?_ ?_
  · exact zzt
  repeat' first | refine zzs ?_ | refine zzb ?_ | refine zzk ?_
  refine tr_cond rfl (fun hc => ?_) (fun hc => ?_)
  · simp only [zz1, zz2, zz3, zz4, zz5, zz6, zz7, zz8] at hc
    (try simp only [eVal0] at hc)
    (try simp only [zz1, zz2, zz3, zz4, zz5, zz6, zz7, zz8] at hc)
    rw [if_pos hc]
    repeat' first | refine zzs ?_ | refine zzr hnt rfl ?_ ?_ | refine zzd hnt rfl ?_ ?_ | refine zzb ?_ | refine zzk ?_
    · exact zzt
    exact tr_ret ⟨.inr rfl, _, _, rfl, zzp, rfl⟩
  simp only [zz1, zz2, zz3, zz4, zz5, zz6, zz7, zz8] at hc
  (try simp only [eVal0] at hc)
  (try simp only [zz1, zz2, zz3, zz4, zz5, zz6, zz7, zz8] at hc)
  rw [if_neg hc]
  repeat' first | refine zzs ?_ | refine zzb ?_ | refine zzk ?_
  first | refine zzr hnt rfl ?_ ?_ | refine zzd hnt rfl ?_ ?_
  · exact zzt
  repeat' first | refine zzs ?_ | refine zzb ?_ | refine zzk ?_
  refine tr_cond rfl (fun hc => ?_) (fun hc => ?_)
  · simp only [zz1, zz2, zz3, zz4, zz5, zz6, zz7, zz8] at hc
    (try simp only [eVal0] at hc)
    (try simp only [zz1, zz2, zz3, zz4, zz5, zz6, zz7, zz8] at hc)
    rw [if_pos hc]
    repeat' first | refine zzs ?_ | refine zzr hnt rfl ?_ ?_ | refine zzd hnt rfl ?_ ?_ | refine zzb ?_ | refine zzk ?_
    · exact zzt
    exact tr_ret ⟨.inr rfl, _, _, rfl, zzp, rfl⟩
  simp only [zz1, zz2, zz3, zz4, zz5, zz6, zz7, zz8] at hc
  (try simp only [eVal0] at hc)
  (try simp only [zz1, zz2, zz3, zz4, zz5, zz6, zz7, zz8] at hc)
  rw [if_neg hc]
  repeat' first | refine zzs ?_ | refine zzr hnt rfl ?_ ?_ | refine zzd hnt rfl ?_ ?_ | refine zzb ?_ | refine zzk ?_
  · exact zzt
  exact tr_ret ⟨.inr rfl, _, _, rfl, zzp, rfl⟩
end Go.Proofs.YthnadkafegmacaaDoor
