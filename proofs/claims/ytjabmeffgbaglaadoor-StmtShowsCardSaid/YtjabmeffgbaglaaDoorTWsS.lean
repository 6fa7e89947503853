/- Commands as tokens: the writer's closures. No condition. -/
import Derived.Test.YtjabmeffgbaglaaDoorTWsP
import Derived.Test.YtjabmeffgbaglaaDoorTWsQ
namespace Go.Proofs.YtjabmeffgbaglaaDoor
open Go Go.RowKit Go.Proofs.YtjabmeffgbaglaaDoor.Ab
set_option linter.unusedSimpArgs false
set_option linter.unusedVariables false
set_option maxRecDepth 10000 in
set_option maxHeartbeats 2000000 in
theorem kindWord_fn (k : Int) : FnD Tryd.prog 19 [.one (.e (eI k))] (.one (.e (eT (kwT k)))) := by
 refine fn_intro (T := tab) tOk Tryd.func19 rfl (by kernel_rfl) (by simp [Tryd.ntmps19]) ?_
 intro X hX
 have hnt : X.nt = 10 := hX
 clear hX
 unfold kwT
 repeat' first | refine zzs ?_ | refine zzr hnt rfl ?_ ?_ | refine zzd hnt rfl ?_ ?_ | refine zzb ?_ | refine zzk ?_
 ·exact zzt
 ·exact zzt
 ·exact zzt
 repeat' first | refine zzs ?_ | refine zzb ?_ | refine zzk ?_
 refine tr_cond rfl (fun hc => ?_) (fun hc => ?_)
 ·simp only [zz1, zz2, zz3, zz4, zz5, zz6, zz7, zz8] at hc
  rw [if_pos hc]
  repeat' first | refine zzs ?_ | refine zzr hnt rfl ?_ ?_ | refine zzd hnt rfl ?_ ?_ | refine zzb ?_ | refine zzk ?_
  ·exact zzt
  exact tr_ret ⟨.inr rfl, _, _, rfl, zzp, rfl⟩
 simp only [zz1, zz2, zz3, zz4, zz5, zz6, zz7, zz8] at hc
 rw [if_neg hc]
 clear hc
 repeat' first | refine zzs ?_ | refine zzr hnt rfl ?_ ?_ | refine zzd hnt rfl ?_ ?_ | refine zzb ?_ | refine zzk ?_
 ·exact zzt
 repeat' first | refine zzs ?_ | refine zzb ?_ | refine zzk ?_
 refine tr_cond rfl (fun hc => ?_) (fun hc => ?_)
 ·simp only [zz1, zz2, zz3, zz4, zz5, zz6, zz7, zz8] at hc
  rw [if_pos hc]
  repeat' first | refine zzs ?_ | refine zzr hnt rfl ?_ ?_ | refine zzd hnt rfl ?_ ?_ | refine zzb ?_ | refine zzk ?_
  ·exact zzt
  exact tr_ret ⟨.inr rfl, _, _, rfl, zzp, rfl⟩
 simp only [zz1, zz2, zz3, zz4, zz5, zz6, zz7, zz8] at hc
 rw [if_neg hc]
 clear hc
 repeat' first | refine zzs ?_ | refine zzr hnt rfl ?_ ?_ | refine zzd hnt rfl ?_ ?_ | refine zzb ?_ | refine zzk ?_
 ·exact zzt
 repeat' first | refine zzs ?_ | refine zzb ?_ | refine zzk ?_
 refine tr_cond rfl (fun hc => ?_) (fun hc => ?_)
 ·simp only [zz1, zz2, zz3, zz4, zz5, zz6, zz7, zz8] at hc
  rw [if_pos hc]
  repeat' first | refine zzs ?_ | refine zzr hnt rfl ?_ ?_ | refine zzd hnt rfl ?_ ?_ | refine zzb ?_ | refine zzk ?_
  ·exact zzt
  exact tr_ret ⟨.inr rfl, _, _, rfl, zzp, rfl⟩
 simp only [zz1, zz2, zz3, zz4, zz5, zz6, zz7, zz8] at hc
 rw [if_neg hc]
 repeat' first | refine zzs ?_ | refine zzr hnt rfl ?_ ?_ | refine zzd hnt rfl ?_ ?_ | refine zzb ?_ | refine zzk ?_
 ·exact zzt
 exact tr_ret ⟨.inr rfl, _, _, rfl, zzp, rfl⟩
set_option maxRecDepth 10000 in
set_option maxHeartbeats 2000000 in
theorem aggWord_fn (k : Int) : FnD Tryd.prog 60 [.one (.e (eI k))] (.one (.e (eT (awT k)))) := by
 refine fn_intro (T := tab) tOk Tryd.func60 rfl (by kernel_rfl) (by simp [Tryd.ntmps60]) ?_
 intro X hX
 have hnt : X.nt = 10 := hX
 clear hX
 unfold awT
 repeat' first | refine zzs ?_ | refine zzr hnt rfl ?_ ?_ | refine zzd hnt rfl ?_ ?_ | refine zzb ?_ | refine zzk ?_
 ·exact zzt
 ·exact zzt
 ·exact zzt
 repeat' first | refine zzs ?_ | refine zzb ?_ | refine zzk ?_
 refine tr_cond rfl (fun hc => ?_) (fun hc => ?_)
 ·simp only [zz1, zz2, zz3, zz4, zz5, zz6, zz7, zz8] at hc
  rw [if_pos hc]
  repeat' first | refine zzs ?_ | refine zzr hnt rfl ?_ ?_ | refine zzd hnt rfl ?_ ?_ | refine zzb ?_ | refine zzk ?_
  ·exact zzt
  exact tr_ret ⟨.inr rfl, _, _, rfl, zzp, rfl⟩
 simp only [zz1, zz2, zz3, zz4, zz5, zz6, zz7, zz8] at hc
 rw [if_neg hc]
 clear hc
 repeat' first | refine zzs ?_ | refine zzr hnt rfl ?_ ?_ | refine zzd hnt rfl ?_ ?_ | refine zzb ?_ | refine zzk ?_
 ·exact zzt
 repeat' first | refine zzs ?_ | refine zzb ?_ | refine zzk ?_
 refine tr_cond rfl (fun hc => ?_) (fun hc => ?_)
 ·simp only [zz1, zz2, zz3, zz4, zz5, zz6, zz7, zz8] at hc
  rw [if_pos hc]
  repeat' first | refine zzs ?_ | refine zzr hnt rfl ?_ ?_ | refine zzd hnt rfl ?_ ?_ | refine zzb ?_ | refine zzk ?_
  ·exact zzt
  exact tr_ret ⟨.inr rfl, _, _, rfl, zzp, rfl⟩
 simp only [zz1, zz2, zz3, zz4, zz5, zz6, zz7, zz8] at hc
 rw [if_neg hc]
 clear hc
 repeat' first | refine zzs ?_ | refine zzr hnt rfl ?_ ?_ | refine zzd hnt rfl ?_ ?_ | refine zzb ?_ | refine zzk ?_
 ·exact zzt
 repeat' first | refine zzs ?_ | refine zzb ?_ | refine zzk ?_
 refine tr_cond rfl (fun hc => ?_) (fun hc => ?_)
 ·simp only [zz1, zz2, zz3, zz4, zz5, zz6, zz7, zz8] at hc
  rw [if_pos hc]
  repeat' first | refine zzs ?_ | refine zzr hnt rfl ?_ ?_ | refine zzd hnt rfl ?_ ?_ | refine zzb ?_ | refine zzk ?_
  ·exact zzt
  exact tr_ret ⟨.inr rfl, _, _, rfl, zzp, rfl⟩
 simp only [zz1, zz2, zz3, zz4, zz5, zz6, zz7, zz8] at hc
 rw [if_neg hc]
 repeat' first | refine zzs ?_ | refine zzr hnt rfl ?_ ?_ | refine zzd hnt rfl ?_ ?_ | refine zzb ?_ | refine zzk ?_
 ·exact zzt
 exact tr_ret ⟨.inr rfl, _, _, rfl, zzp, rfl⟩
set_option maxRecDepth 10000 in
set_option maxHeartbeats 2000000 in
theorem rightWord_fn (k : Int) : FnD Tryd.prog 27 [.one (.e (eI k))] (.one (.e (eT (rwT k)))) := by
 refine fn_intro (T := tab) tOk Tryd.func27 rfl (by kernel_rfl) (by simp [Tryd.ntmps27]) ?_
 intro X hX
 have hnt : X.nt = 5 := hX
 clear hX
 unfold rwT
 repeat' first | refine zzs ?_ | refine zzr hnt rfl ?_ ?_ | refine zzd hnt rfl ?_ ?_ | refine zzb ?_ | refine zzk ?_
 ·exact zzt
 ·exact zzt
 repeat' first | refine zzs ?_ | refine zzb ?_ | refine zzk ?_
 refine tr_cond rfl (fun hc => ?_) (fun hc => ?_)
 ·simp only [zz1, zz2, zz3, zz4, zz5, zz6, zz7, zz8] at hc
  rw [if_pos hc]
  repeat' first | refine zzs ?_ | refine zzr hnt rfl ?_ ?_ | refine zzd hnt rfl ?_ ?_ | refine zzb ?_ | refine zzk ?_
  ·exact zzt
  exact tr_ret ⟨.inr rfl, _, _, rfl, zzp, rfl⟩
 simp only [zz1, zz2, zz3, zz4, zz5, zz6, zz7, zz8] at hc
 rw [if_neg hc]
 repeat' first | refine zzs ?_ | refine zzr hnt rfl ?_ ?_ | refine zzd hnt rfl ?_ ?_ | refine zzb ?_ | refine zzk ?_
 ·exact zzt
 exact tr_ret ⟨.inr rfl, _, _, rfl, zzp, rfl⟩
set_option maxRecDepth 10000 in
set_option maxHeartbeats 2000000 in
theorem clo1_fn (c : Cmd) (i : Nat) (ac : List Tok) (hi : i < c.cs.length) (hk : Fld (kwT (c.cs.getD i col0).k) [kwT (c.cs.getD i col0).k]) (hn : Fld [78, 79, 84, 32, 78, 85, 76, 76] [[78, 79, 84], [78, 85, 76, 76]]) (hl : ac.length ≤ 98000) : FnH Tryd.prog 18 (gW) (msX (eCmd c) ac) [.one (.e (eI (i : Int))), .one (.ptr 900002 0 0), .one (.ptr 900003 0 0)] (.tup []) (msX (eCmd c) (ac ++ coT (c.cs.getD i col0))) := by
 refine fn_introH (T := tab) tOk Tryd.func18 rfl (by kernel_rfl) (by simp [Tryd.ntmps18]) rfl rfl ?_
 intro X hX
 have hnt : X.nt = 30 := hX
 clear hX
 have hcg : ((eCmd c).getD (0 + 4) E.dflt).xs.getD i [] = eCol (c.cs.getD i col0) := colsGet c.cs i hi
 have hcl : ((eCmd c).getD (0 + 4) E.dflt).xs.length = c.cs.length := colsLen c.cs
 generalize c.cs.getD i col0 = k at *
 have e1 : eT k.n = .v (.string ((List.drop 0 (((eCmd c).getD (0 + 4) E.dflt).xs.getD ((i : Int)).toNat [])).getD 0 E.dflt).str) := by
  rw [Int.toNat_natCast, hcg]
  rfl
 have e2 : eI k.k = .v (.int .i64 ((List.drop 1 (((eCmd c).getD (0 + 4) E.dflt).xs.getD ((i : Int)).toNat [])).getD 0 E.dflt).int) := by
  rw [Int.toNat_natCast, hcg]
  rfl
 have h1 := wName_fn ac k.n (by omega)
 rw [e1] at h1
 repeat' first | refine zzs ?_ | refine zzb ?_ | refine zzk ?_
 refine tr_draw (T := tab) tOk hnt mixedR (lexD (T := tab) rfl ?_ (callHD [(900000, 900000)] [(900001, 900001)] [(900001, 900001)] rfl rfl rfl rfl (h1) (by repeat' first | exact .nil | refine .lent rfl rfl rfl ?_ | refine .data rfl ?_) rfl rfl rfl rfl rfl zzi zzi (lexD (T := tab) rfl ?_ (.nil _)))) (by first | decide +kernel | kernel_rfl) ?_
 ·rw [Int.toNat_natCast, hcg, hcl]
  exact zza
 ·exact zza
 have h2 := kindWord_fn k.k
 rw [e2] at h2
 have h3 := words_fn (ac ++ [⟨1, k.n, 0, 0⟩]) (kwT k.k) [kwT k.k] (by simp; omega) hk
 repeat' first | refine zzs ?_ | refine zzb ?_ | refine zzk ?_
 refine tr_draw (T := tab) tOk hnt mixedR (lexD (T := tab) rfl ?_ (callD rfl rfl rfl rfl rfl rfl rfl rfl (h2) (lexD (T := tab) rfl ?_ (callHD [(900000, 900000)] [(900001, 900001)] [(900001, 900001)] rfl rfl rfl rfl (h3) (by repeat' first | exact .nil | refine .lent rfl rfl rfl ?_ | refine .data rfl ?_) rfl rfl rfl rfl rfl zzi zzi (lexD (T := tab) rfl ?_ (.nil _)))))) (by first | decide +kernel | kernel_rfl) ?_
 ·rw [Int.toNat_natCast, hcg, hcl]
  exact zza
 ·exact zza
 ·exact zza
 repeat' first | refine zzs ?_ | refine zzb ?_ | refine zzk ?_
 first | refine zzr hnt rfl ?_ ?_ | refine zzd hnt rfl ?_ ?_
 ·rw [Int.toNat_natCast, hcg, hcl]
  exact zza
 rw [Int.toNat_natCast, hcg]
 unfold coT
 repeat' first | refine zzs ?_ | refine zzb ?_ | refine zzk ?_
 refine tr_cond rfl (fun hc => ?_) (fun hc => ?_)
 ·have hu : k.u = false := by
   have hc : (!k.u) = true := hc
   simpa using hc
  rw [hu]
  have h4 := words_fn (ac ++ [⟨1, k.n, 0, 0⟩] ++ [kwT k.k].map wdT) [78, 79, 84, 32, 78, 85, 76, 76] [[78, 79, 84], [78, 85, 76, 76]] (by simp; omega) hn
  repeat' first | refine zzs ?_ | refine zzb ?_ | refine zzk ?_
  refine tr_region (zzx hnt rfl ?_ (callH (us := []) [(900000, 900000)] [(900001, 900001)] [(900001, 900001)] rfl rfl rfl rfl (h4) (by repeat' first | exact .nil | refine .lent rfl rfl rfl ?_ | refine .data rfl ?_) (fun _ => rfl) rfl rfl hnt rfl rfl zzi zzi (zzx hnt rfl ?_ (Lex.nil _)))) ?_
  ·exact zza
  ·exact zza
  exact ⟨.inl rfl, _, _, _, rfl, trivial, rfl, fun X => le_of (ad := []) ⟨trivial, ⟨rfl, rfl, rfl, rfl, rfl⟩, ⟨rfl, rfl, rfl, rfl, rfl⟩, ⟨rfl, rfl, rfl, rfl, rfl⟩, trivial⟩ (memOk_box rfl rfl zzi (memOk_row rfl rfl (by simp [naT]) (memOk_box rfl rfl zzi (memOk_box rfl rfl rfl trivial))))⟩
 have hu : k.u = true := by
  have hc : (!k.u) = false := hc
  simpa using hc
 rw [hu]
 repeat' first | refine zzs ?_ | refine zzb ?_ | refine zzk ?_
 exact ⟨.inl rfl, _, _, _, rfl, trivial, rfl, fun X => le_of (ad := []) ⟨trivial, ⟨rfl, rfl, rfl, rfl, rfl⟩, ⟨rfl, rfl, rfl, rfl, rfl⟩, ⟨rfl, rfl, rfl, rfl, rfl⟩, trivial⟩ (memOk_box rfl rfl zzi (memOk_row rfl rfl (by simp [naT]) (memOk_box rfl rfl zzi (memOk_box rfl rfl rfl trivial))))⟩
end Go.Proofs.YtjabmeffgbaglaaDoor
namespace Go.Proofs.YtjabmeffgbaglaaDoor
open Go Go.RowKit Go.Proofs.YtjabmeffgbaglaaDoor.Ab
set_option linter.unusedSimpArgs false
set_option linter.unusedVariables false
set_option maxRecDepth 10000 in
set_option maxHeartbeats 2000000 in
theorem clo2_fn (c : Cmd) (i : Nat) (ac : List Tok) (hi : i < c.ro.length) (hv : ∀ v ∈ c.ro, v.ok) (hc0 : ∀ v ∈ c.ro, chk v = 0 ∧ -9223372036854775808 < v.i) (hl : ac.length ≤ 98000) : FnH Tryd.prog 21 (gW) (msX (eCmd c) ac) [.one (.e (eI (i : Int))), .one (.ptr 900002 0 0), .one (.ptr 900003 0 0)] (.tup []) (msX (eCmd c) (ac ++ vlT (c.ro.getD i val0))) := by
 refine fn_introH (T := tab) tOk Tryd.func21 rfl (by kernel_rfl) (by simp [Tryd.ntmps21]) rfl rfl ?_
 intro X hX
 have hnt : X.nt = 11 := hX
 clear hX
 have hcg : ((eCmd c).getD (0 + 5) E.dflt).xs.getD i [] = eVal (c.ro.getD i val0) := rowGet c.ro i hi
 have hcl : ((eCmd c).getD (0 + 5) E.dflt).xs.length = c.ro.length := rowLen c.ro
 have hmem : c.ro.getD i val0 ∈ c.ro := by
  rw [List.getD_eq_getElem?_getD, List.getElem?_eq_getElem hi]
  exact List.getElem_mem hi
 have hv := hv _ hmem
 have hc0 := hc0 _ hmem
 generalize c.ro.getD i val0 = v at *
 have h1 := wValue_fn ac v hv hc0.1 hc0.2 hl
 have e1 : eVal v = List.take 4 (List.drop 0 (((eCmd c).getD (0 + 5) E.dflt).xs.getD ((i : Int)).toNat [])) := by
  rw [Int.toNat_natCast, hcg]
  rfl
 rw [e1] at h1
 repeat' first | refine zzs ?_ | refine zzb ?_ | refine zzk ?_
 refine tr_draw (T := tab) tOk hnt mixedR (lexD (T := tab) rfl ?_ (callHD [(900000, 900000)] [(900001, 900001)] [(900001, 900001)] rfl rfl rfl rfl (h1) (by repeat' first | exact .nil | refine .lent rfl rfl rfl ?_ | refine .data rfl ?_) rfl rfl rfl rfl rfl zzi zzi (lexD (T := tab) rfl ?_ (.nil _)))) (by first | decide +kernel | kernel_rfl) ?_
 ·rw [Int.toNat_natCast, hcg, hcl]
  exact zza
 ·exact zza
 exact ⟨.inl rfl, _, _, _, rfl, trivial, rfl, fun X => le_of (ad := []) ⟨trivial, ⟨rfl, rfl, rfl, rfl, rfl⟩, ⟨rfl, rfl, rfl, rfl, rfl⟩, ⟨rfl, rfl, rfl, rfl, rfl⟩, trivial⟩ (memOk_box rfl rfl zzi (memOk_row rfl rfl rfl (memOk_box rfl rfl zzi (memOk_box rfl rfl rfl trivial))))⟩
set_option maxRecDepth 10000 in
set_option maxHeartbeats 2000000 in
theorem clo3_fn (c : Cmd) (i : Nat) (ac : List Tok) (hi : i < c.ss.length) (hx : ∀ s ∈ c.ss, exOk s.x ∧ exF s.x = 0) (hl : ac.length ≤ 98000) : FnH Tryd.prog 23 (gW) (msX (eCmd c) ac) [.one (.e (eI (i : Int))), .one (.ptr 900002 0 0), .one (.ptr 900003 0 0)] (.tup []) (msX (eCmd c) (ac ++ seT (c.ss.getD i set0))) := by
 refine fn_introH (T := tab) tOk Tryd.func23 rfl (by kernel_rfl) (by simp [Tryd.ntmps23]) rfl rfl ?_
 intro X hX
 have hnt : X.nt = 22 := hX
 clear hX
 have hcg : ((eCmd c).getD (0 + 6) E.dflt).xs.getD i [] = eSet (c.ss.getD i set0) := setGet c.ss i hi
 have hcl : ((eCmd c).getD (0 + 6) E.dflt).xs.length = c.ss.length := setLen c.ss
 have hmem : c.ss.getD i set0 ∈ c.ss := by
  rw [List.getD_eq_getElem?_getD, List.getElem?_eq_getElem hi]
  exact List.getElem_mem hi
 have hx := hx _ hmem
 generalize c.ss.getD i set0 = k at *
 have e1 : eT k.c = .v (.string ((List.drop 0 (((eCmd c).getD (0 + 6) E.dflt).xs.getD ((i : Int)).toNat [])).getD 0 E.dflt).str) := by
  rw [Int.toNat_natCast, hcg]
  rfl
 have e2 : eEx k.x = List.take 7 (List.drop 0 (List.drop 1 (((eCmd c).getD (0 + 6) E.dflt).xs.getD ((i : Int)).toNat []))) := by
  rw [Int.toNat_natCast, hcg, eEx_eq]
  rfl
 have h1 := wName_fn ac k.c (by omega)
 rw [e1] at h1
 repeat' first | refine zzs ?_ | refine zzb ?_ | refine zzk ?_
 refine tr_draw (T := tab) tOk hnt mixedR (lexD (T := tab) rfl ?_ (callHD [(900000, 900000)] [(900001, 900001)] [(900001, 900001)] rfl rfl rfl rfl (h1) (by repeat' first | exact .nil | refine .lent rfl rfl rfl ?_ | refine .data rfl ?_) rfl rfl rfl rfl rfl zzi zzi (lexD (T := tab) rfl ?_ (.nil _)))) (by first | decide +kernel | kernel_rfl) ?_
 ·rw [Int.toNat_natCast, hcg, hcl]
  exact zza
 ·exact zza
 have h2 := wSign_fn (ac ++ [⟨1, k.c, 0, 0⟩]) [61] (by simp; omega)
 repeat' first | refine zzs ?_ | refine zzb ?_ | refine zzk ?_
 refine tr_region (zzx hnt rfl ?_ (callH (us := []) [(900000, 900000)] [(900001, 900001)] [(900001, 900001)] rfl rfl rfl rfl (h2) (by repeat' first | exact .nil | refine .lent rfl rfl rfl ?_ | refine .data rfl ?_) (fun _ => rfl) rfl rfl hnt rfl rfl zzi zzi (zzx hnt rfl ?_ (Lex.nil _)))) ?_
 ·exact zza
 ·exact zza
 have h3 := wExpr_fn (ac ++ [⟨1, k.c, 0, 0⟩] ++ [sgT [61]]) k.x hx.1 hx.2 (by simp; omega)
 rw [e2] at h3
 repeat' first | refine zzs ?_ | refine zzb ?_ | refine zzk ?_
 refine tr_draw (T := tab) tOk hnt mixedR (lexD (T := tab) rfl ?_ (callHD [(900000, 900000)] [(900001, 900001)] [(900001, 900001)] rfl rfl rfl rfl (h3) (by repeat' first | exact .nil | refine .lent rfl rfl rfl ?_ | refine .data rfl ?_) rfl rfl rfl rfl rfl zzi zzi (lexD (T := tab) rfl ?_ (.nil _)))) (by first | decide +kernel | kernel_rfl) ?_
 ·rw [Int.toNat_natCast, hcg, hcl]
  exact zza
 ·exact zza
 exact ⟨.inl rfl, _, _, _, rfl, trivial, rfl, fun X => le_of (ad := []) ⟨trivial, ⟨rfl, rfl, rfl, rfl, rfl⟩, ⟨rfl, rfl, rfl, rfl, rfl⟩, ⟨rfl, rfl, rfl, rfl, rfl⟩, trivial⟩ (memOk_box rfl rfl zzi (memOk_row rfl rfl (by unfold seT; simp [naT]) (memOk_box rfl rfl zzi (memOk_box rfl rfl rfl trivial))))⟩
set_option maxRecDepth 10000 in
set_option maxHeartbeats 2000000 in
theorem clo5_fn (q : Qry) (i : Nat) (ac : List Tok) (hi : i < q.ss.length) (hd : Fld [68, 69, 83, 67] [[68, 69, 83, 67]]) (hl : ac.length ≤ 98000) : FnH Tryd.prog 61 (gW) (msX (eQry q) ac) [.one (.e (eI (i : Int))), .one (.ptr 900002 0 0), .one (.ptr 900003 0 0)] (.tup []) (msX (eQry q) (ac ++ soT (q.ss.getD i ⟨0, false⟩))) := by
 refine fn_introH (T := tab) tOk Tryd.func61 rfl (by kernel_rfl) (by simp [Tryd.ntmps61]) rfl rfl ?_
 intro X hX
 have hnt : X.nt = 20 := hX
 clear hX
 have hcg : ((eQry q).getD (0 + 9) E.dflt).xs.getD i [] = eSrt (q.ss.getD i ⟨0, false⟩) := by
  show (q.ss.map eSrt).getD i [] = _
  rw [List.getD_eq_getElem?_getD, List.getElem?_map, List.getElem?_eq_getElem hi, List.getD_eq_getElem?_getD, List.getElem?_eq_getElem hi]
  rfl
 have hcl : ((eQry q).getD (0 + 9) E.dflt).xs.length = q.ss.length := List.length_map ..
 generalize q.ss.getD i ⟨0, false⟩ = k at *
 have e1 : eI k.i = .v (.int .i64 ((List.drop 0 (((eQry q).getD (0 + 9) E.dflt).xs.getD ((i : Int)).toNat [])).getD 0 E.dflt).int) := by
  rw [Int.toNat_natCast, hcg]
  rfl
 have h1 := wNumber_fn ac k.i (by omega)
 rw [e1] at h1
 repeat' first | refine zzs ?_ | refine zzb ?_ | refine zzk ?_
 refine tr_draw (T := tab) tOk hnt mixedR (lexD (T := tab) rfl ?_ (callHD [(900000, 900000)] [(900001, 900001)] [(900001, 900001)] rfl rfl rfl rfl (h1) (by repeat' first | exact .nil | refine .lent rfl rfl rfl ?_ | refine .data rfl ?_) rfl rfl rfl rfl rfl zzi zzi (lexD (T := tab) rfl ?_ (.nil _)))) (by first | decide +kernel | kernel_rfl) ?_
 ·rw [Int.toNat_natCast, hcg, hcl]
  exact zza
 ·exact zza
 repeat' first | refine zzs ?_ | refine zzb ?_ | refine zzk ?_
 first | refine zzr hnt rfl ?_ ?_ | refine zzd hnt rfl ?_ ?_
 ·rw [Int.toNat_natCast, hcg, hcl]
  exact zza
 rw [Int.toNat_natCast, hcg]
 unfold soT
 repeat' first | refine zzs ?_ | refine zzb ?_ | refine zzk ?_
 refine tr_cond rfl (fun hc => ?_) (fun hc => ?_)
 ·have hu : k.d = true := hc
  rw [hu]
  have h4 := words_fn (ac ++ [⟨3, [], k.i, 0⟩]) [68, 69, 83, 67] [[68, 69, 83, 67]] (by simp; omega) hd
  repeat' first | refine zzs ?_ | refine zzb ?_ | refine zzk ?_
  refine tr_region (zzx hnt rfl ?_ (callH (us := []) [(900000, 900000)] [(900001, 900001)] [(900001, 900001)] rfl rfl rfl rfl (h4) (by repeat' first | exact .nil | refine .lent rfl rfl rfl ?_ | refine .data rfl ?_) (fun _ => rfl) rfl rfl hnt rfl rfl zzi zzi (zzx hnt rfl ?_ (Lex.nil _)))) ?_
  ·exact zza
  ·exact zza
  exact ⟨.inl rfl, _, _, _, rfl, trivial, rfl, fun X => le_of (ad := []) ⟨trivial, ⟨rfl, rfl, rfl, rfl, rfl⟩, ⟨rfl, rfl, rfl, rfl, rfl⟩, ⟨rfl, rfl, rfl, rfl, rfl⟩, trivial⟩ (memOk_box rfl rfl zzi (memOk_row rfl rfl (by simp [nuT]) (memOk_box rfl rfl zzi (memOk_box rfl rfl rfl trivial))))⟩
 have hu : k.d = false := hc
 rw [hu]
 repeat' first | refine zzs ?_ | refine zzb ?_ | refine zzk ?_
 exact ⟨.inl rfl, _, _, _, rfl, trivial, rfl, fun X => le_of (ad := []) ⟨trivial, ⟨rfl, rfl, rfl, rfl, rfl⟩, ⟨rfl, rfl, rfl, rfl, rfl⟩, ⟨rfl, rfl, rfl, rfl, rfl⟩, trivial⟩ (memOk_box rfl rfl zzi (memOk_row rfl rfl (by simp [nuT]) (memOk_box rfl rfl zzi (memOk_box rfl rfl rfl trivial))))⟩
set_option maxRecDepth 10000 in
set_option maxHeartbeats 2000000 in
theorem clo4_fn (q : Qry) (i : Nat) (ac : List Tok) (hi : i < q.is.length) (hx : ∀ t ∈ q.is, exOk t.x ∧ (t.a ≠ 1 → exF t.x = 0)) (ha : Fld (awT (q.is.getD i itm0).a) [awT (q.is.getD i itm0).a]) (hl : ac.length ≤ 98000) : FnH Tryd.prog 59 (gW) (msX (eQry q) ac) [.one (.e (eI (i : Int))), .one (.ptr 900003 0 0), .one (.ptr 900002 0 0)] (.tup []) (msX (eQry q) (ac ++ itT (q.is.getD i itm0))) := by
 refine fn_introH (T := tab) tOk Tryd.func59 rfl (by kernel_rfl) (by simp [Tryd.ntmps59]) rfl rfl ?_
 intro X hX
 have hnt : X.nt = 35 := hX
 clear hX
 have hcg : ((eQry q).getD (0 + 0) E.dflt).xs.getD i [] = eItm (q.is.getD i itm0) := by
  show (q.is.map eItm).getD i [] = _
  rw [List.getD_eq_getElem?_getD, List.getElem?_map, List.getElem?_eq_getElem hi, List.getD_eq_getElem?_getD, List.getElem?_eq_getElem hi]
  rfl
 have hcl : ((eQry q).getD (0 + 0) E.dflt).xs.length = q.is.length := List.length_map ..
 have hmem : q.is.getD i itm0 ∈ q.is := by
  rw [List.getD_eq_getElem?_getD, List.getElem?_eq_getElem hi]
  exact List.getElem_mem hi
 have hx := hx _ hmem
 generalize q.is.getD i itm0 = k at *
 repeat' first | refine zzs ?_ | refine zzb ?_ | refine zzk ?_
 first | refine zzr hnt rfl ?_ ?_ | refine zzd hnt rfl ?_ ?_
 ·rw [Int.toNat_natCast, hcg, hcl]
  exact zza
 rw [Int.toNat_natCast, hcg]
 unfold itT
 have hX := itX k
 repeat' first | refine zzs ?_ | refine zzb ?_ | refine zzk ?_
 first | refine zzr hnt rfl ?_ ?_ | refine zzd hnt rfl ?_ ?_
 ·exact zza
 repeat' first | refine zzs ?_ | refine zzb ?_ | refine zzk ?_
 refine tr_cond rfl (fun hc => ?_) (fun hc => ?_)
 ·have hc : k.a = 0 := of_decide_eq_true hc
  rw [if_pos hc]
  have h1 := wExpr_fn ac k.x hx.1 (hx.2 (by omega)) (by omega)
  rw [← hX] at h1
  repeat' first | refine zzs ?_ | refine zzb ?_ | refine zzk ?_
  refine tr_region (zzx hnt rfl ?_ (callH (us := []) [(900000, 900000)] [(900001, 900001)] [(900001, 900001)] rfl rfl rfl rfl (h1) (by repeat' first | exact .nil | refine .lent rfl rfl rfl ?_ | refine .data rfl ?_) (fun _ => rfl) rfl rfl hnt rfl rfl zzi zzi (zzx hnt rfl ?_ (Lex.nil _)))) ?_
  ·exact zza
  ·exact zza
  refine tr_ret ?_
  exact ⟨.inr rfl, _, _, _, rfl, trivial, rfl, fun X => le_of (ad := []) ⟨trivial, ⟨rfl, rfl, rfl, rfl, rfl⟩, ⟨rfl, rfl, rfl, rfl, rfl⟩, ⟨rfl, rfl, rfl, rfl, rfl⟩, trivial⟩ (memOk_box rfl rfl zzi (memOk_row rfl rfl rfl (memOk_box rfl rfl zzi (memOk_box rfl rfl rfl trivial))))⟩
 have hc0 : ¬ k.a = 0 := of_decide_eq_false hc
 rw [if_neg hc0]
 have h1 := aggWord_fn k.a
 have h2 := words_fn ac (awT k.a) [awT k.a] (by simp; omega) ha
 repeat' first | refine zzs ?_ | refine zzb ?_ | refine zzk ?_
 refine tr_draw (T := tab) tOk hnt mixedR (lexD (T := tab) rfl ?_ (callD rfl rfl rfl rfl rfl rfl rfl rfl (h1) (lexD (T := tab) rfl ?_ (callHD [(900000, 900000)] [(900001, 900001)] [(900001, 900001)] rfl rfl rfl rfl (h2) (by repeat' first | exact .nil | refine .lent rfl rfl rfl ?_ | refine .data rfl ?_) rfl rfl rfl rfl rfl zzi zzi (lexD (T := tab) rfl ?_ (.nil _)))))) (by first | decide +kernel | kernel_rfl) ?_
 ·exact zza
 ·exact zza
 ·exact zza
 have h3 := wSign_fn (ac ++ [awT k.a].map wdT) [40] (by simp; omega)
 repeat' first | refine zzs ?_ | refine zzb ?_ | refine zzk ?_
 refine tr_region (zzx hnt rfl ?_ (callH (us := []) [(900000, 900000)] [(900001, 900001)] [(900001, 900001)] rfl rfl rfl rfl (h3) (by repeat' first | exact .nil | refine .lent rfl rfl rfl ?_ | refine .data rfl ?_) (fun _ => rfl) rfl rfl hnt rfl rfl zzi zzi (zzx hnt rfl ?_ (Lex.nil _)))) ?_
 ·exact zza
 ·exact zza
 repeat' first | refine zzs ?_ | refine zzb ?_ | refine zzk ?_
 first | refine zzr hnt rfl ?_ ?_ | refine zzd hnt rfl ?_ ?_
 ·exact zza
 repeat' first | refine zzs ?_ | refine zzb ?_ | refine zzk ?_
 refine tr_cond rfl (fun hc => ?_) (fun hc => ?_)
 ·have hc : k.a = 1 := of_decide_eq_true hc
  rw [if_pos hc]
  have h4 := wSign_fn (ac ++ [awT k.a].map wdT ++ [sgT [40]]) [42] (by simp; omega)
  repeat' first | refine zzs ?_ | refine zzb ?_ | refine zzk ?_
  refine tr_region (zzx hnt rfl ?_ (callH (us := []) [(900000, 900000)] [(900001, 900001)] [(900001, 900001)] rfl rfl rfl rfl (h4) (by repeat' first | exact .nil | refine .lent rfl rfl rfl ?_ | refine .data rfl ?_) (fun _ => rfl) rfl rfl hnt rfl rfl zzi zzi (zzx hnt rfl ?_ (Lex.nil _)))) ?_
  ·exact zza
  ·exact zza
  have h5 := wSign_fn (ac ++ [awT k.a].map wdT ++ [sgT [40]] ++ [sgT [42]]) [41] (by simp; omega)
  repeat' first | refine zzs ?_ | refine zzb ?_ | refine zzk ?_
  refine tr_region (zzx hnt rfl ?_ (callH (us := []) [(900000, 900000)] [(900001, 900001)] [(900001, 900001)] rfl rfl rfl rfl (h5) (by repeat' first | exact .nil | refine .lent rfl rfl rfl ?_ | refine .data rfl ?_) (fun _ => rfl) rfl rfl hnt rfl rfl zzi zzi (zzx hnt rfl ?_ (Lex.nil _)))) ?_
  ·exact zza
  ·exact zza
  exact ⟨.inl rfl, _, _, _, rfl, trivial, rfl, fun X => le_of (ad := []) ⟨trivial, ⟨rfl, rfl, rfl, rfl, rfl⟩, ⟨rfl, rfl, rfl, rfl, rfl⟩, ⟨rfl, rfl, rfl, rfl, rfl⟩, trivial⟩ (memOk_box rfl rfl zzi (memOk_row rfl rfl (by simp) (memOk_box rfl rfl zzi (memOk_box rfl rfl rfl trivial))))⟩
 have hc1 : ¬ k.a = 1 := of_decide_eq_false hc
 rw [if_neg hc1]
 have hx0 := hx.2 hc1
 have hlx := len200 hx0
 have h4 := wExpr_fn (ac ++ [awT k.a].map wdT ++ [sgT [40]]) k.x hx.1 hx0 (by simp; omega)
 rw [← hX] at h4
 repeat' first | refine zzs ?_ | refine zzb ?_ | refine zzk ?_
 refine tr_region (zzx hnt rfl ?_ (callH (us := []) [(900000, 900000)] [(900001, 900001)] [(900001, 900001)] rfl rfl rfl rfl (h4) (by repeat' first | exact .nil | refine .lent rfl rfl rfl ?_ | refine .data rfl ?_) (fun _ => rfl) rfl rfl hnt rfl rfl zzi zzi (zzx hnt rfl ?_ (Lex.nil _)))) ?_
 ·exact zza
 ·exact zza
 have h5 := wSign_fn (ac ++ [awT k.a].map wdT ++ [sgT [40]] ++ shX k.x) [41] (by simp; omega)
 repeat' first | refine zzs ?_ | refine zzb ?_ | refine zzk ?_
 refine tr_region (zzx hnt rfl ?_ (callH (us := []) [(900000, 900000)] [(900001, 900001)] [(900001, 900001)] rfl rfl rfl rfl (h5) (by repeat' first | exact .nil | refine .lent rfl rfl rfl ?_ | refine .data rfl ?_) (fun _ => rfl) rfl rfl hnt rfl rfl zzi zzi (zzx hnt rfl ?_ (Lex.nil _)))) ?_
 ·exact zza
 ·exact zza
 exact ⟨.inl rfl, _, _, _, rfl, trivial, rfl, fun X => le_of (ad := []) ⟨trivial, ⟨rfl, rfl, rfl, rfl, rfl⟩, ⟨rfl, rfl, rfl, rfl, rfl⟩, ⟨rfl, rfl, rfl, rfl, rfl⟩, trivial⟩ (memOk_box rfl rfl zzi (memOk_row rfl rfl (by simp) (memOk_box rfl rfl zzi (memOk_box rfl rfl rfl trivial))))⟩
end Go.Proofs.YtjabmeffgbaglaaDoor
namespace Go.Proofs.YtjabmeffgbaglaaDoor
open Go Go.RowKit Go.Proofs.YtjabmeffgbaglaaDoor.Ab
set_option linter.unusedSimpArgs false
set_option linter.unusedVariables false
theorem map_getD {α : Type} (l : List α) (f : α → List Tok) (d : α) {i : Nat} (h : i < l.length) : (l.map f).getD i [] = f (l.getD i d) := by
 rw [List.getD_eq_getElem?_getD, List.getElem?_map, List.getElem?_eq_getElem h, List.getD_eq_getElem?_getD, List.getElem?_eq_getElem h]
 rfl
theorem fld_aw (k : Int) : Fld (awT k) [awT k] := by
 unfold awT
 split
 ·exact fields_COUNT
 split
 ·exact fields_SUM
 split
 ·exact fields_MIN
 ·exact fields_MAX
theorem fld_kw (k : Int) : Fld (kwT k) [kwT k] := by
 unfold kwT
 split
 ·exact fields_BOOL
 split
 ·exact fields_INT
 split
 ·exact fields_REAL
 ·exact fields_TEXT
theorem itT_len {t : Itm} (h : t.a ≠ 1 → exF t.x = 0) : (itT t).length ≤ 205 := by
 unfold itT
 split
 ·have := len200 (h (by omega))
  omega
 split
 ·simp
 ·rename_i h1
  have := len200 (h h1)
  simp
  omega
theorem soT_len (s : QSo) : (soT s).length ≤ 3 := by
 unfold soT
 split <;> simp
theorem qw7 (q : Qry) : List.take 7 (List.drop (0 + 1) (eQry q)) = eEx q.w := by rw [eEx_eq]; rfl
structure qOk (q : Qry) : Prop where
 w : exOk q.w ∧ cdP q.w
 i : ∀ t ∈ q.is, exOk t.x ∧ (t.a ≠ 1 → exF t.x = 0)
 li : q.is.length ≤ 20
 ls : q.ss.length ≤ 20
set_option maxRecDepth 10000 in
set_option maxHeartbeats 2000000 in
theorem query_fn (ac : List Tok) (c : Cmd) (hq : qOk c.q) (hl : ac.length ≤ 1000) : FnH Tryd.prog 26 (gW) (msP ac) [.one (.ptr 900000 0 0), .agg (.es (eCmd c))] (.tup []) (msP (ac ++ quT c)) := by
 refine fn_introH (T := tab) tOk Tryd.func26 rfl (by kernel_rfl) (by simp [Tryd.ntmps26]) rfl rfl ?_
 intro X hX
 have hnt : X.nt = 53 := hX
 clear hX
 have f29 : 0 + 29 ≤ (Cs.es (eCmd c)).len := Nat.le_refl 29
 repeat' first | refine zzs ?_ | refine zzb ?_ | refine zzk ?_
 first | refine zzr hnt rfl ?_ ?_ | refine zzd hnt rfl ?_ ?_
 ·exact zza
 repeat' first | refine zzs ?_ | refine zzb ?_ | refine zzk ?_
 first | refine zzr hnt rfl ?_ ?_ | refine zzd hnt rfl ?_ ?_
 ·exact zza
 have h1 := words_fn ac [83, 69, 76, 69, 67, 84] [[83, 69, 76, 69, 67, 84]] (by simp; omega) fields_SELECT
 repeat' first | refine zzs ?_ | refine zzb ?_ | refine zzk ?_
 refine tr_region (zzx hnt rfl ?_ (callH (us := []) [(900000, 900000)] [(900001, 900001)] [(900001, 900001)] rfl rfl rfl rfl (h1) (by repeat' first | exact .nil | refine .lent rfl rfl rfl ?_ | refine .data rfl ?_) (fun _ => rfl) rfl rfl hnt rfl rfl zzi zzi (zzx hnt rfl ?_ (Lex.nil _)))) ?_
 ·exact zza
 ·exact zza
 refine tr_le (s' := St.of [(2, .one (.ptr 2 0 0)), (3, .one (.ptr 3 0 0)), (4, .one (.ptr 4 0 0)), (900000, .one (.ptr 900000 0 0)), ((1000000 + 4), .one (.eptr fsE)), ((1000000 + 5), .one (.eptr acE)), ((1000000 + 3), .one (.eptr spE))] [(900000, ⟨0, .box (.ds [.own 900001 0]), 0⟩), (900001, ⟨0, .row 4 (((ac ++ [wdT [83, 69, 76, 69, 67, 84]])).map eTok), 0⟩), (2, ⟨0, .box (.ds [.ptr 900000 0 0]), 0⟩), (3, ⟨0, .box (.es (eCmd c)), 0⟩), (4, ⟨0, .box (.es (eQry c.q)), 0⟩)]) (le_of (ad := []) ⟨zzl, zzl, zzl, zzl, zzl, zzl, zzl, trivial⟩ (memOk_box rfl rfl zzi (memOk_row rfl rfl rfl (memOk_box rfl rfl zzi (memOk_box rfl rfl rfl (memOk_box rfl rfl rfl trivial)))))) ?_
 have l1 : (ac ++ [wdT [83, 69, 76, 69, 67, 84]]).length ≤ 1001 := (by simp; omega)
 generalize hA1 : ac ++ [wdT [83, 69, 76, 69, 67, 84]] = A1 at *
 have hti : (c.q.is.map itT).length = c.q.is.length := List.length_map ..
 have h2 := list_q4 59 (c.q.is.map itT) c.q A1 2000 (fun x hx => by
  obtain ⟨t, ht, rfl⟩ := List.mem_map.1 hx
  exact Nat.le_trans (itT_len (hq.i t ht).2) (by decide)) (by have := hq.li; omega) (fun i bc hi hb => by
  rw [hti] at hi
  rw [map_getD c.q.is itT itm0 hi]
  exact clo4_fn c.q i bc hi hq.i (fld_aw _) (by omega))
 have e2 : eI ((c.q.is.map itT).length : Int) = .v (.int .i64 (((eQry c.q).getD (0 + 0) E.dflt).xs.length : Int)) := by
  rw [hti]
  show _ = E.v (.int .i64 ((c.q.is.map eItm).length : Int))
  rw [List.length_map]
  rfl
 rw [e2] at h2
 repeat' first | refine zzs ?_ | refine zzb ?_ | refine zzk ?_
 refine tr_region (zzx hnt rfl ?_ (callH (us := []) [(900000, 900000), (900002, 2), (900003, 4)] [(900001, 900001)] [(900001, 900001)] rfl rfl rfl rfl (h2) (by repeat' first | exact .nil | refine .lent rfl rfl rfl ?_ | refine .data rfl ?_) (fun _ => rfl) rfl rfl hnt rfl rfl zzi zzi (zzx hnt rfl ?_ (Lex.nil _)))) ?_
 ·exact zza
 ·exact zza
 refine tr_le (s' := St.of [(2, .one (.ptr 2 0 0)), (3, .one (.ptr 3 0 0)), (4, .one (.ptr 4 0 0)), (900000, .one (.ptr 900000 0 0)), ((1000000 + 4), .one (.eptr fsE)), ((1000000 + 5), .one (.eptr acE)), ((1000000 + 3), .one (.eptr spE))] [(900000, ⟨0, .box (.ds [.own 900001 0]), 0⟩), (900001, ⟨0, .row 4 (((A1 ++ lsT (c.q.is.map itT))).map eTok), 0⟩), (2, ⟨0, .box (.ds [.ptr 900000 0 0]), 0⟩), (3, ⟨0, .box (.es (eCmd c)), 0⟩), (4, ⟨0, .box (.es (eQry c.q)), 0⟩)]) (le_of (ad := []) ⟨zzl, zzl, zzl, zzl, zzl, zzl, zzl, trivial⟩ (memOk_box rfl rfl zzi (memOk_row rfl rfl rfl (memOk_box rfl rfl zzi (memOk_box rfl rfl rfl (memOk_box rfl rfl rfl trivial)))))) ?_
 have l2 : (A1 ++ lsT (c.q.is.map itT)).length ≤ 5200 := by
  have hb := lsT_len 205 (c.q.is.map itT) (fun x hx => by
   obtain ⟨t, ht, rfl⟩ := List.mem_map.1 hx
   exact itT_len (hq.i t ht).2)
  have := hq.li
  rw [hti] at hb
  rw [List.length_append]
  omega
 generalize hA2 : A1 ++ lsT (c.q.is.map itT) = A2 at *
 have h3 := words_fn A2 [70, 82, 79, 77] [[70, 82, 79, 77]] (by simp; omega) fields_FROM
 repeat' first | refine zzs ?_ | refine zzb ?_ | refine zzk ?_
 refine tr_region (zzx hnt rfl ?_ (callH (us := []) [(900000, 900000)] [(900001, 900001)] [(900001, 900001)] rfl rfl rfl rfl (h3) (by repeat' first | exact .nil | refine .lent rfl rfl rfl ?_ | refine .data rfl ?_) (fun _ => rfl) rfl rfl hnt rfl rfl zzi zzi (zzx hnt rfl ?_ (Lex.nil _)))) ?_
 ·exact zza
 ·exact zza
 have h4 := wOf_fn (A2 ++ [[70, 82, 79, 77]].map wdT) c false fields_DRAWER (by simp; omega)
 repeat' first | refine zzs ?_ | refine zzb ?_ | refine zzk ?_
 refine tr_region (zzx hnt rfl ?_ (callH (us := []) [(900000, 900000)] [(900001, 900001)] [(900001, 900001)] rfl rfl rfl rfl (h4) (by repeat' first | exact .nil | refine .lent rfl rfl rfl ?_ | refine .data rfl ?_) (fun _ => rfl) rfl rfl hnt rfl rfl zzi zzi (zzx hnt rfl ?_ (Lex.nil _)))) ?_
 ·exact zza
 ·exact zza
 have h5 := wWhere_fn (A2 ++ [[70, 82, 79, 77]].map wdT ++ ofT c false) c.q.w hq.w.1 hq.w.2 fields_WHERE (by unfold ofT tbT; simp; omega)
 rw [← qw7] at h5
 repeat' first | refine zzs ?_ | refine zzb ?_ | refine zzk ?_
 refine tr_region (zzx hnt rfl ?_ (callH (us := []) [(900000, 900000)] [(900001, 900001)] [(900001, 900001)] rfl rfl rfl rfl (h5) (by repeat' first | exact .nil | refine .lent rfl rfl rfl ?_ | refine .data rfl ?_) (fun _ => rfl) rfl rfl hnt rfl rfl zzi zzi (zzx hnt rfl ?_ (Lex.nil _)))) ?_
 ·exact zza
 ·exact zza
 refine tr_le (s' := St.of [(2, .one (.ptr 2 0 0)), (3, .one (.ptr 3 0 0)), (4, .one (.ptr 4 0 0)), (900000, .one (.ptr 900000 0 0)), ((1000000 + 4), .one (.eptr fsE)), ((1000000 + 5), .one (.eptr acE)), ((1000000 + 3), .one (.eptr spE))] [(900000, ⟨0, .box (.ds [.own 900001 0]), 0⟩), (900001, ⟨0, .row 4 (((A2 ++ [wdT [70, 82, 79, 77]] ++ ofT c false ++ whT c.q.w)).map eTok), 0⟩), (2, ⟨0, .box (.ds [.ptr 900000 0 0]), 0⟩), (3, ⟨0, .box (.es (eCmd c)), 0⟩), (4, ⟨0, .box (.es (eQry c.q)), 0⟩)]) (le_of (ad := []) ⟨zzl, zzl, zzl, zzl, zzl, zzl, zzl, trivial⟩ (memOk_box rfl rfl zzi (memOk_row rfl rfl rfl (memOk_box rfl rfl zzi (memOk_box rfl rfl rfl (memOk_box rfl rfl rfl trivial)))))) ?_
 have l3 : (A2 ++ [wdT [70, 82, 79, 77]] ++ ofT c false ++ whT c.q.w).length ≤ 6000 := by
  have : (whT c.q.w).length ≤ 201 := by
   unfold whT
   split
   ·exact Nat.zero_le _
   ·rename_i hn
    have := len200 (hq.w.2.resolve_left hn)
    simp
    omega
  unfold ofT tbT
  simp
  omega
 generalize hA3 : A2 ++ [wdT [70, 82, 79, 77]] ++ ofT c false ++ whT c.q.w = A3 at *
 repeat' first | refine zzs ?_ | refine zzb ?_ | refine zzk ?_
 first | refine zzr hnt rfl ?_ ?_ | refine zzd hnt rfl ?_ ?_
 ·exact zza
 first | refine tr_join (σ := List Tok) (fun A => St.of [(2, .one (.ptr 2 0 0)), (3, .one (.ptr 3 0 0)), (4, .one (.ptr 4 0 0)), (900000, .one (.ptr 900000 0 0)), ((1000000 + 4), .one (.eptr fsE)), ((1000000 + 5), .one (.eptr acE)), ((1000000 + 3), .one (.eptr spE))] [(900000, ⟨0, .box (.ds [.own 900001 0]), 0⟩), (900001, ⟨0, .row 4 (A.map eTok), 0⟩), (2, ⟨0, .box (.ds [.ptr 900000 0 0]), 0⟩), (3, ⟨0, .box (.es (eCmd c)), 0⟩), (4, ⟨0, .box (.es (eQry c.q)), 0⟩)]) (fun A => A = A3 ++ if c.q.g = [] then [] else [wdT [71, 82, 79, 85, 80], wdT [66, 89], naT c.q.g]) ?_ ?_ | refine tr_seq (tr_join (σ := List Tok) (fun A => St.of [(2, .one (.ptr 2 0 0)), (3, .one (.ptr 3 0 0)), (4, .one (.ptr 4 0 0)), (900000, .one (.ptr 900000 0 0)), ((1000000 + 4), .one (.eptr fsE)), ((1000000 + 5), .one (.eptr acE)), ((1000000 + 3), .one (.eptr spE))] [(900000, ⟨0, .box (.ds [.own 900001 0]), 0⟩), (900001, ⟨0, .row 4 (A.map eTok), 0⟩), (2, ⟨0, .box (.ds [.ptr 900000 0 0]), 0⟩), (3, ⟨0, .box (.es (eCmd c)), 0⟩), (4, ⟨0, .box (.es (eQry c.q)), 0⟩)]) (fun A => A = A3 ++ if c.q.g = [] then [] else [wdT [71, 82, 79, 85, 80], wdT [66, 89], naT c.q.g]) ?_ ?_)
 ·repeat' first | refine zzs ?_ | refine zzb ?_ | refine zzk ?_
  refine tr_cond rfl (fun hc => ?_) (fun hc => ?_)
  ·have hg0 : ¬ c.q.g = [] := by
    have hc : (!strEq (strB c.q.g) (strB [])) = true := hc
    rw [strEq_B] at hc
    simpa using hc
   have h6 := words_fn A3 [71, 82, 79, 85, 80, 32, 66, 89] [[71, 82, 79, 85, 80], [66, 89]] (by simp; omega) fields_GROUP_BY
   repeat' first | refine zzs ?_ | refine zzb ?_ | refine zzk ?_
   refine tr_region (zzx hnt rfl ?_ (callH (us := []) [(900000, 900000)] [(900001, 900001)] [(900001, 900001)] rfl rfl rfl rfl (h6) (by repeat' first | exact .nil | refine .lent rfl rfl rfl ?_ | refine .data rfl ?_) (fun _ => rfl) rfl rfl hnt rfl rfl zzi zzi (zzx hnt rfl ?_ (Lex.nil _)))) ?_
   ·exact zza
   ·exact zza
   have h7 := wName_fn (A3 ++ [[71, 82, 79, 85, 80], [66, 89]].map wdT) c.q.g (by simp; omega)
   repeat' first | refine zzs ?_ | refine zzb ?_ | refine zzk ?_
   refine tr_region (zzx hnt rfl ?_ (callH (us := []) [(900000, 900000)] [(900001, 900001)] [(900001, 900001)] rfl rfl rfl rfl (h7) (by repeat' first | exact .nil | refine .lent rfl rfl rfl ?_ | refine .data rfl ?_) (fun _ => rfl) rfl rfl hnt rfl rfl zzi zzi (zzx hnt rfl ?_ (Lex.nil _)))) ?_
   ·exact zza
   ·exact zza
   repeat' first | refine zzs ?_ | refine zzb ?_ | refine zzk ?_
   refine ⟨(A3 ++ [[71, 82, 79, 85, 80], [66, 89]].map wdT ++ [⟨1, c.q.g, 0, 0⟩]), (by rw [if_neg hg0, List.append_assoc]; rfl), le_of (ad := []) ⟨zzl, zzl, zzl, zzl, zzl, zzl, zzl, trivial⟩ (memOk_box rfl rfl zzi (memOk_row rfl rfl rfl (memOk_box rfl rfl zzi (memOk_box rfl rfl rfl (memOk_box rfl rfl rfl trivial)))))⟩
  have hg0 : c.q.g = [] := by
   have hc : (!strEq (strB c.q.g) (strB [])) = false := hc
   rw [strEq_B] at hc
   simpa using hc
  repeat' first | refine zzs ?_ | refine zzb ?_ | refine zzk ?_
  refine ⟨A3, (by rw [if_pos hg0, List.append_nil]), le_of (ad := []) ⟨zzl, zzl, zzl, zzl, zzl, zzl, zzl, trivial⟩ (memOk_box rfl rfl zzi (memOk_row rfl rfl rfl (memOk_box rfl rfl zzi (memOk_box rfl rfl rfl (memOk_box rfl rfl rfl trivial)))))⟩
 rintro A4 hA4
 have l4 : A4.length ≤ 6010 := by
  rw [hA4]
  split <;> simp <;> omega
 repeat' first | refine zzs ?_ | refine zzb ?_ | refine zzk ?_
 first | refine zzr hnt rfl ?_ ?_ | refine zzd hnt rfl ?_ ?_
 ·exact zza
 first | refine tr_join (σ := List Tok) (fun A => St.of [(2, .one (.ptr 2 0 0)), (3, .one (.ptr 3 0 0)), (4, .one (.ptr 4 0 0)), (900000, .one (.ptr 900000 0 0)), ((1000000 + 4), .one (.eptr fsE)), ((1000000 + 5), .one (.eptr acE)), ((1000000 + 3), .one (.eptr spE))] [(900000, ⟨0, .box (.ds [.own 900001 0]), 0⟩), (900001, ⟨0, .row 4 (A.map eTok), 0⟩), (2, ⟨0, .box (.ds [.ptr 900000 0 0]), 0⟩), (3, ⟨0, .box (.es (eCmd c)), 0⟩), (4, ⟨0, .box (.es (eQry c.q)), 0⟩)]) (fun A => A = A4 ++ if c.q.ss = [] then [] else [wdT [79, 82, 68, 69, 82], wdT [66, 89]] ++ lsT (c.q.ss.map soT)) ?_ ?_ | refine tr_seq (tr_join (σ := List Tok) (fun A => St.of [(2, .one (.ptr 2 0 0)), (3, .one (.ptr 3 0 0)), (4, .one (.ptr 4 0 0)), (900000, .one (.ptr 900000 0 0)), ((1000000 + 4), .one (.eptr fsE)), ((1000000 + 5), .one (.eptr acE)), ((1000000 + 3), .one (.eptr spE))] [(900000, ⟨0, .box (.ds [.own 900001 0]), 0⟩), (900001, ⟨0, .row 4 (A.map eTok), 0⟩), (2, ⟨0, .box (.ds [.ptr 900000 0 0]), 0⟩), (3, ⟨0, .box (.es (eCmd c)), 0⟩), (4, ⟨0, .box (.es (eQry c.q)), 0⟩)]) (fun A => A = A4 ++ if c.q.ss = [] then [] else [wdT [79, 82, 68, 69, 82], wdT [66, 89]] ++ lsT (c.q.ss.map soT)) ?_ ?_)
 ·have hst : (c.q.ss.map soT).length = c.q.ss.length := List.length_map ..
  have hsl : ((eQry c.q).getD (0 + 9) E.dflt).xs.length = c.q.ss.length := List.length_map ..
  repeat' first | refine zzs ?_ | refine zzb ?_ | refine zzk ?_
  refine tr_cond rfl (fun hc => ?_) (fun hc => ?_)
  ·have hs0 : ¬ c.q.ss = [] := by
    have hc := of_decide_eq_true hc
    rw [hsl] at hc
    intro e
    rw [e] at hc
    exact absurd hc (by decide)
   have h6 := words_fn A4 [79, 82, 68, 69, 82, 32, 66, 89] [[79, 82, 68, 69, 82], [66, 89]] (by simp; omega) fields_ORDER_BY
   repeat' first | refine zzs ?_ | refine zzb ?_ | refine zzk ?_
   refine tr_region (zzx hnt rfl ?_ (callH (us := []) [(900000, 900000)] [(900001, 900001)] [(900001, 900001)] rfl rfl rfl rfl (h6) (by repeat' first | exact .nil | refine .lent rfl rfl rfl ?_ | refine .data rfl ?_) (fun _ => rfl) rfl rfl hnt rfl rfl zzi zzi (zzx hnt rfl ?_ (Lex.nil _)))) ?_
   ·exact zza
   ·exact zza
   have h7 := list_q5 61 (c.q.ss.map soT) c.q (A4 ++ [[79, 82, 68, 69, 82], [66, 89]].map wdT) 2000 (fun x hx => by
    obtain ⟨t, ht, rfl⟩ := List.mem_map.1 hx
    exact Nat.le_trans (soT_len t) (by decide)) (by have := hq.ls; simp; omega) (fun i bc hi hb => by
    rw [hst] at hi
    rw [map_getD c.q.ss soT ⟨0, false⟩ hi]
    exact clo5_fn c.q i bc hi fields_DESC (by omega))
   have e3 : eI ((c.q.ss.map soT).length : Int) = .v (.int .i64 (((eQry c.q).getD (0 + 9) E.dflt).xs.length : Int)) := by
    rw [hst, hsl]
    rfl
   rw [e3] at h7
   repeat' first | refine zzs ?_ | refine zzb ?_ | refine zzk ?_
   refine tr_region (zzx hnt rfl ?_ (callH (us := []) [(900000, 900000), (900002, 2), (900003, 4)] [(900001, 900001)] [(900001, 900001)] rfl rfl rfl rfl (h7) (by repeat' first | exact .nil | refine .lent rfl rfl rfl ?_ | refine .data rfl ?_) (fun _ => rfl) rfl rfl hnt rfl rfl zzi zzi (zzx hnt rfl ?_ (Lex.nil _)))) ?_
   ·exact zza
   ·exact zza
   repeat' first | refine zzs ?_ | refine zzb ?_ | refine zzk ?_
   refine ⟨(A4 ++ [[79, 82, 68, 69, 82], [66, 89]].map wdT ++ lsT (c.q.ss.map soT)), (by rw [if_neg hs0, List.append_assoc]; rfl), le_of (ad := []) ⟨zzl, zzl, zzl, zzl, zzl, zzl, zzl, trivial⟩ (memOk_box rfl rfl zzi (memOk_row rfl rfl rfl (memOk_box rfl rfl zzi (memOk_box rfl rfl rfl (memOk_box rfl rfl rfl trivial)))))⟩
  have hs0 : c.q.ss = [] := by
   have hc := of_decide_eq_false hc
   rw [hsl] at hc
   exact List.eq_nil_of_length_eq_zero (by omega)
  repeat' first | refine zzs ?_ | refine zzb ?_ | refine zzk ?_
  refine ⟨A4, (by rw [if_pos hs0, List.append_nil]), le_of (ad := []) ⟨zzl, zzl, zzl, zzl, zzl, zzl, zzl, trivial⟩ (memOk_box rfl rfl zzi (memOk_row rfl rfl rfl (memOk_box rfl rfl zzi (memOk_box rfl rfl rfl (memOk_box rfl rfl rfl trivial)))))⟩
 rintro A5 hA5
 have l5 : A5.length ≤ 7000 := by
  have hb := lsT_len 3 (c.q.ss.map soT) (fun x hx => by
   obtain ⟨t, ht, rfl⟩ := List.mem_map.1 hx
   exact soT_len t)
  have := hq.ls
  rw [List.length_map] at hb
  rw [hA5]
  split <;> simp <;> omega
 repeat' first | refine zzs ?_ | refine zzb ?_ | refine zzk ?_
 first | refine zzr hnt rfl ?_ ?_ | refine zzd hnt rfl ?_ ?_
 ·exact zza
 repeat' first | refine zzs ?_ | refine zzb ?_ | refine zzk ?_
 refine tr_cond rfl (fun hc => ?_) (fun hc => ?_)
 ·have hcu : c.q.c = true := hc
  have h8 := words_fn A5 [76, 73, 77, 73, 84] [[76, 73, 77, 73, 84]] (by simp; omega) fields_LIMIT
  repeat' first | refine zzs ?_ | refine zzb ?_ | refine zzk ?_
  refine tr_region (zzx hnt rfl ?_ (callH (us := []) [(900000, 900000)] [(900001, 900001)] [(900001, 900001)] rfl rfl rfl rfl (h8) (by repeat' first | exact .nil | refine .lent rfl rfl rfl ?_ | refine .data rfl ?_) (fun _ => rfl) rfl rfl hnt rfl rfl zzi zzi (zzx hnt rfl ?_ (Lex.nil _)))) ?_
  ·exact zza
  ·exact zza
  have h9 := wNumber_fn (A5 ++ [[76, 73, 77, 73, 84]].map wdT) c.q.m (by simp; omega)
  repeat' first | refine zzs ?_ | refine zzb ?_ | refine zzk ?_
  refine tr_region (zzx hnt rfl ?_ (callH (us := []) [(900000, 900000)] [(900001, 900001)] [(900001, 900001)] rfl rfl rfl rfl (h9) (by repeat' first | exact .nil | refine .lent rfl rfl rfl ?_ | refine .data rfl ?_) (fun _ => rfl) rfl rfl hnt rfl rfl zzi zzi (zzx hnt rfl ?_ (Lex.nil _)))) ?_
  ·exact zza
  ·exact zza
  exact ⟨.inl rfl, _, _, _, rfl, trivial, rfl, fun X => le_of (ad := []) ⟨trivial, ⟨rfl, rfl, rfl, rfl, rfl⟩, trivial⟩ (memOk_box rfl rfl zzi (memOk_row rfl rfl (by unfold quT; rw [hA5, hA4, ← hA3, ← hA2, ← hA1, if_pos hcu]; unfold ofT; simp [nuT]) trivial))⟩
 have hcu : ¬ c.q.c = true := by
  have hc : c.q.c = false := hc
  rw [hc]
  exact Bool.noConfusion
 repeat' first | refine zzs ?_ | refine zzb ?_ | refine zzk ?_
 exact ⟨.inl rfl, _, _, _, rfl, trivial, rfl, fun X => le_of (ad := []) ⟨trivial, ⟨rfl, rfl, rfl, rfl, rfl⟩, trivial⟩ (memOk_box rfl rfl zzi (memOk_row rfl rfl (by unfold quT; rw [hA5, hA4, ← hA3, ← hA2, ← hA1, if_neg hcu]; unfold ofT; simp) trivial))⟩
end Go.Proofs.YtjabmeffgbaglaaDoor
namespace Go.Proofs.YtjabmeffgbaglaaDoor
open Go Go.RowKit Go.Proofs.YtjabmeffgbaglaaDoor.Ab
set_option linter.unusedSimpArgs false
set_option linter.unusedVariables false
structure cOk (c : Cmd) : Prop where
 k : 1 ≤ c.k ∧ c.k ≤ 7
 cs : c.k = 1 → c.cs.length ≤ 20
 ro : c.k = 2 → c.ro.length ≤ 20 ∧ (∀ v ∈ c.ro, v.ok) ∧ ∀ v ∈ c.ro, chk v = 0 ∧ -9223372036854775808 < v.i
 ss : c.k = 3 → c.ss.length ≤ 20 ∧ ∀ s ∈ c.ss, exOk s.x ∧ exF s.x = 0
 wh : c.k = 3 ∨ c.k = 4 → exOk c.wh ∧ cdP c.wh
 q : c.k = 5 → qOk c.q
theorem coT_len (k : Colm) : (coT k).length ≤ 4 := by
 unfold coT
 split <;> simp
theorem vlT_len (v : Val) : (vlT v).length ≤ 2 := by
 unfold vlT
 split <;> simp
theorem seT_len {s : CSet} (h : exF s.x = 0) : (seT s).length ≤ 202 := by
 have := len200 h
 unfold seT
 simp
 omega
theorem ofT_len (c : Cmd) (b : Bool) : (ofT c b).length ≤ 5 := by
 unfold ofT tbT
 split <;> simp
theorem whT_len {x : Ex} (h : cdP x) : (whT x).length ≤ 201 := by
 unfold whT
 split
 ·exact Nat.zero_le _
 ·rename_i hn
  have := len200 (h.resolve_left hn)
  simp
  omega
theorem cw7 (c : Cmd) : List.take 7 (List.drop (0 + 7) (eCmd c)) = eEx c.wh := by rw [eEx_eq]; rfl
theorem strB_app' (a b : Byt) : strB (a ++ b) = strB a ++ strB b := by
 apply ByteArray.ext
 rw [ByteArray.data_append]
 simp [strB]
theorem fld_gr (r : Int) : Fld ([71, 82, 65, 78, 84, 32] ++ rwT r ++ [32, 79, 78]) [[71, 82, 65, 78, 84], rwT r, [79, 78]] := by
 unfold rwT
 split
 ·exact fields_GRANT_READ_ON
 ·exact fields_GRANT_WRITE_ON
theorem fld_rv (r : Int) : Fld ([82, 69, 86, 79, 75, 69, 32] ++ rwT r ++ [32, 79, 78]) [[82, 69, 86, 79, 75, 69], rwT r, [79, 78]] := by
 unfold rwT
 split
 ·exact fields_REVOKE_READ_ON
 ·exact fields_REVOKE_WRITE_ON
theorem rwT_len (r : Int) : (rwT r).length ≤ 5 := by
 unfold rwT
 split <;> simp
set_option maxRecDepth 10000 in
set_option maxHeartbeats 2000000 in
theorem command_fn (ac : List Tok) (c : Cmd) (hc0 : cOk c) (hl : ac.length ≤ 100) : FnH Tryd.prog 8 (gW) (msP ac) [.one (.ptr 900000 0 0), .agg (.es (eCmd c))] (.tup []) (msP (ac ++ cmT c)) := by
 refine fn_introH (T := tab) tOk Tryd.func8 rfl (by kernel_rfl) (by simp [Tryd.ntmps8]) rfl rfl ?_
 intro X hX
 have hnt : X.nt = 118 := hX
 clear hX
 have f29 : 0 + 29 ≤ (Cs.es (eCmd c)).len := Nat.le_refl 29
 have lof := ofT_len c true
 unfold cmT
 repeat' first | refine zzs ?_ | refine zzb ?_ | refine zzk ?_
 first | refine zzr hnt rfl ?_ ?_ | refine zzd hnt rfl ?_ ?_
 ·exact zza
 repeat' first | refine zzs ?_ | refine zzb ?_ | refine zzk ?_
 first | refine zzr hnt rfl ?_ ?_ | refine zzd hnt rfl ?_ ?_
 ·exact zza
 repeat' first | refine zzs ?_ | refine zzb ?_ | refine zzk ?_
 first | refine zzr hnt rfl ?_ ?_ | refine zzd hnt rfl ?_ ?_
 ·exact zza
 repeat' first | refine zzs ?_ | refine zzb ?_ | refine zzk ?_
 refine tr_cond rfl (fun hc => ?_) (fun hc => ?_)
 ·have hk : c.k = 1 := of_decide_eq_true hc
  rw [if_pos hk]
  have lcs := hc0.cs hk
  have h1 := words_fn ac [67, 82, 69, 65, 84, 69, 32, 84, 65, 66, 76, 69] [[67, 82, 69, 65, 84, 69], [84, 65, 66, 76, 69]] (by simp; omega) fields_CREATE_TABLE
  repeat' first | refine zzs ?_ | refine zzb ?_ | refine zzk ?_
  refine tr_region (zzx hnt rfl ?_ (callH (us := []) [(900000, 900000)] [(900001, 900001)] [(900001, 900001)] rfl rfl rfl rfl (h1) (by repeat' first | exact .nil | refine .lent rfl rfl rfl ?_ | refine .data rfl ?_) (fun _ => rfl) rfl rfl hnt rfl rfl zzi zzi (zzx hnt rfl ?_ (Lex.nil _)))) ?_
  ·exact zza
  ·exact zza
  have h2 := wName_fn (ac ++ [[67, 82, 69, 65, 84, 69], [84, 65, 66, 76, 69]].map wdT) c.tb (by simp; omega)
  repeat' first | refine zzs ?_ | refine zzb ?_ | refine zzk ?_
  refine tr_region (zzx hnt rfl ?_ (callH (us := []) [(900000, 900000)] [(900001, 900001)] [(900001, 900001)] rfl rfl rfl rfl (h2) (by repeat' first | exact .nil | refine .lent rfl rfl rfl ?_ | refine .data rfl ?_) (fun _ => rfl) rfl rfl hnt rfl rfl zzi zzi (zzx hnt rfl ?_ (Lex.nil _)))) ?_
  ·exact zza
  ·exact zza
  have h3 := wSign_fn (ac ++ [[67, 82, 69, 65, 84, 69], [84, 65, 66, 76, 69]].map wdT ++ [⟨1, c.tb, 0, 0⟩]) [40] (by simp; omega)
  repeat' first | refine zzs ?_ | refine zzb ?_ | refine zzk ?_
  refine tr_region (zzx hnt rfl ?_ (callH (us := []) [(900000, 900000)] [(900001, 900001)] [(900001, 900001)] rfl rfl rfl rfl (h3) (by repeat' first | exact .nil | refine .lent rfl rfl rfl ?_ | refine .data rfl ?_) (fun _ => rfl) rfl rfl hnt rfl rfl zzi zzi (zzx hnt rfl ?_ (Lex.nil _)))) ?_
  ·exact zza
  ·exact zza
  refine tr_le (s' := St.of [(2, .one (.ptr 2 0 0)), (3, .one (.ptr 3 0 0)), (900000, .one (.ptr 900000 0 0)), ((1000000 + 4), .one (.eptr fsE)), ((1000000 + 5), .one (.eptr acE)), ((1000000 + 3), .one (.eptr spE))] [(900000, ⟨0, .box (.ds [.own 900001 0]), 0⟩), (900001, ⟨0, .row 4 (((ac ++ [[67, 82, 69, 65, 84, 69], [84, 65, 66, 76, 69]].map wdT ++ [naT c.tb] ++ [sgT [40]])).map eTok), 0⟩), (2, ⟨0, .box (.ds [.ptr 900000 0 0]), 0⟩), (3, ⟨0, .box (.es (eCmd c)), 0⟩)]) (le_of (ad := []) ⟨zzl, zzl, zzl, zzl, zzl, zzl, trivial⟩ (memOk_box rfl rfl zzi (memOk_row rfl rfl rfl (memOk_box rfl rfl zzi (memOk_box rfl rfl rfl trivial))))) ?_
  have l1 : (ac ++ [[67, 82, 69, 65, 84, 69], [84, 65, 66, 76, 69]].map wdT ++ [naT c.tb] ++ [sgT [40]]).length ≤ 110 := (by simp; omega)
  generalize hA1 : ac ++ [[67, 82, 69, 65, 84, 69], [84, 65, 66, 76, 69]].map wdT ++ [naT c.tb] ++ [sgT [40]] = A1 at *
  have ht : (c.cs.map coT).length = c.cs.length := List.length_map ..
  have h4 := list_c 18 (c.cs.map coT) c A1 2000 (fun x hx => by
   obtain ⟨t, ht, rfl⟩ := List.mem_map.1 hx
   exact Nat.le_trans (coT_len t) (by decide)) (by omega) (fun i bc hi hb => by
   rw [ht] at hi
   rw [map_getD c.cs coT col0 hi]
   exact clo1_fn c i bc hi (fld_kw _) fields_NOT_NULL (by omega))
  have e2 : eI ((c.cs.map coT).length : Int) = .v (.int .i64 (((eCmd c).getD (0 + 4) E.dflt).xs.length : Int)) := by
   rw [ht]
   show _ = E.v (.int .i64 ((c.cs.map eCol).length : Int))
   rw [List.length_map]
   rfl
  rw [e2] at h4
  repeat' first | refine zzs ?_ | refine zzb ?_ | refine zzk ?_
  refine tr_region (zzx hnt rfl ?_ (callH (us := []) [(900000, 900000), (900002, 2), (900003, 3)] [(900001, 900001)] [(900001, 900001)] rfl rfl rfl rfl (h4) (by repeat' first | exact .nil | refine .lent rfl rfl rfl ?_ | refine .data rfl ?_) (fun _ => rfl) rfl rfl hnt rfl rfl zzi zzi (zzx hnt rfl ?_ (Lex.nil _)))) ?_
  ·exact zza
  ·exact zza
  have hb := lsT_len 4 (c.cs.map coT) (fun x hx => by
   obtain ⟨t, ht, rfl⟩ := List.mem_map.1 hx
   exact coT_len t)
  rw [ht] at hb
  have h5 := wSign_fn (A1 ++ lsT (c.cs.map coT)) [41] (by simp; omega)
  repeat' first | refine zzs ?_ | refine zzb ?_ | refine zzk ?_
  refine tr_region (zzx hnt rfl ?_ (callH (us := []) [(900000, 900000)] [(900001, 900001)] [(900001, 900001)] rfl rfl rfl rfl (h5) (by repeat' first | exact .nil | refine .lent rfl rfl rfl ?_ | refine .data rfl ?_) (fun _ => rfl) rfl rfl hnt rfl rfl zzi zzi (zzx hnt rfl ?_ (Lex.nil _)))) ?_
  ·exact zza
  ·exact zza
  exact ⟨.inl rfl, _, _, _, rfl, trivial, rfl, fun X => le_of (ad := []) ⟨trivial, ⟨rfl, rfl, rfl, rfl, rfl⟩, trivial⟩ (memOk_box rfl rfl zzi (memOk_row rfl rfl (by rw [← hA1]; simp [naT]) trivial))⟩
 have k1 : ¬ c.k = 1 := of_decide_eq_false hc
 rw [if_neg k1]
 clear hc
 repeat' first | refine zzs ?_ | refine zzr hnt rfl ?_ ?_ | refine zzd hnt rfl ?_ ?_ | refine zzb ?_ | refine zzk ?_
 ·exact zzt
 repeat' first | refine zzs ?_ | refine zzb ?_ | refine zzk ?_
 refine tr_cond rfl (fun hc => ?_) (fun hc => ?_)
 ·have hk : c.k = 2 := of_decide_eq_true hc
  rw [if_pos hk]
  obtain ⟨lro, hv, hv2⟩ := hc0.ro hk
  have h1 := words_fn ac [73, 78, 83, 69, 82, 84, 32, 73, 78, 84, 79] [[73, 78, 83, 69, 82, 84], [73, 78, 84, 79]] (by simp; omega) fields_INSERT_INTO
  repeat' first | refine zzs ?_ | refine zzb ?_ | refine zzk ?_
  refine tr_region (zzx hnt rfl ?_ (callH (us := []) [(900000, 900000)] [(900001, 900001)] [(900001, 900001)] rfl rfl rfl rfl (h1) (by repeat' first | exact .nil | refine .lent rfl rfl rfl ?_ | refine .data rfl ?_) (fun _ => rfl) rfl rfl hnt rfl rfl zzi zzi (zzx hnt rfl ?_ (Lex.nil _)))) ?_
  ·exact zza
  ·exact zza
  have h2 := wOf_fn (ac ++ [[73, 78, 83, 69, 82, 84], [73, 78, 84, 79]].map wdT) c true fields_DRAWER (by simp; omega)
  repeat' first | refine zzs ?_ | refine zzb ?_ | refine zzk ?_
  refine tr_region (zzx hnt rfl ?_ (callH (us := []) [(900000, 900000)] [(900001, 900001)] [(900001, 900001)] rfl rfl rfl rfl (h2) (by repeat' first | exact .nil | refine .lent rfl rfl rfl ?_ | refine .data rfl ?_) (fun _ => rfl) rfl rfl hnt rfl rfl zzi zzi (zzx hnt rfl ?_ (Lex.nil _)))) ?_
  ·exact zza
  ·exact zza
  have h3 := words_fn (ac ++ [[73, 78, 83, 69, 82, 84], [73, 78, 84, 79]].map wdT ++ ofT c true) [86, 65, 76, 85, 69, 83] [[86, 65, 76, 85, 69, 83]] (by simp; omega) fields_VALUES
  repeat' first | refine zzs ?_ | refine zzb ?_ | refine zzk ?_
  refine tr_region (zzx hnt rfl ?_ (callH (us := []) [(900000, 900000)] [(900001, 900001)] [(900001, 900001)] rfl rfl rfl rfl (h3) (by repeat' first | exact .nil | refine .lent rfl rfl rfl ?_ | refine .data rfl ?_) (fun _ => rfl) rfl rfl hnt rfl rfl zzi zzi (zzx hnt rfl ?_ (Lex.nil _)))) ?_
  ·exact zza
  ·exact zza
  have h4 := wSign_fn (ac ++ [[73, 78, 83, 69, 82, 84], [73, 78, 84, 79]].map wdT ++ ofT c true ++ [[86, 65, 76, 85, 69, 83]].map wdT) [40] (by simp; omega)
  repeat' first | refine zzs ?_ | refine zzb ?_ | refine zzk ?_
  refine tr_region (zzx hnt rfl ?_ (callH (us := []) [(900000, 900000)] [(900001, 900001)] [(900001, 900001)] rfl rfl rfl rfl (h4) (by repeat' first | exact .nil | refine .lent rfl rfl rfl ?_ | refine .data rfl ?_) (fun _ => rfl) rfl rfl hnt rfl rfl zzi zzi (zzx hnt rfl ?_ (Lex.nil _)))) ?_
  ·exact zza
  ·exact zza
  refine tr_le (s' := St.of [(2, .one (.ptr 2 0 0)), (3, .one (.ptr 3 0 0)), (900000, .one (.ptr 900000 0 0)), ((1000000 + 4), .one (.eptr fsE)), ((1000000 + 5), .one (.eptr acE)), ((1000000 + 3), .one (.eptr spE))] [(900000, ⟨0, .box (.ds [.own 900001 0]), 0⟩), (900001, ⟨0, .row 4 (((ac ++ [[73, 78, 83, 69, 82, 84], [73, 78, 84, 79]].map wdT ++ ofT c true ++ [[86, 65, 76, 85, 69, 83]].map wdT ++ [sgT [40]])).map eTok), 0⟩), (2, ⟨0, .box (.ds [.ptr 900000 0 0]), 0⟩), (3, ⟨0, .box (.es (eCmd c)), 0⟩)]) (le_of (ad := []) ⟨zzl, zzl, zzl, zzl, zzl, zzl, trivial⟩ (memOk_box rfl rfl zzi (memOk_row rfl rfl rfl (memOk_box rfl rfl zzi (memOk_box rfl rfl rfl trivial))))) ?_
  have l1 : (ac ++ [[73, 78, 83, 69, 82, 84], [73, 78, 84, 79]].map wdT ++ ofT c true ++ [[86, 65, 76, 85, 69, 83]].map wdT ++ [sgT [40]]).length ≤ 120 := (by simp; omega)
  generalize hA1 : ac ++ [[73, 78, 83, 69, 82, 84], [73, 78, 84, 79]].map wdT ++ ofT c true ++ [[86, 65, 76, 85, 69, 83]].map wdT ++ [sgT [40]] = A1 at *
  have ht : (c.ro.map vlT).length = c.ro.length := List.length_map ..
  have h5 := list_c 21 (c.ro.map vlT) c A1 2000 (fun x hx => by
   obtain ⟨t, ht, rfl⟩ := List.mem_map.1 hx
   exact Nat.le_trans (vlT_len t) (by decide)) (by omega) (fun i bc hi hb => by
   rw [ht] at hi
   rw [map_getD c.ro vlT val0 hi]
   exact clo2_fn c i bc hi hv hv2 (by omega))
  have e2 : eI ((c.ro.map vlT).length : Int) = .v (.int .i64 (((eCmd c).getD (0 + 5) E.dflt).xs.length : Int)) := by
   rw [ht]
   show _ = E.v (.int .i64 ((c.ro.map eVal).length : Int))
   rw [List.length_map]
   rfl
  rw [e2] at h5
  repeat' first | refine zzs ?_ | refine zzb ?_ | refine zzk ?_
  refine tr_region (zzx hnt rfl ?_ (callH (us := []) [(900000, 900000), (900002, 2), (900003, 3)] [(900001, 900001)] [(900001, 900001)] rfl rfl rfl rfl (h5) (by repeat' first | exact .nil | refine .lent rfl rfl rfl ?_ | refine .data rfl ?_) (fun _ => rfl) rfl rfl hnt rfl rfl zzi zzi (zzx hnt rfl ?_ (Lex.nil _)))) ?_
  ·exact zza
  ·exact zza
  have hb := lsT_len 2 (c.ro.map vlT) (fun x hx => by
   obtain ⟨t, ht, rfl⟩ := List.mem_map.1 hx
   exact vlT_len t)
  rw [ht] at hb
  have h6 := wSign_fn (A1 ++ lsT (c.ro.map vlT)) [41] (by simp; omega)
  repeat' first | refine zzs ?_ | refine zzb ?_ | refine zzk ?_
  refine tr_region (zzx hnt rfl ?_ (callH (us := []) [(900000, 900000)] [(900001, 900001)] [(900001, 900001)] rfl rfl rfl rfl (h6) (by repeat' first | exact .nil | refine .lent rfl rfl rfl ?_ | refine .data rfl ?_) (fun _ => rfl) rfl rfl hnt rfl rfl zzi zzi (zzx hnt rfl ?_ (Lex.nil _)))) ?_
  ·exact zza
  ·exact zza
  exact ⟨.inl rfl, _, _, _, rfl, trivial, rfl, fun X => le_of (ad := []) ⟨trivial, ⟨rfl, rfl, rfl, rfl, rfl⟩, trivial⟩ (memOk_box rfl rfl zzi (memOk_row rfl rfl (by rw [← hA1]; simp) trivial))⟩
 have k2 : ¬ c.k = 2 := of_decide_eq_false hc
 rw [if_neg k2]
 clear hc
 repeat' first | refine zzs ?_ | refine zzr hnt rfl ?_ ?_ | refine zzd hnt rfl ?_ ?_ | refine zzb ?_ | refine zzk ?_
 ·exact zzt
 repeat' first | refine zzs ?_ | refine zzb ?_ | refine zzk ?_
 refine tr_cond rfl (fun hc => ?_) (fun hc => ?_)
 ·have hk : c.k = 3 := of_decide_eq_true hc
  rw [if_pos hk]
  obtain ⟨lss, hx⟩ := hc0.ss hk
  obtain ⟨w1, w2⟩ := hc0.wh (.inl hk)
  have h1 := words_fn ac [85, 80, 68, 65, 84, 69] [[85, 80, 68, 65, 84, 69]] (by simp; omega) fields_UPDATE
  repeat' first | refine zzs ?_ | refine zzb ?_ | refine zzk ?_
  refine tr_region (zzx hnt rfl ?_ (callH (us := []) [(900000, 900000)] [(900001, 900001)] [(900001, 900001)] rfl rfl rfl rfl (h1) (by repeat' first | exact .nil | refine .lent rfl rfl rfl ?_ | refine .data rfl ?_) (fun _ => rfl) rfl rfl hnt rfl rfl zzi zzi (zzx hnt rfl ?_ (Lex.nil _)))) ?_
  ·exact zza
  ·exact zza
  have h2 := wOf_fn (ac ++ [[85, 80, 68, 65, 84, 69]].map wdT) c true fields_DRAWER (by simp; omega)
  repeat' first | refine zzs ?_ | refine zzb ?_ | refine zzk ?_
  refine tr_region (zzx hnt rfl ?_ (callH (us := []) [(900000, 900000)] [(900001, 900001)] [(900001, 900001)] rfl rfl rfl rfl (h2) (by repeat' first | exact .nil | refine .lent rfl rfl rfl ?_ | refine .data rfl ?_) (fun _ => rfl) rfl rfl hnt rfl rfl zzi zzi (zzx hnt rfl ?_ (Lex.nil _)))) ?_
  ·exact zza
  ·exact zza
  have h3 := words_fn (ac ++ [[85, 80, 68, 65, 84, 69]].map wdT ++ ofT c true) [83, 69, 84] [[83, 69, 84]] (by simp; omega) fields_SET
  repeat' first | refine zzs ?_ | refine zzb ?_ | refine zzk ?_
  refine tr_region (zzx hnt rfl ?_ (callH (us := []) [(900000, 900000)] [(900001, 900001)] [(900001, 900001)] rfl rfl rfl rfl (h3) (by repeat' first | exact .nil | refine .lent rfl rfl rfl ?_ | refine .data rfl ?_) (fun _ => rfl) rfl rfl hnt rfl rfl zzi zzi (zzx hnt rfl ?_ (Lex.nil _)))) ?_
  ·exact zza
  ·exact zza
  refine tr_le (s' := St.of [(2, .one (.ptr 2 0 0)), (3, .one (.ptr 3 0 0)), (900000, .one (.ptr 900000 0 0)), ((1000000 + 4), .one (.eptr fsE)), ((1000000 + 5), .one (.eptr acE)), ((1000000 + 3), .one (.eptr spE))] [(900000, ⟨0, .box (.ds [.own 900001 0]), 0⟩), (900001, ⟨0, .row 4 (((ac ++ [[85, 80, 68, 65, 84, 69]].map wdT ++ ofT c true ++ [[83, 69, 84]].map wdT)).map eTok), 0⟩), (2, ⟨0, .box (.ds [.ptr 900000 0 0]), 0⟩), (3, ⟨0, .box (.es (eCmd c)), 0⟩)]) (le_of (ad := []) ⟨zzl, zzl, zzl, zzl, zzl, zzl, trivial⟩ (memOk_box rfl rfl zzi (memOk_row rfl rfl rfl (memOk_box rfl rfl zzi (memOk_box rfl rfl rfl trivial))))) ?_
  have l1 : (ac ++ [[85, 80, 68, 65, 84, 69]].map wdT ++ ofT c true ++ [[83, 69, 84]].map wdT).length ≤ 120 := (by simp; omega)
  generalize hA1 : ac ++ [[85, 80, 68, 65, 84, 69]].map wdT ++ ofT c true ++ [[83, 69, 84]].map wdT = A1 at *
  have ht : (c.ss.map seT).length = c.ss.length := List.length_map ..
  have h5 := list_c 23 (c.ss.map seT) c A1 2000 (fun x hx' => by
   obtain ⟨t, ht, rfl⟩ := List.mem_map.1 hx'
   exact Nat.le_trans (seT_len (hx t ht).2) (by decide)) (by omega) (fun i bc hi hb => by
   rw [ht] at hi
   rw [map_getD c.ss seT set0 hi]
   exact clo3_fn c i bc hi hx (by omega))
  have e2 : eI ((c.ss.map seT).length : Int) = .v (.int .i64 (((eCmd c).getD (0 + 6) E.dflt).xs.length : Int)) := by
   rw [ht]
   show _ = E.v (.int .i64 ((c.ss.map eSet).length : Int))
   rw [List.length_map]
   rfl
  rw [e2] at h5
  repeat' first | refine zzs ?_ | refine zzb ?_ | refine zzk ?_
  refine tr_region (zzx hnt rfl ?_ (callH (us := []) [(900000, 900000), (900002, 2), (900003, 3)] [(900001, 900001)] [(900001, 900001)] rfl rfl rfl rfl (h5) (by repeat' first | exact .nil | refine .lent rfl rfl rfl ?_ | refine .data rfl ?_) (fun _ => rfl) rfl rfl hnt rfl rfl zzi zzi (zzx hnt rfl ?_ (Lex.nil _)))) ?_
  ·exact zza
  ·exact zza
  have hb := lsT_len 202 (c.ss.map seT) (fun x hx' => by
   obtain ⟨t, ht, rfl⟩ := List.mem_map.1 hx'
   exact seT_len (hx t ht).2)
  rw [ht] at hb
  have h6 := wWhere_fn (A1 ++ lsT (c.ss.map seT)) c.wh w1 w2 fields_WHERE (by simp; omega)
  rw [← cw7] at h6
  repeat' first | refine zzs ?_ | refine zzb ?_ | refine zzk ?_
  refine tr_region (zzx hnt rfl ?_ (callH (us := []) [(900000, 900000)] [(900001, 900001)] [(900001, 900001)] rfl rfl rfl rfl (h6) (by repeat' first | exact .nil | refine .lent rfl rfl rfl ?_ | refine .data rfl ?_) (fun _ => rfl) rfl rfl hnt rfl rfl zzi zzi (zzx hnt rfl ?_ (Lex.nil _)))) ?_
  ·exact zza
  ·exact zza
  exact ⟨.inl rfl, _, _, _, rfl, trivial, rfl, fun X => le_of (ad := []) ⟨trivial, ⟨rfl, rfl, rfl, rfl, rfl⟩, trivial⟩ (memOk_box rfl rfl zzi (memOk_row rfl rfl (by rw [← hA1]; simp) trivial))⟩
 have k3 : ¬ c.k = 3 := of_decide_eq_false hc
 rw [if_neg k3]
 clear hc
 repeat' first | refine zzs ?_ | refine zzr hnt rfl ?_ ?_ | refine zzd hnt rfl ?_ ?_ | refine zzb ?_ | refine zzk ?_
 ·exact zzt
 repeat' first | refine zzs ?_ | refine zzb ?_ | refine zzk ?_
 refine tr_cond rfl (fun hc => ?_) (fun hc => ?_)
 ·have hk : c.k = 4 := of_decide_eq_true hc
  rw [if_pos hk]
  obtain ⟨w1, w2⟩ := hc0.wh (.inr hk)
  have h1 := words_fn ac [68, 69, 76, 69, 84, 69, 32, 70, 82, 79, 77] [[68, 69, 76, 69, 84, 69], [70, 82, 79, 77]] (by simp; omega) fields_DELETE_FROM
  repeat' first | refine zzs ?_ | refine zzb ?_ | refine zzk ?_
  refine tr_region (zzx hnt rfl ?_ (callH (us := []) [(900000, 900000)] [(900001, 900001)] [(900001, 900001)] rfl rfl rfl rfl (h1) (by repeat' first | exact .nil | refine .lent rfl rfl rfl ?_ | refine .data rfl ?_) (fun _ => rfl) rfl rfl hnt rfl rfl zzi zzi (zzx hnt rfl ?_ (Lex.nil _)))) ?_
  ·exact zza
  ·exact zza
  have h2 := wOf_fn (ac ++ [[68, 69, 76, 69, 84, 69], [70, 82, 79, 77]].map wdT) c true fields_DRAWER (by simp; omega)
  repeat' first | refine zzs ?_ | refine zzb ?_ | refine zzk ?_
  refine tr_region (zzx hnt rfl ?_ (callH (us := []) [(900000, 900000)] [(900001, 900001)] [(900001, 900001)] rfl rfl rfl rfl (h2) (by repeat' first | exact .nil | refine .lent rfl rfl rfl ?_ | refine .data rfl ?_) (fun _ => rfl) rfl rfl hnt rfl rfl zzi zzi (zzx hnt rfl ?_ (Lex.nil _)))) ?_
  ·exact zza
  ·exact zza
  have h6 := wWhere_fn (ac ++ [[68, 69, 76, 69, 84, 69], [70, 82, 79, 77]].map wdT ++ ofT c true) c.wh w1 w2 fields_WHERE (by simp; omega)
  rw [← cw7] at h6
  repeat' first | refine zzs ?_ | refine zzb ?_ | refine zzk ?_
  refine tr_region (zzx hnt rfl ?_ (callH (us := []) [(900000, 900000)] [(900001, 900001)] [(900001, 900001)] rfl rfl rfl rfl (h6) (by repeat' first | exact .nil | refine .lent rfl rfl rfl ?_ | refine .data rfl ?_) (fun _ => rfl) rfl rfl hnt rfl rfl zzi zzi (zzx hnt rfl ?_ (Lex.nil _)))) ?_
  ·exact zza
  ·exact zza
  exact ⟨.inl rfl, _, _, _, rfl, trivial, rfl, fun X => le_of (ad := []) ⟨trivial, ⟨rfl, rfl, rfl, rfl, rfl⟩, trivial⟩ (memOk_box rfl rfl zzi (memOk_row rfl rfl (by simp) trivial))⟩
 have k4 : ¬ c.k = 4 := of_decide_eq_false hc
 rw [if_neg k4]
 clear hc
 repeat' first | refine zzs ?_ | refine zzr hnt rfl ?_ ?_ | refine zzd hnt rfl ?_ ?_ | refine zzb ?_ | refine zzk ?_
 ·exact zzt
 repeat' first | refine zzs ?_ | refine zzb ?_ | refine zzk ?_
 refine tr_cond rfl (fun hc => ?_) (fun hc => ?_)
 ·have hk : c.k = 5 := of_decide_eq_true hc
  rw [if_pos hk]
  have h1 := query_fn ac c (hc0.q hk) (by omega)
  repeat' first | refine zzs ?_ | refine zzb ?_ | refine zzk ?_
  refine tr_region (zzx hnt rfl ?_ (callH (us := []) [(900000, 900000)] [(900001, 900001)] [(900001, 900001)] rfl rfl rfl rfl (h1) (by repeat' first | exact .nil | refine .lent rfl rfl rfl ?_ | refine .data rfl ?_) (fun _ => rfl) rfl rfl hnt rfl rfl zzi zzi (zzx hnt rfl ?_ (Lex.nil _)))) ?_
  ·exact zza
  ·exact zza
  exact ⟨.inl rfl, _, _, _, rfl, trivial, rfl, fun X => le_of (ad := []) ⟨trivial, ⟨rfl, rfl, rfl, rfl, rfl⟩, trivial⟩ (memOk_box rfl rfl zzi (memOk_row rfl rfl rfl trivial))⟩
 have k5 : ¬ c.k = 5 := of_decide_eq_false hc
 rw [if_neg k5]
 clear hc
 repeat' first | refine zzs ?_ | refine zzr hnt rfl ?_ ?_ | refine zzd hnt rfl ?_ ?_ | refine zzb ?_ | refine zzk ?_
 ·exact zzt
 have lrw := rwT_len c.rt
 have hr := rightWord_fn c.rt
 repeat' first | refine zzs ?_ | refine zzb ?_ | refine zzk ?_
 refine tr_cond rfl (fun hc => ?_) (fun hc => ?_)
 ·have hk : c.k = 6 := of_decide_eq_true hc
  rw [if_pos hk]
  have h1 := words_fn ac ([71, 82, 65, 78, 84, 32] ++ rwT c.rt ++ [32, 79, 78]) [[71, 82, 65, 78, 84], rwT c.rt, [79, 78]] (by simp; omega) (fld_gr c.rt)
  have e1 : eT ([71, 82, 65, 78, 84, 32] ++ rwT c.rt ++ [32, 79, 78]) = .v (.string ((⟨#[71, 82, 65, 78, 84, 32]⟩ : ByteArray) ++ strB (rwT c.rt) ++ (⟨#[32, 79, 78]⟩ : ByteArray))) := by
   unfold eT
   rw [strB_app', strB_app']
   rfl
  rw [e1] at h1
  repeat' first | refine zzs ?_ | refine zzb ?_ | refine zzk ?_
  refine tr_draw (T := tab) tOk hnt mixedR (lexD (T := tab) rfl ?_ (callD rfl rfl rfl rfl rfl rfl rfl rfl (hr) (lexD (T := tab) rfl ?_ (callHD [(900000, 900000)] [(900001, 900001)] [(900001, 900001)] rfl rfl rfl rfl (h1) (by repeat' first | exact .nil | refine .lent rfl rfl rfl ?_ | refine .data rfl ?_) rfl rfl rfl rfl rfl zzi zzi (lexD (T := tab) rfl ?_ (.nil _)))))) (by first | decide +kernel | kernel_rfl) ?_
  ·exact zza
  ·rw [ByteArray.size_append, strB_size, show (⟨#[71, 82, 65, 78, 84, 32]⟩ : ByteArray).size = 6 from rfl, show (⟨#[32, 79, 78]⟩ : ByteArray).size = 3 from rfl]
   simp only [maxLen]
   exact zza
  ·exact zza
  have h2 := wOf_fn (ac ++ [[71, 82, 65, 78, 84], rwT c.rt, [79, 78]].map wdT) c true fields_DRAWER (by simp; omega)
  repeat' first | refine zzs ?_ | refine zzb ?_ | refine zzk ?_
  refine tr_region (zzx hnt rfl ?_ (callH (us := []) [(900000, 900000)] [(900001, 900001)] [(900001, 900001)] rfl rfl rfl rfl (h2) (by repeat' first | exact .nil | refine .lent rfl rfl rfl ?_ | refine .data rfl ?_) (fun _ => rfl) rfl rfl hnt rfl rfl zzi zzi (zzx hnt rfl ?_ (Lex.nil _)))) ?_
  ·exact zza
  ·exact zza
  have h3 := words_fn (ac ++ [[71, 82, 65, 78, 84], rwT c.rt, [79, 78]].map wdT ++ ofT c true) [84, 79] [[84, 79]] (by simp; omega) fields_TO
  repeat' first | refine zzs ?_ | refine zzb ?_ | refine zzk ?_
  refine tr_region (zzx hnt rfl ?_ (callH (us := []) [(900000, 900000)] [(900001, 900001)] [(900001, 900001)] rfl rfl rfl rfl (h3) (by repeat' first | exact .nil | refine .lent rfl rfl rfl ?_ | refine .data rfl ?_) (fun _ => rfl) rfl rfl hnt rfl rfl zzi zzi (zzx hnt rfl ?_ (Lex.nil _)))) ?_
  ·exact zza
  ·exact zza
  have h4 := wNumber_fn (ac ++ [[71, 82, 65, 78, 84], rwT c.rt, [79, 78]].map wdT ++ ofT c true ++ [[84, 79]].map wdT) c.to (by simp; omega)
  repeat' first | refine zzs ?_ | refine zzb ?_ | refine zzk ?_
  refine tr_region (zzx hnt rfl ?_ (callH (us := []) [(900000, 900000)] [(900001, 900001)] [(900001, 900001)] rfl rfl rfl rfl (h4) (by repeat' first | exact .nil | refine .lent rfl rfl rfl ?_ | refine .data rfl ?_) (fun _ => rfl) rfl rfl hnt rfl rfl zzi zzi (zzx hnt rfl ?_ (Lex.nil _)))) ?_
  ·exact zza
  ·exact zza
  repeat' first | refine zzs ?_ | refine zzb ?_ | refine zzk ?_
  first | refine zzr hnt rfl ?_ ?_ | refine zzd hnt rfl ?_ ?_
  ·exact zza
  repeat' first | refine zzs ?_ | refine zzb ?_ | refine zzk ?_
  refine tr_cond rfl (fun hc => ?_) (fun hc => ?_)
  ·have ho : c.op = true := hc
   rw [if_pos ho]
   have h5 := words_fn (ac ++ [[71, 82, 65, 78, 84], rwT c.rt, [79, 78]].map wdT ++ ofT c true ++ [[84, 79]].map wdT ++ [⟨3, [], c.to, 0⟩]) [87, 73, 84, 72, 32, 79, 80, 84, 73, 79, 78] [[87, 73, 84, 72], [79, 80, 84, 73, 79, 78]] (by simp; omega) fields_WITH_OPTION
   repeat' first | refine zzs ?_ | refine zzb ?_ | refine zzk ?_
   refine tr_region (zzx hnt rfl ?_ (callH (us := []) [(900000, 900000)] [(900001, 900001)] [(900001, 900001)] rfl rfl rfl rfl (h5) (by repeat' first | exact .nil | refine .lent rfl rfl rfl ?_ | refine .data rfl ?_) (fun _ => rfl) rfl rfl hnt rfl rfl zzi zzi (zzx hnt rfl ?_ (Lex.nil _)))) ?_
   ·exact zza
   ·exact zza
   exact ⟨.inl rfl, _, _, _, rfl, trivial, rfl, fun X => le_of (ad := []) ⟨trivial, ⟨rfl, rfl, rfl, rfl, rfl⟩, trivial⟩ (memOk_box rfl rfl zzi (memOk_row rfl rfl (by simp [nuT]) trivial))⟩
  have ho : ¬ c.op = true := by
   have hc : c.op = false := hc
   rw [hc]
   exact Bool.noConfusion
  rw [if_neg ho]
  repeat' first | refine zzs ?_ | refine zzb ?_ | refine zzk ?_
  exact ⟨.inl rfl, _, _, _, rfl, trivial, rfl, fun X => le_of (ad := []) ⟨trivial, ⟨rfl, rfl, rfl, rfl, rfl⟩, trivial⟩ (memOk_box rfl rfl zzi (memOk_row rfl rfl (by simp [nuT]) trivial))⟩
 have k6 : ¬ c.k = 6 := of_decide_eq_false hc
 rw [if_neg k6]
 clear hc
 have k7 : c.k = 7 := by have := hc0.k; omega
 repeat' first | refine zzs ?_ | refine zzr hnt rfl ?_ ?_ | refine zzd hnt rfl ?_ ?_ | refine zzb ?_ | refine zzk ?_
 ·exact zzt
 repeat' first | refine zzs ?_ | refine zzb ?_ | refine zzk ?_
 refine tr_cond rfl (fun hc => ?_) (fun hc => ?_)
 rotate_left
 ·exact absurd k7 (of_decide_eq_false hc)
 clear hc
 have h1 := words_fn ac ([82, 69, 86, 79, 75, 69, 32] ++ rwT c.rt ++ [32, 79, 78]) [[82, 69, 86, 79, 75, 69], rwT c.rt, [79, 78]] (by simp; omega) (fld_rv c.rt)
 have e1 : eT ([82, 69, 86, 79, 75, 69, 32] ++ rwT c.rt ++ [32, 79, 78]) = .v (.string ((⟨#[82, 69, 86, 79, 75, 69, 32]⟩ : ByteArray) ++ strB (rwT c.rt) ++ (⟨#[32, 79, 78]⟩ : ByteArray))) := by
  unfold eT
  rw [strB_app', strB_app']
  rfl
 rw [e1] at h1
 repeat' first | refine zzs ?_ | refine zzb ?_ | refine zzk ?_
 refine tr_draw (T := tab) tOk hnt mixedR (lexD (T := tab) rfl ?_ (callD rfl rfl rfl rfl rfl rfl rfl rfl (hr) (lexD (T := tab) rfl ?_ (callHD [(900000, 900000)] [(900001, 900001)] [(900001, 900001)] rfl rfl rfl rfl (h1) (by repeat' first | exact .nil | refine .lent rfl rfl rfl ?_ | refine .data rfl ?_) rfl rfl rfl rfl rfl zzi zzi (lexD (T := tab) rfl ?_ (.nil _)))))) (by first | decide +kernel | kernel_rfl) ?_
 ·exact zza
 ·rw [ByteArray.size_append, strB_size, show (⟨#[82, 69, 86, 79, 75, 69, 32]⟩ : ByteArray).size = 7 from rfl, show (⟨#[32, 79, 78]⟩ : ByteArray).size = 3 from rfl]
  simp only [maxLen]
  exact zza
 ·exact zza
 have h2 := wOf_fn (ac ++ [[82, 69, 86, 79, 75, 69], rwT c.rt, [79, 78]].map wdT) c true fields_DRAWER (by simp; omega)
 repeat' first | refine zzs ?_ | refine zzb ?_ | refine zzk ?_
 refine tr_region (zzx hnt rfl ?_ (callH (us := []) [(900000, 900000)] [(900001, 900001)] [(900001, 900001)] rfl rfl rfl rfl (h2) (by repeat' first | exact .nil | refine .lent rfl rfl rfl ?_ | refine .data rfl ?_) (fun _ => rfl) rfl rfl hnt rfl rfl zzi zzi (zzx hnt rfl ?_ (Lex.nil _)))) ?_
 ·exact zza
 ·exact zza
 have h3 := words_fn (ac ++ [[82, 69, 86, 79, 75, 69], rwT c.rt, [79, 78]].map wdT ++ ofT c true) [70, 82, 79, 77] [[70, 82, 79, 77]] (by simp; omega) fields_FROM
 repeat' first | refine zzs ?_ | refine zzb ?_ | refine zzk ?_
 refine tr_region (zzx hnt rfl ?_ (callH (us := []) [(900000, 900000)] [(900001, 900001)] [(900001, 900001)] rfl rfl rfl rfl (h3) (by repeat' first | exact .nil | refine .lent rfl rfl rfl ?_ | refine .data rfl ?_) (fun _ => rfl) rfl rfl hnt rfl rfl zzi zzi (zzx hnt rfl ?_ (Lex.nil _)))) ?_
 ·exact zza
 ·exact zza
 have h4 := wNumber_fn (ac ++ [[82, 69, 86, 79, 75, 69], rwT c.rt, [79, 78]].map wdT ++ ofT c true ++ [[70, 82, 79, 77]].map wdT) c.to (by simp; omega)
 repeat' first | refine zzs ?_ | refine zzb ?_ | refine zzk ?_
 refine tr_region (zzx hnt rfl ?_ (callH (us := []) [(900000, 900000)] [(900001, 900001)] [(900001, 900001)] rfl rfl rfl rfl (h4) (by repeat' first | exact .nil | refine .lent rfl rfl rfl ?_ | refine .data rfl ?_) (fun _ => rfl) rfl rfl hnt rfl rfl zzi zzi (zzx hnt rfl ?_ (Lex.nil _)))) ?_
 ·exact zza
 ·exact zza
 exact ⟨.inl rfl, _, _, _, rfl, trivial, rfl, fun X => le_of (ad := []) ⟨trivial, ⟨rfl, rfl, rfl, rfl, rfl⟩, trivial⟩ (memOk_box rfl rfl zzi (memOk_row rfl rfl (by simp [nuT]) trivial))⟩
end Go.Proofs.YtjabmeffgbaglaaDoor
namespace Go.Proofs.YtjabmeffgbaglaaDoor
open Go Go.RowKit Go.Proofs.YtjabmeffgbaglaaDoor.Ab
set_option linter.unusedSimpArgs false
set_option linter.unusedVariables false
structure cOk2 (c : Cmd) : Prop where
 cs : c.k = 1 → ∀ k ∈ c.cs, 1 ≤ k.k ∧ k.k ≤ 4
 rt : 6 ≤ c.k → c.rt = 1 ∨ c.rt = 2
 i : c.k = 5 → ∀ t ∈ c.q.is, 0 ≤ t.a ∧ t.a ≤ 4
theorem cm_ok {c : Cmd} (h : c.ok) (h0 : cmF c = 0) : cOk c ∧ cOk2 c := by
 unfold cmF at h0
 split at h0
 ·cases h0
 rename_i hk
 split at h0
 ·cases h0
 rename_i hs
 split at h0
 ·cases h0
 rename_i hf
 have hs : (decide (lnP c) && slB c) = true := by simpa using hs
 have hf : (decide (sbP c) && fmB c) = true := by simpa using hf
 rw [Bool.and_eq_true, decide_eq_true_eq] at hs hf
 have hl := hs.1
 unfold lnP at hl
 have hb : bdB c = true := by
  have := hf.2
  unfold fmB at this
  rw [Bool.and_eq_true] at this
  exact this.2
 unfold bdB at hb
 refine ⟨⟨by omega, fun _ => by omega, fun e => ?_, fun e => ?_, fun e => ?_, fun e => ?_⟩, ⟨fun e => ?_, fun e => ?_, fun e => ?_⟩⟩
 ·rw [if_neg (by omega), if_pos e, Bool.and_eq_true, List.all_eq_true] at hb
  refine ⟨by omega, h.ro, fun v hv => ?_⟩
  have := hb.1 v hv
  unfold vlB at this
  have := of_decide_eq_true this
  have hr := (h.ro v hv).2
  exact ⟨this.1, by omega⟩
 ·rw [if_neg (by omega), if_neg (by omega), if_pos e, Bool.and_eq_true, List.all_eq_true] at hb
  refine ⟨by omega, fun s hs => ⟨(h.ss s hs).2, ?_⟩⟩
  have := hb.1 s hs
  unfold stB at this
  exact (of_decide_eq_true this).2
 ·rcases e with e | e
  ·rw [if_neg (by omega), if_neg (by omega), if_pos e, Bool.and_eq_true, Bool.and_eq_true] at hb
   exact ⟨h.wh, of_decide_eq_true hb.2.2⟩
  ·rw [if_neg (by omega), if_neg (by omega), if_neg (by omega), if_pos e] at hb
   exact ⟨h.wh, of_decide_eq_true hb⟩
 ·rw [if_neg (by omega), if_neg (by omega), if_neg (by omega), if_neg (by omega), if_pos e] at hb
  unfold asB at hb
  rw [Bool.and_eq_true, Bool.and_eq_true, Bool.and_eq_true, List.all_eq_true] at hb
  have hp := of_decide_eq_true hb.1.1.1
  unfold asP at hp
  refine ⟨⟨h.q.w, hp.1.1.1⟩, fun t ht => ⟨h.q.is t ht, fun ha => ?_⟩, by omega, by omega⟩
  have := hb.1.1.2 t ht
  unfold itB at this
  rw [Bool.and_eq_true, if_neg ha] at this
  exact of_decide_eq_true this.2
 ·rw [if_pos e, Bool.and_eq_true, List.all_eq_true] at hb
  intro k hk
  have := hb.1 k hk
  unfold clB at this
  exact (of_decide_eq_true this).2
 ·rw [if_neg (by omega), if_neg (by omega), if_neg (by omega), if_neg (by omega), if_neg (by omega)] at hb
  exact of_decide_eq_true hb
 ·rw [if_neg (by omega), if_neg (by omega), if_neg (by omega), if_neg (by omega), if_pos e] at hb
  unfold asB at hb
  rw [Bool.and_eq_true, Bool.and_eq_true, Bool.and_eq_true, List.all_eq_true] at hb
  intro t ht
  have := hb.1.1.2 t ht
  unfold itB at this
  rw [Bool.and_eq_true] at this
  exact of_decide_eq_true this.1
def cwR (c : Cmd) : List Tok × Int := if cmF c ≠ 0 then ([], cmF c) else if 100 < (cmT c).length then ([], 1) else (cmT c, 0)
set_option maxRecDepth 10000 in
set_option maxHeartbeats 2000000 in
theorem stmtShow_fn (c : Cmd) (h : c.ok) : FnG Tryd.prog 4 (gW) [.agg (.es (eCmd c))] (rKE (cwR c)) := by
 refine fn_introG (T := tab) tOk Tryd.func4 rfl (by kernel_rfl) (by simp [Tryd.ntmps4]) ?_
 intro X hX
 have hnt : X.nt = 26 := hX
 clear hX
 have f29 : 0 + 29 ≤ (Cs.es (eCmd c)).len := Nat.le_refl 29
 have h1 := stCheck_fn c h
 have hok := fun e => cm_ok h e
 unfold cwR
 generalize cmF c = e at *
 repeat' first | refine zzs ?_ | refine zzb ?_ | refine zzk ?_
 first | refine zzr hnt rfl ?_ ?_ | refine zzd hnt rfl ?_ ?_
 ·exact zza
 repeat' first | refine zzs ?_ | refine zzb ?_ | refine zzk ?_
 refine tr_region (zzx hnt rfl ?_ (callV rfl rfl rfl rfl rfl rfl rfl hnt rfl (h1) (zzx hnt rfl ?_ (Lex.nil _)))) ?_
 ·exact zza
 ·exact zza
 repeat' first | refine zzs ?_ | refine zzr hnt rfl ?_ ?_ | refine zzd hnt rfl ?_ ?_ | refine zzb ?_ | refine zzk ?_
 ·exact zzt
 repeat' first | refine zzs ?_ | refine zzb ?_ | refine zzk ?_
 refine tr_cond rfl (fun hc => ?_) (fun hc => ?_)
 ·simp only [zz1, zz2, zz3, zz4, zz5, zz6, zz7, zz8] at hc
  rw [if_pos hc]
  repeat' first | refine zzs ?_ | refine zzr hnt rfl ?_ ?_ | refine zzd hnt rfl ?_ ?_ | refine zzb ?_ | refine zzk ?_
  ·exact zzt
  exact tr_ret ⟨.inr rfl, _, _, rfl, zzp, rfl⟩
 simp only [zz1, zz2, zz3, zz4, zz5, zz6, zz7, zz8] at hc
 rw [if_neg (not_not_intro hc)]
 obtain ⟨hok, _⟩ := hok hc
 repeat' first | refine zzs ?_ | refine zzr hnt rfl ?_ ?_ | refine zzd hnt rfl ?_ ?_ | refine zzb ?_ | refine zzk ?_
 ·exact zzt
 refine tr_le (s' := St.of [(1, .one (.ptr 1 0 0)), (5, .one (.ptr 12 0 0)), ((1000000 + 4), .one (.eptr fsE)), ((1000000 + 5), .one (.eptr acE)), ((1000000 + 3), .one (.eptr spE))] [(1, ⟨0, .box (.es (eCmd c)), 0⟩), (12, ⟨0, .box (.ds [.own 3000 0]), 0⟩), (3000, ⟨0, .row 4 (([] : List Tok).map eTok), 0⟩)]) (le_of (ad := [3000]) ⟨zzl, zzl, zzl, zzl, zzl, trivial⟩ (memOk_box rfl rfl rfl (memOk_box rfl rfl zzi (memOk_new rfl (by decide) trivial)))) ?_
 have h2 := command_fn [] c hok (by simp)
 repeat' first | refine zzs ?_ | refine zzb ?_ | refine zzk ?_
 refine tr_region (zzx hnt rfl ?_ (callH (us := []) [(900000, 12)] [(900001, 3000)] [(900001, 3000)] rfl rfl rfl rfl (h2) (by repeat' first | exact .nil | refine .lent rfl rfl rfl ?_ | refine .data rfl ?_) (fun _ => rfl) rfl rfl hnt rfl rfl zzi zzi (zzx hnt rfl ?_ (Lex.nil _)))) ?_
 ·exact zza
 ·exact zza
 have hz : ([] : List Tok) ++ cmT c = cmT c := rfl
 rw [hz]
 have hml : ((cmT c).map eTok).length = (cmT c).length := List.length_map ..
 repeat' first | refine zzs ?_ | refine zzr hnt rfl ?_ ?_ | refine zzd hnt rfl ?_ ?_ | refine zzb ?_ | refine zzk ?_
 ·exact zzt
 repeat' first | refine zzs ?_ | refine zzb ?_ | refine zzk ?_
 refine tr_cond rfl (fun hc => ?_) (fun hc => ?_)
 ·simp only [zz1, zz2, zz3, zz4, zz5, zz6, zz7, zz8] at hc
  (try simp only [hml] at hc)
  (try simp only [zz1, zz2, zz3, zz4, zz5, zz6, zz7, zz8] at hc)
  rw [if_pos (by omega)]
  repeat' first | refine zzs ?_ | refine zzr hnt rfl ?_ ?_ | refine zzd hnt rfl ?_ ?_ | refine zzb ?_ | refine zzk ?_
  ·exact zzt
  exact tr_ret ⟨.inr rfl, _, _, rfl, zzp, rfl⟩
 simp only [zz1, zz2, zz3, zz4, zz5, zz6, zz7, zz8] at hc
 (try simp only [hml] at hc)
 (try simp only [zz1, zz2, zz3, zz4, zz5, zz6, zz7, zz8] at hc)
 rw [if_neg (by omega)]
 repeat' first | refine zzs ?_ | refine zzr hnt rfl ?_ ?_ | refine zzd hnt rfl ?_ ?_ | refine zzb ?_ | refine zzk ?_
 ·exact zzt
 exact tr_ret ⟨.inr rfl, _, _, rfl, zzp, rfl⟩
end Go.Proofs.YtjabmeffgbaglaaDoor
