/- The document's Deleted. No condition. -/
import Derived.Test.YthnadkafegmacaaGreatDoorTDlA
namespace Go.Proofs.YthnadkafegmacaaGreatDoor
open Go Go.RowKit Go.Proofs.YthnadkafegmacaaGreatDoor.Ab
set_option linter.unusedSimpArgs false
set_option linter.unusedVariables false

theorem putT_drw {t : Tbl} {i j : Nat} (hi : i < t.d.length) (x : Cel) : (putT t i j x).d.getD i [] = (t.d.getD i []).set j x := by
  show (t.d.set i _).getD i [] = _
  rw [List.getD_eq_getElem?_getD, List.getElem?_set_self hi]
  rfl
theorem drop_set_le {α : Type} {l : List α} {j k : Nat} {x : α} (h : j < k) : (l.set j x).drop k = l.drop k := by
  apply List.ext_getElem?
  intro i
  rw [List.getElem?_drop, List.getElem?_drop, List.getElem?_set_ne (by omega)]
theorem drop_get {α : Type} {l r : List α} {j : Nat} {z : α} (h : l.drop j = r.drop j) : l.getD j z = r.getD j z ∧ l.drop (j + 1) = r.drop (j + 1) := by
  constructor
  · have h0 := congrArg (fun q : List α => q[0]?) h
    simp only [List.getElem?_drop] at h0
    rw [List.getD_eq_getElem?_getD, List.getD_eq_getElem?_getD]
    exact congrArg (fun q : Option α => q.getD z) h0
  · have h1 := congrArg (List.drop 1) h
    rw [List.drop_drop, List.drop_drop] at h1
    exact h1
set_option maxRecDepth 10000 in
set_option maxHeartbeats 2000000 in
theorem Deleted_fn (t : Tbl) (i : Int) (x : Ex) (h : t.ok) (hx : exOk x) : FnG Tryz.prog 14 gK [.agg (.es (eTab t)), .one (.e (eI i)), .agg (.es (eEx x))] (rTn (delF t i x)) := by
  refine fn_introG (T := tab) tOk Tryz.func14 rfl (by kernel_rfl) (by simp [Tryz.ntmps14]) ?_
  intro X hX
  have hnt : X.nt = 64 := hX
  clear hX
  have h19 := tabLen h
  have f19 : 0 + 19 ≤ (Cs.es (eTab t)).len := by show 0 + 19 ≤ (eTab t).length; omega
  have h7 : 0 + 7 ≤ (Cs.es (eEx x)).len := by have := ex7 x; show 0 + 7 ≤ (eEx x).length; omega
  have e7 : (Cs.es (eEx x)).len = 7 := ex7 x
  have h1 := ready_fn t i h
  have h2 := conditionFault_fn x t.c hx h.cs
  have hbg := fun hb => bg_in (t := t) (i := i) hb
  have hap : List.take 0 (eTab t) ++ eTab t ++ List.drop (0 + 19) (eTab t) = eTab t := by
    rw [List.drop_eq_nil_of_le (by omega)]
    simp
  rw [← exAll x] at h2
  unfold delF
  rw [← tabAll h] at h1
  generalize bgE t i = e at *
  repeat' first | refine zzs ?_ | refine zzr hnt rfl ?_ ?_ | refine zzd hnt rfl ?_ ?_ | refine zzb ?_ | refine zzk ?_
  · exact zzt
  repeat' first | refine zzs ?_ | refine zzb ?_ | refine zzk ?_
  refine tr_region (zzx hnt rfl ?_ (callV rfl rfl rfl rfl rfl rfl rfl hnt rfl (h1) (zzx hnt rfl ?_ (Lex.nil _)))) ?_
  · exact zza
  · exact zza
  repeat' first | refine zzs ?_ | refine zzr hnt rfl ?_ ?_ | refine zzd hnt rfl ?_ ?_ | refine zzb ?_ | refine zzk ?_
  · exact zzt
  by_cases he : e = 0
  case neg =>
    rw [if_pos he]
    repeat' first | refine zzs ?_ | refine zzb ?_ | refine zzk ?_
    refine tr_cond rfl (fun hc => ?_) (fun hc => ?_)
    · exact absurd (of_decide_eq_true hc) he
    repeat' first | refine zzs ?_ | refine zzr hnt rfl ?_ ?_ | refine zzd hnt rfl ?_ ?_ | refine zzb ?_ | refine zzk ?_
    · exact zzt
    repeat' first | refine zzs ?_ | refine zzb ?_ | refine zzk ?_
    refine tr_cond rfl (fun hc => ?_) (fun hc => ?_)
    · repeat' first | refine zzs ?_ | refine zzr hnt rfl ?_ ?_ | refine zzd hnt rfl ?_ ?_ | refine zzb ?_ | refine zzk ?_
      · exact zzt
      repeat' first | refine zzs ?_ | refine zzb ?_ | refine zzk ?_
      refine tr_ret ⟨.inr rfl, _, _, rfl, zzp, ?_⟩
      exact rfl
    simp only [zz1, zz2, zz3, zz4, zz5, zz6, zz7, zz8] at hc
    exact absurd hc he
  rw [if_neg (not_not_intro he)]
  obtain ⟨ht, i0, i2⟩ := hbg he
  obtain ⟨p1, p2, p3, p4, p5⟩ := tabF_parts ht
  repeat' first | refine zzs ?_ | refine zzb ?_ | refine zzk ?_
  refine tr_cond rfl (fun hc => ?_) (fun hc => ?_)
  rotate_left
  · exact absurd he (of_decide_eq_false hc)
  clear hc
  repeat' first | refine zzs ?_ | refine zzb ?_ | refine zzk ?_
  refine tr_region (zzx hnt rfl ?_ (callV rfl rfl rfl rfl rfl rfl rfl hnt rfl (h2) (zzx hnt rfl ?_ (Lex.nil _)))) ?_
  · exact zza
  · exact zza
  repeat' first | refine zzs ?_ | refine zzr hnt rfl ?_ ?_ | refine zzd hnt rfl ?_ ?_ | refine zzb ?_ | refine zzk ?_
  · exact zzt
  repeat' first | refine zzs ?_ | refine zzb ?_ | refine zzk ?_
  refine tr_cond rfl (fun hc => ?_) (fun hc => ?_)
  · simp only [zz1, zz2, zz3, zz4, zz5, zz6, zz7, zz8] at hc
    rw [if_pos hc]
    repeat' first | refine zzs ?_ | refine zzr hnt rfl ?_ ?_ | refine zzd hnt rfl ?_ ?_ | refine zzb ?_ | refine zzk ?_
    · exact zzt
    repeat' first | refine zzs ?_ | refine zzb ?_ | refine zzk ?_
    refine tr_ret ⟨.inr rfl, _, _, rfl, zzp, ?_⟩
    exact rfl
  simp only [zz1, zz2, zz3, zz4, zz5, zz6, zz7, zz8] at hc
  rw [if_neg (not_not_intro hc)]
  clear h1 h2 hbg he
  obtain ⟨m, rfl⟩ : ∃ m : Nat, i = m := ⟨i.toNat, by omega⟩
  rw [Int.toNat_natCast]
  have hmd : m < t.d.length := by rw [h.h2]; omega
  have hm := memD (d := []) hmd
  have h4 := h.h4 _ hm
  have hg : List.take 8 (List.drop (0 + 3 + (m : Int).toNat * 8) (eTab t)) = eDr (t.d.getD m []) := tabDrw h (by omega)
  have l8 : 0 + 3 + (m : Int).toNat * 8 + 8 ≤ (Cs.es (eTab t)).len := by show 0 + 3 + m * 8 + 8 ≤ (eTab t).length; omega
  have e8 : (Cs.es (List.take 8 (List.drop (0 + 3 + (m : Int).toNat * 8) (eTab t)))).len = 8 := by rw [hg]; exact drLen _ h4
  have hd8 := drLen _ h4
  repeat' first | refine zzs ?_ | refine zzb ?_ | refine zzk ?_
  first | refine zzr hnt rfl ?_ ?_ | refine zzd hnt rfl ?_ ?_
  · exact zzt
  repeat' first | refine zzs ?_ | refine zzb ?_ | refine zzk ?_
  first | refine zzr hnt rfl ?_ ?_ | refine zzd hnt rfl ?_ ?_
  · exact zza
  rw [hg]
  generalize hdd : t.d.getD m [] = d at *
  repeat' first | refine zzs ?_ | refine zzb ?_ | refine zzk ?_
  refine tr_loop (σ := Nat × Tbl × Int) (fun y => St.of [(1, .one (.e (eI (m : Int)))), (3, .one (.ptr 3 0 0)), (5, .one (.ptr 5 0 0)), (6, .one (.ptr 6 0 0)), (10, .one (.e (eI y.2.2))), (31, .agg (.es (eDr d))), (32, .one (.e (eI (y.1 : Int)))), ((1000000 + 5), .one (.eptr fsE)), ((1000000 + 6), .one (.eptr acE))] [(3, ⟨0, .box (.es (eTab y.2.1)), 0⟩), (5, ⟨0, .box (.es (eEx x)), 0⟩), (6, ⟨0, .box (.es (eTab tz)), 0⟩)]) (fun y => dlW x m (4 - y.1) y.1 y.2.1 y.2.2 = dlW x m 4 0 t 0 ∧ y.2.1.ok ∧ y.1 ≤ 4 ∧ 0 ≤ y.2.2 ∧ y.2.2 ≤ y.1 ∧ (y.2.1.d.getD m []).drop y.1 = d.drop y.1) (fun y => 4 - y.1) ((0, t, 0)) (le_of (ad := []) ⟨zzl, zzl, zzl, zzl, zzl, zzl, zzl, zzl, zzl, trivial⟩ (memOk_box rfl rfl rfl (memOk_box rfl rfl rfl (memOk_box rfl rfl (by repeat' first | exact trivial | exact rfl | apply And.intro) trivial)))) ⟨rfl, h, Nat.zero_le _, Int.le_refl _, Int.le_refl _, by dsimp only; rw [hdd]⟩ ?_
  rintro ⟨j, t', n⟩ ⟨hW, hok, jl, n0, nj, hdr⟩
  dsimp only at hW hok jl n0 nj hdr ⊢
  have h19' := tabLen hok
  have f19' : 0 + 19 ≤ (Cs.es (eTab t')).len := by show 0 + 19 ≤ (eTab t').length; omega
  repeat' first | refine zzs ?_ | refine zzr hnt rfl ?_ ?_ | refine zzd hnt rfl ?_ ?_ | refine zzb ?_ | refine zzk ?_
  · exact zzt
  repeat' first | refine zzs ?_ | refine zzb ?_ | refine zzk ?_
  refine tr_cond rfl (fun hc => ?_) (fun hc => ?_)
  · simp only [zz1, zz2, zz3, zz4, zz5, zz6, zz7, zz8] at hc
    have hj4 : j < 4 := by omega
    have hcl := tabCel hok (i := m) (j := j) (by omega) hj4
    have hfv : ∀ v ∈ ((t'.d.getD m []).getD j cel0).r, v.fit := by
      have hm := memD (d := []) (l := t'.d) (i := m) (by rw [hok.h2]; omega)
      exact hok.vs _ hm _ (memD (d := cel0) (by rw [hok.h4 _ hm]; exact hj4))
    have hstep : dlW x m (4 - j) j t' n = dlW x m ((4 - (j + 1)) + 1) j t' n := by rw [show 4 - j = (4 - (j + 1)) + 1 by omega]
    rw [hstep, dlW] at hW
    have hput : List.take (0 + 3 + (m : Int).toNat * 8 + (j : Int).toNat * 2) (eTab t') ++ [E.v (.bool false), E.sl []] ++ List.drop (0 + 3 + (m : Int).toNat * 8 + (j : Int).toNat * 2 + 2) (eTab t') = eTab (putT t' m j cel0) := tabPut hok (i := m) (j := j) (by omega) hj4 cel0
    have hok2 := putT_ok (j := j) hok (show m < 2 by omega) cel0 (fun v hv => nomatch hv)
    have l2 : 0 + 3 + (m : Int).toNat * 8 + (j : Int).toNat * 2 + 2 ≤ (Cs.es (eTab t')).len := by show 0 + 3 + m * 8 + j * 2 + 2 ≤ (eTab t').length; omega
    obtain ⟨hge, hdr2⟩ := drop_get (z := cel0) hdr
    have hjt : j < d.length := by omega
    have hg2 : List.take 2 (List.drop ((j : Int).toNat * 2) (eDr d)) = eCel (d.getD j cel0) := flatGet eCel 2 cel0 (fun _ => rfl) d j hjt
    have e2 : (Cs.es (List.take 2 (List.drop ((j : Int).toNat * 2) (eDr d)))).len = 2 := congrArg List.length hg2
    have l2d : j * 2 + 2 ≤ (Cs.es (eDr d)).len := by show _ ≤ (eDr d).length; omega
    have hpd : ((putT t' m j cel0).d.getD m []).drop (j + 1) = d.drop (j + 1) := by rw [putT_drw (by rw [hok.h2]; omega), drop_set_le (Nat.lt_succ_self j)]; exact hdr2
    have hH := True_fn x t'.c ((t'.d.getD m []).getD j cel0).r hx hok.cs (fun v hv => (hfv v hv).1)
    rw [hge] at hH hW hfv
    repeat' first | refine zzs ?_ | refine zzb ?_ | refine zzk ?_
    first | refine zzr hnt rfl ?_ ?_ | refine zzd hnt rfl ?_ ?_
    · exact zza
    rw [hg2]
    generalize d.getD j cel0 = c at *
    obtain ⟨cf, cr⟩ := c
    dsimp only at hH hfv hW
    repeat' first | refine zzs ?_ | refine zzb ?_ | refine zzk ?_
    first | refine zzr hnt rfl ?_ ?_ | refine zzd hnt rfl ?_ ?_
    · exact zza
    repeat' first | refine zzs ?_ | refine zzb ?_ | refine zzk ?_
    refine tr_cond rfl (fun hc => ?_) (fun hc => ?_)
    · have hcf : (!cf) = true := hc
      rw [if_pos (by simpa using hcf)] at hW
      refine tr_exit ?_
      repeat' first | refine zzs ?_ | refine zzr hnt rfl ?_ ?_ | refine zzd hnt rfl ?_ ?_ | refine zzb ?_ | refine zzk ?_
      · exact zzt
      refine ⟨(j + 1, t', n), ⟨hW, hok, by dsimp only; omega, n0, by dsimp only; omega, hdr2⟩, by dsimp only; omega, le_of (ad := []) ⟨zzl, zzl, zzl, zzl, zzl, zzl, zzl, zzl, zzl, trivial⟩ (memOk_box rfl rfl rfl (memOk_box rfl rfl rfl (memOk_box rfl rfl rfl trivial)))⟩
    have hcf : (!cf) = false := hc
    rw [if_neg (by simpa using hcf)] at hW
    rw [← exAll x] at hH
    generalize hdF x t'.c cr = r at *
    obtain ⟨yes, e1⟩ := r
    dsimp only at hW
    repeat' first | refine zzs ?_ | refine zzb ?_ | refine zzk ?_
    refine tr_region (zzx hnt rfl ?_ (callV rfl rfl rfl rfl rfl rfl rfl hnt rfl (hH) (zzx hnt rfl ?_ (Lex.nil _)))) ?_
    · exact zza
    · exact zza
    repeat' first | refine zzs ?_ | refine zzr hnt rfl ?_ ?_ | refine zzd hnt rfl ?_ ?_ | refine zzb ?_ | refine zzk ?_
    · exact zzt
    repeat' first | refine zzs ?_ | refine zzb ?_ | refine zzk ?_
    refine tr_cond rfl (fun hc => ?_) (fun hc => ?_)
    · simp only [zz1, zz2, zz3, zz4, zz5, zz6, zz7, zz8] at hc
      rw [if_pos hc] at hW
      rw [← hW]
      repeat' first | refine zzs ?_ | refine zzr hnt rfl ?_ ?_ | refine zzd hnt rfl ?_ ?_ | refine zzb ?_ | refine zzk ?_
      · exact zzt
      repeat' first | refine zzs ?_ | refine zzb ?_ | refine zzk ?_
      refine tr_ret ⟨.inr rfl, _, _, rfl, zzp, ?_⟩
      exact rfl
    simp only [zz1, zz2, zz3, zz4, zz5, zz6, zz7, zz8] at hc
    rw [if_neg (not_not_intro hc)] at hW
    repeat' first | refine zzs ?_ | refine zzr hnt rfl ?_ ?_ | refine zzd hnt rfl ?_ ?_ | refine zzb ?_ | refine zzk ?_
    · exact zzt
    repeat' first | refine zzs ?_ | refine zzb ?_ | refine zzk ?_
    refine tr_cond rfl (fun hc => ?_) (fun hc => ?_)
    · simp only [zz1, zz2, zz3, zz4, zz5, zz6, zz7, zz8] at hc
      rw [if_pos hc] at hW
      repeat' first | refine zzs ?_ | refine zzb ?_ | refine zzk ?_
      first | refine zzr hnt rfl ?_ ?_ | refine zzd hnt rfl ?_ ?_
      · exact zzt
      repeat' first | refine zzs ?_ | refine zzb ?_ | refine zzk ?_
      refine tr_region (lexCut 6 (zzx hnt rfl ?_ (Lex.nil _)) (le_of (ad := []) (ts := [(1, .one (.e (eI (m : Int)))), (3, .one (.ptr 3 0 0)), (5, .one (.ptr 5 0 0)), (6, .one (.ptr 6 0 0)), (10, .one (.e (eI (n + 1)))), (31, .agg (.es (eDr d))), (32, .one (.e (eI (j : Int)))), (57, .agg (.es [E.v (.bool false), E.sl []])), (60, .one (.ptr 3 0 (0 + 3 + (m : Int).toNat * 8 + (j : Int).toNat * 2))), ((1000000 + 5), .one (.eptr fsE)), ((1000000 + 6), .one (.eptr acE))]) (ms := [(3, ⟨0, .box (.es (eTab t')), 0⟩), (5, ⟨0, .box (.es (eEx x)), 0⟩), (6, ⟨0, .box (.es (eTab tz)), 0⟩)]) (by refine ⟨?_, ?_, ?_, ?_, ?_, ?_, ?_, ?_, ?_, ?_, ?_, trivial⟩ <;> first | exact trivial | rfl | exact ⟨rfl, rfl⟩ | exact ⟨rfl, rfl, rfl⟩ | exact ⟨rfl, rfl, rfl, rfl⟩ | exact ⟨rfl, rfl, rfl, rfl, rfl⟩ | exact congrArg (fun z : Int => E.v (.int .i64 z)) (wrap64_id (n := n + 1) (by omega) (by omega)) | (repeat' first | exact trivial | rfl | apply And.intro)) (memOk_box rfl rfl rfl (memOk_box rfl rfl rfl (memOk_box rfl rfl rfl trivial)))) rfl (zzx hnt rfl ?_ (Lex.nil _))) ?_
      · exact zza
      · exact zza
      rw [hput]
      repeat' first | refine zzs ?_ | refine zzr hnt rfl ?_ ?_ | refine zzd hnt rfl ?_ ?_ | refine zzb ?_ | refine zzk ?_
      · exact zzt
      refine ⟨(j + 1, putT t' m j cel0, n + 1), ⟨hW, hok2, by dsimp only; omega, by dsimp only; omega, by dsimp only; omega, hpd⟩, by dsimp only; omega, le_of (ad := []) ⟨zzl, zzl, zzl, zzl, zzl, zzl, zzl, zzl, zzl, trivial⟩ (memOk_box rfl rfl rfl (memOk_box rfl rfl rfl (memOk_box rfl rfl rfl trivial)))⟩
    simp only [zz1, zz2, zz3, zz4, zz5, zz6, zz7, zz8] at hc
    rw [if_neg (by rw [hc]; exact Bool.noConfusion)] at hW
    repeat' first | refine zzs ?_ | refine zzr hnt rfl ?_ ?_ | refine zzd hnt rfl ?_ ?_ | refine zzb ?_ | refine zzk ?_
    · exact zzt
    refine ⟨(j + 1, t', n), ⟨hW, hok, by dsimp only; omega, n0, by dsimp only; omega, hdr2⟩, by dsimp only; omega, le_of (ad := []) ⟨zzl, zzl, zzl, zzl, zzl, zzl, zzl, zzl, zzl, trivial⟩ (memOk_box rfl rfl rfl (memOk_box rfl rfl rfl (memOk_box rfl rfl rfl trivial)))⟩
  · simp only [zz1, zz2, zz3, zz4, zz5, zz6, zz7, zz8] at hc
    have hj : j = 4 := by omega
    subst hj
    have hW : (t', n, (0 : Int)) = dlW x m 4 0 t 0 := hW
    rw [← hW]
    have e19' : (Cs.es (List.take 19 (List.drop 0 (eTab t')))).len = 19 := by rw [tabAll hok]; exact h19'
    refine tr_exit ?_
    repeat' first | refine zzs ?_ | refine zzb ?_ | refine zzk ?_
    first | refine zzr hnt rfl ?_ ?_ | refine zzd hnt rfl ?_ ?_
    · exact zza
    rw [tabAll hok, tzPut]
    repeat' first | refine zzs ?_ | refine zzb ?_ | refine zzk ?_
    refine tr_ret ⟨.inr rfl, _, _, rfl, ?_, ?_⟩
    · exact zza
    rw [tabAll hok]
    rfl
end Go.Proofs.YthnadkafegmacaaGreatDoor
