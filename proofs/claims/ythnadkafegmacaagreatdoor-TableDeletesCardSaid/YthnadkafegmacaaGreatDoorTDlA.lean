/- table.Delete and the document's Deleted. No condition. -/
import Derived.Test.YthnadkafegmacaaGreatDoorTTj
import Derived.Test.YthnadkafegmacaaGreatDoorTTha
namespace Go.Proofs.YthnadkafegmacaaGreatDoor
open Go Go.RowKit Go.Proofs.YthnadkafegmacaaGreatDoor.Ab
set_option linter.unusedSimpArgs false
set_option linter.unusedVariables false

def dlW (x : Ex) (m : Nat) : Nat → Nat → Tbl → Int → Tbl × Int × Int
  | 0, _, t, n => (t, n, 0)
  | f + 1, j, t, n =>
    if ((t.d.getD m []).getD j cel0).f = false then dlW x m f (j + 1) t n
    else if (hdF x t.c ((t.d.getD m []).getD j cel0).r).2 ≠ 0 then (tz, 0, (hdF x t.c ((t.d.getD m []).getD j cel0).r).2)
    else if (hdF x t.c ((t.d.getD m []).getD j cel0).r).1 = true then dlW x m f (j + 1) (putT t m j cel0) (n + 1)
    else dlW x m f (j + 1) t n
def delF (t : Tbl) (i : Int) (x : Ex) : Tbl × Int × Int :=
  if bgE t i ≠ 0 then (tz, 0, bgE t i) else if cdF x t.c ≠ 0 then (tz, 0, cdF x t.c) else dlW x i.toNat 4 0 t 0
def rTn (r : Tbl × Int × Int) : D := .tup [(true, .es (eTab r.1)), (false, .es [eI r.2.1]), (false, .es [eI r.2.2])]
theorem take2_get {l : List E} {k : Nat} {a b : E} (h : List.take 2 (List.drop k l) = [a, b]) : l.getD k E.dflt = a ∧ l.getD (k + 1) E.dflt = b := by
  have h0 := congrArg (fun z : List E => z[0]?) h
  have h1 := congrArg (fun z : List E => z[1]?) h
  simp only [List.getElem?_take, List.getElem?_drop] at h0 h1
  rw [List.getD_eq_getElem?_getD, List.getD_eq_getElem?_getD]
  exact ⟨by rw [show l[k]? = some a from h0]; rfl, by rw [show l[k + 1]? = some b from h1]; rfl⟩
theorem bg_in {t : Tbl} {i : Int} (hb : bgE t i = 0) : tabF t = 0 ∧ 0 ≤ i ∧ i < 2 := by
  unfold bgE at hb
  split at hb
  · contradiction
  · rename_i h0
    split at hb
    · exact absurd hb (by decide)
    · exact ⟨Classical.not_not.1 h0, by omega, by omega⟩
set_option maxRecDepth 10000 in
set_option maxHeartbeats 2000000 in
theorem Delete_fn (t : Tbl) (i : Int) (x : Ex) (h : t.ok) (hx : exOk x) : FnG Tryz.prog 13 gK [.agg (.es (eTab t)), .one (.e (eI i)), .agg (.es (eEx x))] (rTn (delF t i x)) := by
  refine fn_introG (T := tab) tOk Tryz.func13 rfl (by kernel_rfl) (by simp [Tryz.ntmps13]) ?_
  intro X hX
  have hnt : X.nt = 68 := hX
  clear hX
  have h19 := tabLen h
  have f19 : 0 + 19 ≤ (Cs.es (eTab t)).len := by show 0 + 19 ≤ (eTab t).length; omega
  have h7 : 0 + 7 ≤ (Cs.es (eEx x)).len := by have := ex7 x; show 0 + 7 ≤ (eEx x).length; omega
  have e7 : (Cs.es (eEx x)).len = 7 := ex7 x
  have h1 := begun_fn t i h
  have h2 := Condition_fn x t.c hx h.cs
  have hbg := fun hb => bg_in (t := t) (i := i) hb
  have hap : List.take 0 (eTab t) ++ eTab t ++ List.drop (0 + 19) (eTab t) = eTab t := by
    rw [List.drop_eq_nil_of_le (by omega)]
    simp
  rw [← exAll x] at h2
  unfold delF
  rw [← tabAll h] at h1
  generalize bgE t i = e at *
  repeat' first | refine zzs ?_ | refine zzr hnt rfl ?_ ?_ | refine zzd hnt rfl ?_ ?_ | refine zzb ?_ | refine zzk ?_
  · exact zzt
  by_cases he : e = 0
  case neg =>
    rw [if_pos he]
    rw [if_neg he] at h1
    repeat' first | refine zzs ?_ | refine zzb ?_ | refine zzk ?_
    refine tr_region (zzx hnt rfl ?_ (callV rfl rfl rfl rfl rfl rfl rfl hnt rfl (h1) (zzx hnt rfl ?_ (Lex.nil _)))) ?_
    · exact zza
    · exact zza
    repeat' first | refine zzs ?_ | refine zzr hnt rfl ?_ ?_ | refine zzd hnt rfl ?_ ?_ | refine zzb ?_ | refine zzk ?_
    · exact zzt
    repeat' first | refine zzs ?_ | refine zzb ?_ | refine zzk ?_
    refine tr_cond rfl (fun hc => ?_) (fun hc => ?_)
    · exact absurd (of_decide_eq_true hc) he
    repeat' first | refine zzs ?_ | refine zzr hnt rfl ?_ ?_ | refine zzd hnt rfl ?_ ?_ | refine zzb ?_ | refine zzk ?_
    · exact zzt
    repeat' first | refine zzs ?_ | refine zzb ?_ | refine zzk ?_
    refine tr_cond rfl (fun hc => ?_) (fun hc => ?_)
    · repeat' first | refine zzs ?_ | refine zzr hnt rfl ?_ ?_ | refine zzd hnt rfl ?_ ?_ | refine zzb ?_ | refine zzk ?_
      · exact zzt
      repeat' first | refine zzs ?_ | refine zzb ?_ | refine zzk ?_
      refine tr_ret ⟨.inr rfl, _, _, rfl, zzp, ?_⟩
      exact rfl
    simp only [zz1, zz2, zz3, zz4, zz5, zz6, zz7, zz8] at hc
    exact absurd hc he
  rw [if_neg (not_not_intro he)]
  rw [if_pos he] at h1
  obtain ⟨ht, i0, i2⟩ := hbg he
  obtain ⟨p1, p2, p3, p4, p5⟩ := tabF_parts ht
  repeat' first | refine zzs ?_ | refine zzb ?_ | refine zzk ?_
  refine tr_region (zzx hnt rfl ?_ (callV rfl rfl rfl rfl rfl rfl rfl hnt rfl (h1) (zzx hnt rfl ?_ (Lex.nil _)))) ?_
  · exact zza
  · exact zza
  rw [hap]
  repeat' first | refine zzs ?_ | refine zzr hnt rfl ?_ ?_ | refine zzd hnt rfl ?_ ?_ | refine zzb ?_ | refine zzk ?_
  · exact zzt
  repeat' first | refine zzs ?_ | refine zzb ?_ | refine zzk ?_
  refine tr_cond rfl (fun hc => ?_) (fun hc => ?_)
  rotate_left
  · exact absurd he (of_decide_eq_false hc)
  clear hc
  repeat' first | refine zzs ?_ | refine zzb ?_ | refine zzk ?_
  refine tr_region (zzx hnt rfl ?_ (callV rfl rfl rfl rfl rfl rfl rfl hnt rfl (h2) (zzx hnt rfl ?_ (Lex.nil _)))) ?_
  · exact zza
  · exact zza
  repeat' first | refine zzs ?_ | refine zzr hnt rfl ?_ ?_ | refine zzd hnt rfl ?_ ?_ | refine zzb ?_ | refine zzk ?_
  · exact zzt
  repeat' first | refine zzs ?_ | refine zzb ?_ | refine zzk ?_
  refine tr_cond rfl (fun hc => ?_) (fun hc => ?_)
  · simp only [zz1, zz2, zz3, zz4, zz5, zz6, zz7, zz8] at hc
    rw [if_pos hc]
    repeat' first | refine zzs ?_ | refine zzr hnt rfl ?_ ?_ | refine zzd hnt rfl ?_ ?_ | refine zzb ?_ | refine zzk ?_
    · exact zzt
    repeat' first | refine zzs ?_ | refine zzb ?_ | refine zzk ?_
    refine tr_ret ⟨.inr rfl, _, _, rfl, zzp, ?_⟩
    exact rfl
  simp only [zz1, zz2, zz3, zz4, zz5, zz6, zz7, zz8] at hc
  rw [if_neg (not_not_intro hc)]
  clear h1 h2 hbg he
  obtain ⟨m, rfl⟩ : ∃ m : Nat, i = m := ⟨i.toNat, by omega⟩
  rw [Int.toNat_natCast]
  repeat' first | refine zzs ?_ | refine zzr hnt rfl ?_ ?_ | refine zzd hnt rfl ?_ ?_ | refine zzb ?_ | refine zzk ?_
  · exact zzt
  · exact zzt
  repeat' first | refine zzs ?_ | refine zzb ?_ | refine zzk ?_
  refine tr_loop (σ := Nat × Tbl × Int) (fun y => St.of [(1, .one (.e (eI (m : Int)))), (3, .one (.ptr 3 0 0)), (5, .one (.ptr 5 0 0)), (6, .one (.ptr 6 0 0)), (10, .one (.e (eI y.2.2))), (31, .one (.e (eI (y.1 : Int)))), ((1000000 + 5), .one (.eptr fsE)), ((1000000 + 6), .one (.eptr acE))] [(3, ⟨0, .box (.es (eTab y.2.1)), 0⟩), (5, ⟨0, .box (.es (eEx x)), 0⟩), (6, ⟨0, .box (.es (eTab tz)), 0⟩)]) (fun y => dlW x m (4 - y.1) y.1 y.2.1 y.2.2 = dlW x m 4 0 t 0 ∧ y.2.1.ok ∧ y.1 ≤ 4 ∧ 0 ≤ y.2.2 ∧ y.2.2 ≤ y.1) (fun y => 4 - y.1) ((0, t, 0)) (le_of (ad := []) ⟨zzl, zzl, zzl, zzl, zzl, zzl, zzl, zzl, trivial⟩ (memOk_box rfl rfl rfl (memOk_box rfl rfl rfl (memOk_box rfl rfl (by repeat' first | exact trivial | exact rfl | apply And.intro) trivial)))) ⟨rfl, h, Nat.zero_le _, Int.le_refl _, Int.le_refl _⟩ ?_
  rintro ⟨j, t', n⟩ ⟨hW, hok, jl, n0, nj⟩
  dsimp only at hW hok jl n0 nj ⊢
  have h19' := tabLen hok
  have f19' : 0 + 19 ≤ (Cs.es (eTab t')).len := by show 0 + 19 ≤ (eTab t').length; omega
  repeat' first | refine zzs ?_ | refine zzr hnt rfl ?_ ?_ | refine zzd hnt rfl ?_ ?_ | refine zzb ?_ | refine zzk ?_
  · exact zzt
  repeat' first | refine zzs ?_ | refine zzb ?_ | refine zzk ?_
  refine tr_cond rfl (fun hc => ?_) (fun hc => ?_)
  · simp only [zz1, zz2, zz3, zz4, zz5, zz6, zz7, zz8] at hc
    have hj4 : j < 4 := by omega
    have hcl := tabCel hok (i := m) (j := j) (by omega) hj4
    have hfv : ∀ v ∈ ((t'.d.getD m []).getD j cel0).r, v.fit := by
      have hm := memD (d := []) (l := t'.d) (i := m) (by rw [hok.h2]; omega)
      exact hok.vs _ hm _ (memD (d := cel0) (by rw [hok.h4 _ hm]; exact hj4))
    have hstep : dlW x m (4 - j) j t' n = dlW x m ((4 - (j + 1)) + 1) j t' n := by rw [show 4 - j = (4 - (j + 1)) + 1 by omega]
    rw [hstep, dlW] at hW
    have hput : List.take (0 + 3 + (m : Int).toNat * 8 + (j : Int).toNat * 2) (eTab t') ++ [E.v (.bool false), E.sl []] ++ List.drop (0 + 3 + (m : Int).toNat * 8 + (j : Int).toNat * 2 + 2) (eTab t') = eTab (putT t' m j cel0) := tabPut hok (i := m) (j := j) (by omega) hj4 cel0
    have hok2 := putT_ok (j := j) hok (show m < 2 by omega) cel0 (fun v hv => nomatch hv)
    have l2 : 0 + 3 + (m : Int).toNat * 8 + (j : Int).toNat * 2 + 2 ≤ (Cs.es (eTab t')).len := by show 0 + 3 + m * 8 + j * 2 + 2 ≤ (eTab t').length; omega
    obtain ⟨g1, g2⟩ := take2_get hcl
    have hH := Holds_fn x t'.c ((t'.d.getD m []).getD j cel0).r hx hok.cs (fun v hv => (hfv v hv).1)
    generalize (t'.d.getD m []).getD j cel0 = c at *
    obtain ⟨cf, cr⟩ := c
    dsimp only at g1 g2 hH hfv hW
    have lb : 0 + 3 + (m : Int).toNat * 8 + (j : Int).toNat * 2 + 0 < (Cs.es (eTab t')).len := by show 0 + 3 + m * 8 + j * 2 + 0 < (eTab t').length; omega
    have ls : 0 + 3 + (m : Int).toNat * 8 + (j : Int).toNat * 2 + 1 < (Cs.es (eTab t')).len := by show 0 + 3 + m * 8 + j * 2 + 1 < (eTab t').length; omega
    have ib : D0.isA .bool ((Cs.es (eTab t')).at (0 + 3 + (m : Int).toNat * 8 + (j : Int).toNat * 2 + 0)) := by
      show D0.isA .bool (.e ((eTab t').getD (0 + 3 + m * 8 + j * 2) E.dflt))
      rw [g1]
      exact rfl
    have is : D0.isA (.slice 28) ((Cs.es (eTab t')).at (0 + 3 + (m : Int).toNat * 8 + (j : Int).toNat * 2 + 1)) := by
      show D0.isA (.slice 28) (.e ((eTab t').getD (0 + 3 + m * 8 + j * 2 + 1) E.dflt))
      rw [g2]
      exact rfl
    repeat' first | refine zzs ?_ | refine zzb ?_ | refine zzk ?_
    first | refine zzr hnt rfl ?_ ?_ | refine zzd hnt rfl ?_ ?_
    · exact zza
    repeat' first | refine zzs ?_ | refine zzb ?_ | refine zzk ?_
    first | refine zzr hnt rfl ?_ ?_ | refine zzd hnt rfl ?_ ?_
    · exact zza
    repeat' first | refine zzs ?_ | refine zzb ?_ | refine zzk ?_
    first | refine zzr hnt rfl ?_ ?_ | refine zzd hnt rfl ?_ ?_
    · exact zza
    have gb : (!((eTab t').getD (0 + 3 + m * 8 + j * 2) E.dflt).bool) = !cf := by rw [g1]; rfl
    repeat' first | refine zzs ?_ | refine zzb ?_ | refine zzk ?_
    refine tr_cond rfl (fun hc => ?_) (fun hc => ?_)
    · have hcf : (!cf) = true := gb.symm.trans hc
      rw [if_pos (by simpa using hcf)] at hW
      refine tr_exit ?_
      repeat' first | refine zzs ?_ | refine zzr hnt rfl ?_ ?_ | refine zzd hnt rfl ?_ ?_ | refine zzb ?_ | refine zzk ?_
      · exact zzt
      refine ⟨(j + 1, t', n), ⟨hW, hok, by dsimp only; omega, n0, by dsimp only; omega⟩, by dsimp only; omega, le_of (ad := []) ⟨zzl, zzl, zzl, zzl, zzl, zzl, zzl, zzl, trivial⟩ (memOk_box rfl rfl rfl (memOk_box rfl rfl rfl (memOk_box rfl rfl rfl trivial)))⟩
    have hcf : (!cf) = false := gb.symm.trans hc
    rw [if_neg (by simpa using hcf)] at hW
    have g3 : eRow cr = .sl ((eTab t').getD (0 + 3 + (m : Int).toNat * 8 + (j : Int).toNat * 2 + 1) E.dflt).xs := by
      show eRow cr = .sl ((eTab t').getD (0 + 3 + m * 8 + j * 2 + 1) E.dflt).xs
      rw [g2]
      rfl
    rw [← exAll x, g3] at hH
    generalize hdF x t'.c cr = r at *
    obtain ⟨yes, e1⟩ := r
    dsimp only at hW
    repeat' first | refine zzs ?_ | refine zzb ?_ | refine zzk ?_
    refine tr_draw (T := tab) tOk hnt mixedR (lexD (T := tab) rfl ?_ (callVD rfl rfl rfl rfl rfl rfl rfl rfl rfl (hH) (lexD (T := tab) rfl ?_ (.nil _)))) (by first | decide +kernel | kernel_rfl) ?_
    · exact zza
    · exact zza
    repeat' first | refine zzs ?_ | refine zzr hnt rfl ?_ ?_ | refine zzd hnt rfl ?_ ?_ | refine zzb ?_ | refine zzk ?_
    · exact zzt
    repeat' first | refine zzs ?_ | refine zzb ?_ | refine zzk ?_
    refine tr_cond rfl (fun hc => ?_) (fun hc => ?_)
    · simp only [zz1, zz2, zz3, zz4, zz5, zz6, zz7, zz8] at hc
      rw [if_pos hc] at hW
      rw [← hW]
      repeat' first | refine zzs ?_ | refine zzr hnt rfl ?_ ?_ | refine zzd hnt rfl ?_ ?_ | refine zzb ?_ | refine zzk ?_
      · exact zzt
      repeat' first | refine zzs ?_ | refine zzb ?_ | refine zzk ?_
      refine tr_ret ⟨.inr rfl, _, _, rfl, zzp, ?_⟩
      exact rfl
    simp only [zz1, zz2, zz3, zz4, zz5, zz6, zz7, zz8] at hc
    rw [if_neg (not_not_intro hc)] at hW
    repeat' first | refine zzs ?_ | refine zzr hnt rfl ?_ ?_ | refine zzd hnt rfl ?_ ?_ | refine zzb ?_ | refine zzk ?_
    · exact zzt
    repeat' first | refine zzs ?_ | refine zzb ?_ | refine zzk ?_
    refine tr_cond rfl (fun hc => ?_) (fun hc => ?_)
    · simp only [zz1, zz2, zz3, zz4, zz5, zz6, zz7, zz8] at hc
      rw [if_pos hc] at hW
      repeat' first | refine zzs ?_ | refine zzb ?_ | refine zzk ?_
      first | refine zzr hnt rfl ?_ ?_ | refine zzd hnt rfl ?_ ?_
      · exact zzt
      repeat' first | refine zzs ?_ | refine zzb ?_ | refine zzk ?_
      refine tr_region (lexCut 3 (zzx hnt rfl ?_ (Lex.nil _)) (le_of (ad := []) (ts := [(1, .one (.e (eI (m : Int)))), (3, .one (.ptr 3 0 0)), (5, .one (.ptr 5 0 0)), (6, .one (.ptr 6 0 0)), (10, .one (.e (eI (n + 1)))), (31, .one (.e (eI (j : Int)))), (63, .agg (.es [E.v (.bool false), E.sl []])), (64, .one (.ptr 3 0 (0 + 3 + (m : Int).toNat * 8 + (j : Int).toNat * 2))), ((1000000 + 5), .one (.eptr fsE)), ((1000000 + 6), .one (.eptr acE))]) (ms := [(3, ⟨0, .box (.es (eTab t')), 0⟩), (5, ⟨0, .box (.es (eEx x)), 0⟩), (6, ⟨0, .box (.es (eTab tz)), 0⟩)]) (by refine ⟨?_, ?_, ?_, ?_, ?_, ?_, ?_, ?_, ?_, ?_, trivial⟩ <;> first | exact trivial | rfl | exact ⟨rfl, rfl⟩ | exact ⟨rfl, rfl, rfl⟩ | exact ⟨rfl, rfl, rfl, rfl⟩ | exact ⟨rfl, rfl, rfl, rfl, rfl⟩ | exact congrArg (fun z : Int => E.v (.int .i64 z)) (wrap64_id (n := n + 1) (by omega) (by omega)) | (repeat' first | exact trivial | rfl | apply And.intro)) (memOk_box rfl rfl rfl (memOk_box rfl rfl rfl (memOk_box rfl rfl rfl trivial)))) rfl (zzx hnt rfl ?_ (Lex.nil _))) ?_
      · exact zza
      · exact zza
      rw [hput]
      repeat' first | refine zzs ?_ | refine zzr hnt rfl ?_ ?_ | refine zzd hnt rfl ?_ ?_ | refine zzb ?_ | refine zzk ?_
      · exact zzt
      refine ⟨(j + 1, putT t' m j cel0, n + 1), ⟨hW, hok2, by dsimp only; omega, by dsimp only; omega, by dsimp only; omega⟩, by dsimp only; omega, le_of (ad := []) ⟨zzl, zzl, zzl, zzl, zzl, zzl, zzl, zzl, trivial⟩ (memOk_box rfl rfl rfl (memOk_box rfl rfl rfl (memOk_box rfl rfl rfl trivial)))⟩
    simp only [zz1, zz2, zz3, zz4, zz5, zz6, zz7, zz8] at hc
    rw [if_neg (by rw [hc]; exact Bool.noConfusion)] at hW
    repeat' first | refine zzs ?_ | refine zzr hnt rfl ?_ ?_ | refine zzd hnt rfl ?_ ?_ | refine zzb ?_ | refine zzk ?_
    · exact zzt
    refine ⟨(j + 1, t', n), ⟨hW, hok, by dsimp only; omega, n0, by dsimp only; omega⟩, by dsimp only; omega, le_of (ad := []) ⟨zzl, zzl, zzl, zzl, zzl, zzl, zzl, zzl, trivial⟩ (memOk_box rfl rfl rfl (memOk_box rfl rfl rfl (memOk_box rfl rfl rfl trivial)))⟩
  · simp only [zz1, zz2, zz3, zz4, zz5, zz6, zz7, zz8] at hc
    have hj : j = 4 := by omega
    subst hj
    have hW : (t', n, (0 : Int)) = dlW x m 4 0 t 0 := hW
    rw [← hW]
    have e19' : (Cs.es (List.take 19 (List.drop 0 (eTab t')))).len = 19 := by rw [tabAll hok]; exact h19'
    refine tr_exit ?_
    repeat' first | refine zzs ?_ | refine zzb ?_ | refine zzk ?_
    first | refine zzr hnt rfl ?_ ?_ | refine zzd hnt rfl ?_ ?_
    · exact zza
    rw [tabAll hok, tzPut]
    repeat' first | refine zzs ?_ | refine zzb ?_ | refine zzk ?_
    refine tr_ret ⟨.inr rfl, _, _, rfl, ?_, ?_⟩
    · exact zza
    rw [tabAll hok]
    rfl
end Go.Proofs.YthnadkafegmacaaGreatDoor
