/- table.Update: its walk. No condition. -/
import Derived.Test.YthnadkafegmacaaGreatDoorTUpH
namespace Go.Proofs.YthnadkafegmacaaGreatDoor
open Go Go.RowKit Go.Proofs.YthnadkafegmacaaGreatDoor.Ab
set_option linter.unusedSimpArgs false
set_option linter.unusedVariables false

set_option maxRecDepth 10000 in
set_option maxHeartbeats 2000000 in
theorem Update_fn (t : Tbl) (i : Int) (x : Ex) (l : List USet) (h : t.ok) (hx : exOk x) (hs : ∀ s ∈ l, exOk s.x) : FnG Tryz.prog 16 gK [.agg (.es (eTab t)), .one (.e (eI i)), .agg (.es (eEx x)), .one (.e (.sl (l.map eUs)))] (rTn (updF t i x l)) := by
  refine fn_introG (T := tab) tOk Tryz.func16 rfl (by kernel_rfl) (by simp [Tryz.ntmps16]) ?_
  intro X hX
  have hnt : X.nt = 101 := hX
  clear hX
  have h19 := tabLen h
  have f19 : 0 + 19 ≤ (Cs.es (eTab t)).len := by show 0 + 19 ≤ (eTab t).length; omega
  have h7 : 0 + 7 ≤ (Cs.es (eEx x)).len := by have := ex7 x; show 0 + 7 ≤ (eEx x).length; omega
  have e7 : (Cs.es (eEx x)).len = 7 := ex7 x
  have h1 := begun_fn t i h
  have h2 := Condition_fn x t.c hx h.cs
  have hbg := fun hb => bg_in (t := t) (i := i) hb
  have hap : List.take 0 (eTab t) ++ eTab t ++ List.drop (0 + 19) (eTab t) = eTab t := by
    rw [List.drop_eq_nil_of_le (by omega)]
    simp
  rw [← exAll x] at h2
  have h3 := sets_fn l t.c hs h.cs
  unfold updF
  rw [← tabAll h] at h1
  generalize bgE t i = e at *
  repeat' first | refine zzs ?_ | refine zzr hnt rfl ?_ ?_ | refine zzd hnt rfl ?_ ?_ | refine zzb ?_ | refine zzk ?_
  · exact zzt
  by_cases he : e = 0
  case neg =>
    rw [if_pos he]
    rw [if_neg he] at h1
    repeat' first | refine zzs ?_ | refine zzb ?_ | refine zzk ?_
    refine tr_region (zzx hnt rfl ?_ (callV rfl rfl rfl rfl rfl rfl rfl hnt rfl (h1) (zzx hnt rfl ?_ (Lex.nil _)))) ?_
    · exact zza
    · exact zza
    repeat' first | refine zzs ?_ | refine zzr hnt rfl ?_ ?_ | refine zzd hnt rfl ?_ ?_ | refine zzb ?_ | refine zzk ?_
    · exact zzt
    repeat' first | refine zzs ?_ | refine zzb ?_ | refine zzk ?_
    refine tr_cond rfl (fun hc => ?_) (fun hc => ?_)
    · exact absurd (of_decide_eq_true hc) he
    clear hc
    repeat' first | refine zzs ?_ | refine zzr hnt rfl ?_ ?_ | refine zzd hnt rfl ?_ ?_ | refine zzb ?_ | refine zzk ?_
    · exact zzt
    repeat' first | refine zzs ?_ | refine zzb ?_ | refine zzk ?_
    refine tr_cond rfl (fun hc => ?_) (fun hc => ?_)
    · exact absurd (of_decide_eq_true hc) he
    clear hc
    repeat' first | refine zzs ?_ | refine zzr hnt rfl ?_ ?_ | refine zzd hnt rfl ?_ ?_ | refine zzb ?_ | refine zzk ?_
    · exact zzt
    repeat' first | refine zzs ?_ | refine zzb ?_ | refine zzk ?_
    refine tr_cond rfl (fun hc => ?_) (fun hc => ?_)
    · repeat' first | refine zzs ?_ | refine zzr hnt rfl ?_ ?_ | refine zzd hnt rfl ?_ ?_ | refine zzb ?_ | refine zzk ?_
      · exact zzt
      repeat' first | refine zzs ?_ | refine zzb ?_ | refine zzk ?_
      refine tr_ret ⟨.inr rfl, _, _, rfl, zzp, ?_⟩
      exact rfl
    simp only [zz1, zz2, zz3, zz4, zz5, zz6, zz7, zz8] at hc
    exact absurd hc he
  rw [if_neg (not_not_intro he)]
  rw [if_pos he] at h1
  obtain ⟨ht, i0, i2⟩ := hbg he
  obtain ⟨p1, p2, p3, p4, p5⟩ := tabF_parts ht
  repeat' first | refine zzs ?_ | refine zzb ?_ | refine zzk ?_
  refine tr_region (zzx hnt rfl ?_ (callV rfl rfl rfl rfl rfl rfl rfl hnt rfl (h1) (zzx hnt rfl ?_ (Lex.nil _)))) ?_
  · exact zza
  · exact zza
  rw [hap]
  repeat' first | refine zzs ?_ | refine zzr hnt rfl ?_ ?_ | refine zzd hnt rfl ?_ ?_ | refine zzb ?_ | refine zzk ?_
  · exact zzt
  repeat' first | refine zzs ?_ | refine zzb ?_ | refine zzk ?_
  refine tr_cond rfl (fun hc => ?_) (fun hc => ?_)
  rotate_left
  · exact absurd he (of_decide_eq_false hc)
  clear hc
  repeat' first | refine zzs ?_ | refine zzb ?_ | refine zzk ?_
  refine tr_region (zzx hnt rfl ?_ (callV rfl rfl rfl rfl rfl rfl rfl hnt rfl (h2) (zzx hnt rfl ?_ (Lex.nil _)))) ?_
  · exact zza
  · exact zza
  repeat' first | refine zzs ?_ | refine zzr hnt rfl ?_ ?_ | refine zzd hnt rfl ?_ ?_ | refine zzb ?_ | refine zzk ?_
  · exact zzt
  repeat' first | refine zzs ?_ | refine zzb ?_ | refine zzk ?_
  refine tr_cond rfl (fun hc => ?_) (fun hc => ?_)
  rotate_left
  · have hcd : ¬ cdF x t.c = 0 := of_decide_eq_false hc
    rw [if_pos hcd]
    clear hc
    repeat' first | refine zzs ?_ | refine zzr hnt rfl ?_ ?_ | refine zzd hnt rfl ?_ ?_ | refine zzb ?_ | refine zzk ?_
    · exact zzt
    repeat' first | refine zzs ?_ | refine zzb ?_ | refine zzk ?_
    refine tr_cond rfl (fun hc => ?_) (fun hc => ?_)
    · repeat' first | refine zzs ?_ | refine zzr hnt rfl ?_ ?_ | refine zzd hnt rfl ?_ ?_ | refine zzb ?_ | refine zzk ?_
      · exact zzt
      repeat' first | refine zzs ?_ | refine zzb ?_ | refine zzk ?_
      refine tr_ret ⟨.inr rfl, _, _, rfl, zzp, ?_⟩
      exact rfl
    simp only [zz1, zz2, zz3, zz4, zz5, zz6, zz7, zz8] at hc
    exact absurd hc hcd
  have hcd : cdF x t.c = 0 := of_decide_eq_true hc
  clear hc
  rw [if_neg (not_not_intro hcd)]
  repeat' first | refine zzs ?_ | refine zzb ?_ | refine zzk ?_
  refine tr_region (zzx hnt rfl ?_ (callV rfl rfl rfl rfl rfl rfl rfl hnt rfl (h3) (zzx hnt rfl ?_ (Lex.nil _)))) ?_
  · exact zza
  · exact zza
  repeat' first | refine zzs ?_ | refine zzr hnt rfl ?_ ?_ | refine zzd hnt rfl ?_ ?_ | refine zzb ?_ | refine zzk ?_
  · exact zzt
  repeat' first | refine zzs ?_ | refine zzb ?_ | refine zzk ?_
  refine tr_cond rfl (fun hc => ?_) (fun hc => ?_)
  · simp only [zz1, zz2, zz3, zz4, zz5, zz6, zz7, zz8] at hc
    rw [if_pos hc]
    repeat' first | refine zzs ?_ | refine zzr hnt rfl ?_ ?_ | refine zzd hnt rfl ?_ ?_ | refine zzb ?_ | refine zzk ?_
    · exact zzt
    repeat' first | refine zzs ?_ | refine zzb ?_ | refine zzk ?_
    refine tr_ret ⟨.inr rfl, _, _, rfl, zzp, ?_⟩
    exact rfl
  simp only [zz1, zz2, zz3, zz4, zz5, zz6, zz7, zz8] at hc
  rw [if_neg (not_not_intro hc)]
  obtain ⟨l4, hfs⟩ := sets_all hc
  have hst : ∀ s ∈ l, exOk s.x ∧ stOk t.c s := by
    intro s hs'
    refine ⟨hs s hs', ?_⟩
    unfold setsF at hc
    split at hc
    · cases hc
    · exact stL_ok hc s hs'
  clear h1 h2 hbg he
  obtain ⟨m, rfl⟩ : ∃ m : Nat, i = m := ⟨i.toNat, by omega⟩
  rw [Int.toNat_natCast]
  repeat' first | refine zzs ?_ | refine zzr hnt rfl ?_ ?_ | refine zzd hnt rfl ?_ ?_ | refine zzb ?_ | refine zzk ?_
  · exact zzt
  · exact zzt
  repeat' first | refine zzs ?_ | refine zzb ?_ | refine zzk ?_
  refine tr_loop (σ := Nat × Tbl × Int) (fun y => St.of [(1, .one (.e (eI (m : Int)))), (3, .one (.e (.sl (l.map eUs)))), (4, .one (.ptr 4 0 0)), (6, .one (.ptr 6 0 0)), (8, .one (.ptr 8 0 0)), (12, .one (.e (eI y.2.2))), (40, .one (.e (eI (y.1 : Int)))), ((1000000 + 5), .one (.eptr fsE)), ((1000000 + 6), .one (.eptr acE))] [(4, ⟨0, .box (.es (eTab y.2.1)), 0⟩), (6, ⟨0, .box (.es (eEx x)), 0⟩), (8, ⟨0, .box (.es (eTab tz)), 0⟩)]) (fun y => upW x l m (4 - y.1) y.1 y.2.1 y.2.2 = upW x l m 4 0 t 0 ∧ y.2.1.ok ∧ y.1 ≤ 4 ∧ 0 ≤ y.2.2 ∧ y.2.2 ≤ y.1 ∧ y.2.1.c = t.c ∧ celF t.c (y.2.1.d.getD m []) = 0) (fun y => 4 - y.1) ((0, t, 0)) (le_of (ad := []) ⟨zzl, zzl, zzl, zzl, zzl, zzl, zzl, zzl, zzl, trivial⟩ (memOk_box rfl rfl rfl (memOk_box rfl rfl rfl (memOk_box rfl rfl (by repeat' first | exact trivial | exact rfl | apply And.intro) trivial)))) ⟨rfl, h, Nat.zero_le _, Int.le_refl _, Int.le_refl _, rfl, (p5 _ (memD (d := []) (by rw [h.h2]; omega))).1⟩ ?_
  rintro ⟨j, t', n⟩ ⟨hW, hok, jl, n0, nj, hcc, hce⟩
  dsimp only at hW hok jl n0 nj hcc hce ⊢
  have h19' := tabLen hok
  have f19' : 0 + 19 ≤ (Cs.es (eTab t')).len := by show 0 + 19 ≤ (eTab t').length; omega
  repeat' first | refine zzs ?_ | refine zzr hnt rfl ?_ ?_ | refine zzd hnt rfl ?_ ?_ | refine zzb ?_ | refine zzk ?_
  · exact zzt
  repeat' first | refine zzs ?_ | refine zzb ?_ | refine zzk ?_
  refine tr_cond rfl (fun hc => ?_) (fun hc => ?_)
  · simp only [zz1, zz2, zz3, zz4, zz5, zz6, zz7, zz8] at hc
    have hj4 : j < 4 := by omega
    have hcl := tabCel hok (i := m) (j := j) (by omega) hj4
    have hfv : ∀ v ∈ ((t'.d.getD m []).getD j cel0).r, v.fit := by
      have hm := memD (d := []) (l := t'.d) (i := m) (by rw [hok.h2]; omega)
      exact hok.vs _ hm _ (memD (d := cel0) (by rw [hok.h4 _ hm]; exact hj4))
    have hstep : upW x l m (4 - j) j t' n = upW x l m ((4 - (j + 1)) + 1) j t' n := by rw [show 4 - j = (4 - (j + 1)) + 1 by omega]
    rw [hstep, upW] at hW
    obtain ⟨g1, g2⟩ := take2_get hcl
    have hst' : ∀ s ∈ l, exOk s.x ∧ stOk t'.c s := by rw [hcc]; exact hst
    have hce' : celF t'.c (t'.d.getD m []) = 0 := by rw [hcc]; exact hce
    have hup := fun hf he => up_step (l := l) (m := m) (j := j) hok (by omega) hj4 hce' hst' hf he
    have hrl : ((t'.d.getD m []).getD j cel0).f = true → ((t'.d.getD m []).getD j cel0).r.length = t'.c.length := fun hf => by
      have hm := memD (d := []) (l := t'.d) (i := m) (by rw [hok.h2]; omega)
      exact rowF_len (celF_get hce' (by rw [hok.h4 _ hm]; exact hj4) hf)
    have hput := fun r hf => rowPut hok (i := m) (j := j) (by omega) hj4 r hf
    have hH := Holds_fn x t'.c ((t'.d.getD m []).getD j cel0).r hx hok.cs (fun v hv => (hfv v hv).1)
    have hc5 : t'.c.length ≤ 5 := by rw [hcc]; exact colsF_len p3
    have hfs' : ∀ s ∈ l, exOk s.x ∧ 0 ≤ fsF t'.c s.c 0 := fun s hs' => ⟨(hst' s hs').1, by rw [hcc]; exact hfs s hs'⟩
    have hC := fun hl => changed_fn ((t'.d.getD m []).getD j cel0).r t'.c l hl hc5 hok.cs (fun v hv => (hfv v hv).1) hfs' l4
    generalize (t'.d.getD m []).getD j cel0 = c at *
    obtain ⟨cf, cr⟩ := c
    dsimp only at g1 g2 hH hfv hW hup hrl hput hC
    have lb : 0 + 3 + (m : Int).toNat * 8 + (j : Int).toNat * 2 + 0 < (Cs.es (eTab t')).len := by show 0 + 3 + m * 8 + j * 2 + 0 < (eTab t').length; omega
    have ls : 0 + 3 + (m : Int).toNat * 8 + (j : Int).toNat * 2 + 1 < (Cs.es (eTab t')).len := by show 0 + 3 + m * 8 + j * 2 + 1 < (eTab t').length; omega
    have ib : D0.isA .bool ((Cs.es (eTab t')).at (0 + 3 + (m : Int).toNat * 8 + (j : Int).toNat * 2 + 0)) := by
      show D0.isA .bool (.e ((eTab t').getD (0 + 3 + m * 8 + j * 2) E.dflt))
      rw [g1]
      exact rfl
    have is : D0.isA (.slice 28) ((Cs.es (eTab t')).at (0 + 3 + (m : Int).toNat * 8 + (j : Int).toNat * 2 + 1)) := by
      show D0.isA (.slice 28) (.e ((eTab t').getD (0 + 3 + m * 8 + j * 2 + 1) E.dflt))
      rw [g2]
      exact rfl
    repeat' first | refine zzs ?_ | refine zzb ?_ | refine zzk ?_
    first | refine zzr hnt rfl ?_ ?_ | refine zzd hnt rfl ?_ ?_
    · exact zza
    repeat' first | refine zzs ?_ | refine zzb ?_ | refine zzk ?_
    first | refine zzr hnt rfl ?_ ?_ | refine zzd hnt rfl ?_ ?_
    · exact zza
    repeat' first | refine zzs ?_ | refine zzb ?_ | refine zzk ?_
    first | refine zzr hnt rfl ?_ ?_ | refine zzd hnt rfl ?_ ?_
    · exact zza
    have gb : (!((eTab t').getD (0 + 3 + m * 8 + j * 2) E.dflt).bool) = !cf := by rw [g1]; rfl
    repeat' first | refine zzs ?_ | refine zzb ?_ | refine zzk ?_
    refine tr_cond rfl (fun hc => ?_) (fun hc => ?_)
    · have hcf : (!cf) = true := gb.symm.trans hc
      rw [if_pos (by simpa using hcf)] at hW
      refine tr_exit ?_
      repeat' first | refine zzs ?_ | refine zzr hnt rfl ?_ ?_ | refine zzd hnt rfl ?_ ?_ | refine zzb ?_ | refine zzk ?_
      · exact zzt
      refine ⟨(j + 1, t', n), ⟨hW, hok, by dsimp only; omega, n0, by dsimp only; omega, hcc, hce⟩, by dsimp only; omega, le_of (ad := []) ⟨zzl, zzl, zzl, zzl, zzl, zzl, zzl, zzl, zzl, trivial⟩ (memOk_box rfl rfl rfl (memOk_box rfl rfl rfl (memOk_box rfl rfl rfl trivial)))⟩
    have hcf : (!cf) = false := gb.symm.trans hc
    have hct : cf = true := by simpa using hcf
    rw [if_neg (by simpa using hcf)] at hW
    have g3 : eRow cr = .sl ((eTab t').getD (0 + 3 + (m : Int).toNat * 8 + (j : Int).toNat * 2 + 1) E.dflt).xs := by
      show eRow cr = .sl ((eTab t').getD (0 + 3 + m * 8 + j * 2 + 1) E.dflt).xs
      rw [g2]
      rfl
    have hC := hC (hrl hct)
    rw [← exAll x, g3] at hH
    rw [g3] at hC
    generalize hdF x t'.c cr = r at *
    obtain ⟨yes, e1⟩ := r
    dsimp only at hW
    repeat' first | refine zzs ?_ | refine zzb ?_ | refine zzk ?_
    refine tr_draw (T := tab) tOk hnt mixedR (lexD (T := tab) rfl ?_ (callVD rfl rfl rfl rfl rfl rfl rfl rfl rfl (hH) (lexD (T := tab) rfl ?_ (.nil _)))) (by first | decide +kernel | kernel_rfl) ?_
    · exact zza
    · exact zza
    repeat' first | refine zzs ?_ | refine zzr hnt rfl ?_ ?_ | refine zzd hnt rfl ?_ ?_ | refine zzb ?_ | refine zzk ?_
    · exact zzt
    repeat' first | refine zzs ?_ | refine zzb ?_ | refine zzk ?_
    refine tr_cond rfl (fun hc => ?_) (fun hc => ?_)
    · have hc : (bif decide (e1 = 0) then yes else false) = true := hc
      have hy : e1 = 0 ∧ yes = true := by
        cases yes
        · cases hd : decide (e1 = 0) <;> rw [hd] at hc <;> cases hc
        · cases hd : decide (e1 = 0) with
          | true => exact ⟨of_decide_eq_true hd, rfl⟩
          | false => rw [hd] at hc; cases hc
      obtain ⟨rfl, rfl⟩ := hy
      rw [if_neg (not_not_intro rfl), if_neg (fun h => nomatch h)] at hW
      have hup := hup hct
      have hput := fun r => hput r hct
      generalize chF t'.c cr cr l = z at *
      obtain ⟨nr, e2⟩ := z
      dsimp only at hW hup
      repeat' first | refine zzs ?_ | refine zzr hnt rfl ?_ ?_ | refine zzd hnt rfl ?_ ?_ | refine zzb ?_ | refine zzk ?_
      · exact zzt
      repeat' first | refine zzs ?_ | refine zzb ?_ | refine zzk ?_
      refine tr_draw (T := tab) tOk hnt mixedR (lexD (T := tab) rfl ?_ (callVD rfl rfl rfl rfl rfl rfl rfl rfl rfl (hC) (lexD (T := tab) rfl ?_ (.nil _)))) (by first | decide +kernel | kernel_rfl) ?_
      · exact zza
      · exact zza
      have hput := hput nr
      refine tr_le (s' := St.of [(1, .one (.e (eI (m : Int)))), (3, .one (.e (.sl (l.map eUs)))), (4, .one (.ptr 4 0 0)), (6, .one (.ptr 6 0 0)), (8, .one (.ptr 8 0 0)), (12, .one (.e (eI (n + 1)))), (16, .one (.e (eI e2))), (40, .one (.e (eI (j : Int)))), ((1000000 + 5), .one (.eptr fsE)), ((1000000 + 6), .one (.eptr acE))] [(4, ⟨0, .box (.es (eTab (putT t' m j ⟨true, nr⟩))), 0⟩), (6, ⟨0, .box (.es (eEx x)), 0⟩), (8, ⟨0, .box (.es (eTab tz)), 0⟩)]) (le_of (ad := []) ⟨zzl, zzl, zzl, zzl, zzl, zzl, zzl, zzl, zzl, zzl, trivial⟩ (memOk_box rfl rfl hput (memOk_box rfl rfl rfl (memOk_box rfl rfl rfl trivial)))) ?_
      repeat' first | refine zzs ?_ | refine zzr hnt rfl ?_ ?_ | refine zzd hnt rfl ?_ ?_ | refine zzb ?_ | refine zzk ?_
      · exact zzt
      repeat' first | refine zzs ?_ | refine zzb ?_ | refine zzk ?_
      refine tr_cond rfl (fun hc => ?_) (fun hc => ?_)
      · simp only [zz1, zz2, zz3, zz4, zz5, zz6, zz7, zz8] at hc
        rw [if_pos hc] at hW
        rw [← hW]
        repeat' first | refine zzs ?_ | refine zzr hnt rfl ?_ ?_ | refine zzd hnt rfl ?_ ?_ | refine zzb ?_ | refine zzk ?_
        · exact zzt
        repeat' first | refine zzs ?_ | refine zzb ?_ | refine zzk ?_
        refine tr_ret ⟨.inr rfl, _, _, rfl, zzp, ?_⟩
        exact rfl
      simp only [zz1, zz2, zz3, zz4, zz5, zz6, zz7, zz8] at hc
      rw [if_neg (not_not_intro hc)] at hW
      obtain ⟨u1, u2⟩ := hup hc
      repeat' first | refine zzs ?_ | refine zzr hnt rfl ?_ ?_ | refine zzd hnt rfl ?_ ?_ | refine zzb ?_ | refine zzk ?_
      · exact zzt
      refine ⟨(j + 1, putT t' m j ⟨true, nr⟩, n + 1), ⟨hW, u1, by dsimp only; omega, by dsimp only; omega, by dsimp only; omega, hcc, by rw [← hcc]; exact u2⟩, by dsimp only; omega, le_of (ad := []) ⟨zzl, zzl, zzl, zzl, zzl, zzl, zzl, zzl, zzl, trivial⟩ (memOk_box rfl rfl rfl (memOk_box rfl rfl rfl (memOk_box rfl rfl rfl trivial)))⟩
    have hc : (bif decide (e1 = 0) then yes else false) = false := hc
    repeat' first | refine zzs ?_ | refine zzr hnt rfl ?_ ?_ | refine zzd hnt rfl ?_ ?_ | refine zzb ?_ | refine zzk ?_
    · exact zzt
    repeat' first | refine zzs ?_ | refine zzb ?_ | refine zzk ?_
    refine tr_cond rfl (fun hc => ?_) (fun hc => ?_)
    · simp only [zz1, zz2, zz3, zz4, zz5, zz6, zz7, zz8] at hc
      rw [if_pos hc] at hW
      rw [← hW]
      repeat' first | refine zzs ?_ | refine zzr hnt rfl ?_ ?_ | refine zzd hnt rfl ?_ ?_ | refine zzb ?_ | refine zzk ?_
      · exact zzt
      repeat' first | refine zzs ?_ | refine zzb ?_ | refine zzk ?_
      refine tr_ret ⟨.inr rfl, _, _, rfl, zzp, ?_⟩
      exact rfl
    rename_i hc0
    simp only [zz1, zz2, zz3, zz4, zz5, zz6, zz7, zz8] at hc
    rw [if_neg (not_not_intro hc)] at hW
    have hy : yes = false := by
      rw [hc] at hc0
      exact hc0
    rw [if_pos hy] at hW
    repeat' first | refine zzs ?_ | refine zzr hnt rfl ?_ ?_ | refine zzd hnt rfl ?_ ?_ | refine zzb ?_ | refine zzk ?_
    · exact zzt
    refine ⟨(j + 1, t', n), ⟨hW, hok, by dsimp only; omega, n0, by dsimp only; omega, hcc, hce⟩, by dsimp only; omega, le_of (ad := []) ⟨zzl, zzl, zzl, zzl, zzl, zzl, zzl, zzl, zzl, trivial⟩ (memOk_box rfl rfl rfl (memOk_box rfl rfl rfl (memOk_box rfl rfl rfl trivial)))⟩
  · simp only [zz1, zz2, zz3, zz4, zz5, zz6, zz7, zz8] at hc
    have hj : j = 4 := by omega
    subst hj
    have hW : (if kF [] (t'.d.getD m []) ≠ 0 then (tz, 0, kF [] (t'.d.getD m [])) else (t', n, (0 : Int))) = upW x l m 4 0 t 0 := hW
    have hmd : m < t'.d.length := by rw [hok.h2]; omega
    have hm := memD (d := []) hmd
    have h4 := hok.h4 _ hm
    have hg : List.take 8 (List.drop (0 + 3 + (m : Int).toNat * 8) (eTab t')) = eDr (t'.d.getD m []) := tabDrw hok (by omega)
    have l8 : 0 + 3 + (m : Int).toNat * 8 + 8 ≤ (Cs.es (eTab t')).len := by show 0 + 3 + m * 8 + 8 ≤ (eTab t').length; omega
    have e8 : (Cs.es (List.take 8 (List.drop (0 + 3 + (m : Int).toNat * 8) (eTab t')))).len = 8 := by rw [hg]; exact drLen _ h4
    have hk := keys_fn (t'.d.getD m []) h4 (celF_kOk p4 hce)
    rw [← hg] at hk
    generalize kF [] (t'.d.getD m []) = k at *
    refine tr_exit ?_
    repeat' first | refine zzs ?_ | refine zzb ?_ | refine zzk ?_
    refine tr_region (zzx hnt rfl ?_ (call rfl rfl rfl rfl rfl rfl rfl hnt (hk) (zzx hnt rfl ?_ (Lex.nil _)))) ?_
    · exact zza
    · exact zza
    repeat' first | refine zzs ?_ | refine zzr hnt rfl ?_ ?_ | refine zzd hnt rfl ?_ ?_ | refine zzb ?_ | refine zzk ?_
    · exact zzt
    repeat' first | refine zzs ?_ | refine zzb ?_ | refine zzk ?_
    refine tr_cond rfl (fun hc => ?_) (fun hc => ?_)
    · simp only [zz1, zz2, zz3, zz4, zz5, zz6, zz7, zz8] at hc
      rw [if_pos hc] at hW
      rw [← hW]
      repeat' first | refine zzs ?_ | refine zzr hnt rfl ?_ ?_ | refine zzd hnt rfl ?_ ?_ | refine zzb ?_ | refine zzk ?_
      · exact zzt
      repeat' first | refine zzs ?_ | refine zzb ?_ | refine zzk ?_
      refine tr_ret ⟨.inr rfl, _, _, rfl, zzp, ?_⟩
      exact rfl
    simp only [zz1, zz2, zz3, zz4, zz5, zz6, zz7, zz8] at hc
    rw [if_neg (not_not_intro hc)] at hW
    rw [← hW]
    have e19' : (Cs.es (List.take 19 (List.drop 0 (eTab t')))).len = 19 := by rw [tabAll hok]; exact h19'
    repeat' first | refine zzs ?_ | refine zzb ?_ | refine zzk ?_
    first | refine zzr hnt rfl ?_ ?_ | refine zzd hnt rfl ?_ ?_
    · exact zza
    rw [tabAll hok, tzPut]
    repeat' first | refine zzs ?_ | refine zzb ?_ | refine zzk ?_
    refine tr_ret ⟨.inr rfl, _, _, rfl, ?_, ?_⟩
    · exact zza
    rw [tabAll hok]
    rfl
end Go.Proofs.YthnadkafegmacaaGreatDoor
