/- The document's Updated. No condition. -/
import Derived.Test.YthnadkafegmacaaGreatDoorTUpG
namespace Go.Proofs.YthnadkafegmacaaGreatDoor
open Go Go.RowKit Go.Proofs.YthnadkafegmacaaGreatDoor.Ab
set_option linter.unusedSimpArgs false
set_option linter.unusedVariables false

theorem ko_ex {x : Ex} {cols : List Colm} (h : (koF x cols).2.2 = 0) : exF x = 0 := by
  unfold koF at h
  split at h
  · contradiction
  · rename_i h1
    exact Classical.not_not.1 h1
theorem chF_ev {cols : List Colm} {old out : List Val} {s : USet} {r : List USet} (hx : exF s.x = 0) (hr : rowF old cols = 0) : chF cols old out (s :: r) = if ((thO cols s.x).ev old).2 ≠ 0 then ([], ((thO cols s.x).ev old).2) else if ((thO cols s.x).ev old).1.k = 0 ∧ (cols.getD (fsF cols s.c 0).toNat col0).u = false then ([], 12) else chF cols old (out.set (fsF cols s.c 0).toNat ((thO cols s.x).ev old).1) r := by
  rw [chF]
  unfold evF
  rw [if_neg (not_not_intro hx), if_neg (not_not_intro hr)]
  by_cases h : ((thO cols s.x).ev old).2 = 0
  · simp [h]
  · simp [h]
theorem hd_no {x : Ex} {cols : List Colm} {row : List Val} (h : (hdF x cols row).2 ≠ 0) : (hdF x cols row).1 = false := by
  unfold hdF at h ⊢
  split
  · rfl
  split
  · rfl
  rename_i h1 h2
  rw [if_neg h1, if_neg h2] at h
  split
  · rename_i h3
    rw [if_pos h3] at h
    exact absurd rfl h
  rename_i h3
  rw [if_neg h3] at h
  split
  · rfl
  · rename_i h4
    rw [if_neg h4] at h
    exact absurd rfl h
/-- how the inner loop stands: what is wrong so far, and the row so far -/
def inJ (cols : List Colm) (old : List Val) (l : List USet) (k : Nat) (e : Int) (next : List Val) : Prop :=
  (e = 0 ∧ chF cols old next (l.drop k) = chF cols old old l) ∨ (e ≠ 0 ∧ chF cols old old l = ([], e))
def nxE (e f : Int) (v : Val) (u : Bool) : Int := if e ≠ 0 then e else if f ≠ 0 then f else if v.k = 0 ∧ u = false then 12 else 0
theorem inJ_step {cols : List Colm} {old next : List Val} {l : List USet} {k : Nat} {e : Int} (h : inJ cols old l k e next) (hk : k < l.length) (hx : exF (l.getD k use0).x = 0) (hr : rowF old cols = 0) : inJ cols old l (k + 1) (nxE e ((thO cols (l.getD k use0).x).ev old).2 ((thO cols (l.getD k use0).x).ev old).1 (cols.getD (fsF cols (l.getD k use0).c 0).toNat col0).u) (next.set (fsF cols (l.getD k use0).c 0).toNat ((thO cols (l.getD k use0).x).ev old).1) := by
  unfold nxE
  rcases h with ⟨rfl, h⟩ | ⟨h0, h⟩
  · rw [drop_getD (d := use0) hk, chF_ev hx hr] at h
    rw [if_neg (not_not_intro rfl)]
    by_cases h1 : ((thO cols (l.getD k use0).x).ev old).2 ≠ 0
    · rw [if_pos h1] at h ⊢
      exact .inr ⟨h1, h.symm⟩
    rw [if_neg h1] at h ⊢
    by_cases h2 : ((thO cols (l.getD k use0).x).ev old).1.k = 0 ∧ (cols.getD (fsF cols (l.getD k use0).c 0).toNat col0).u = false
    · rw [if_pos h2] at h ⊢
      exact .inr ⟨by decide, h.symm⟩
    · rw [if_neg h2] at h ⊢
      exact .inl ⟨rfl, h⟩
  · rw [if_pos h0]
    exact .inr ⟨h0, h⟩
set_option maxRecDepth 10000 in
set_option maxHeartbeats 2000000 in
theorem Updated_fn (t : Tbl) (i : Int) (x : Ex) (l : List USet) (h : t.ok) (hx : exOk x) (hs : ∀ s ∈ l, exOk s.x) : FnG Tryz.prog 17 gK [.agg (.es (eTab t)), .one (.e (eI i)), .agg (.es (eEx x)), .one (.e (.sl (l.map eUs)))] (rTn (updF t i x l)) := by
  refine fn_introG (T := tab) tOk Tryz.func17 rfl (by kernel_rfl) (by simp [Tryz.ntmps17]) ?_
  intro X hX
  have hnt : X.nt = 142 := hX
  clear hX
  have h19 := tabLen h
  have f19 : 0 + 19 ≤ (Cs.es (eTab t)).len := by show 0 + 19 ≤ (eTab t).length; omega
  have h7 : 0 + 7 ≤ (Cs.es (eEx x)).len := by have := ex7 x; show 0 + 7 ≤ (eEx x).length; omega
  have e7 : (Cs.es (eEx x)).len = 7 := ex7 x
  have h1 := ready_fn t i h
  have h2 := conditionFault_fn x t.c hx h.cs
  have hbg := fun hb => bg_in (t := t) (i := i) hb
  rw [← exAll x] at h2
  unfold updF
  rw [← tabAll h] at h1
  generalize bgE t i = e at *
  repeat' first | refine zzs ?_ | refine zzr hnt rfl ?_ ?_ | refine zzd hnt rfl ?_ ?_ | refine zzb ?_ | refine zzk ?_
  · exact zzt
  repeat' first | refine zzs ?_ | refine zzb ?_ | refine zzk ?_
  refine tr_region (zzx hnt rfl ?_ (callV rfl rfl rfl rfl rfl rfl rfl hnt rfl (h1) (zzx hnt rfl ?_ (Lex.nil _)))) ?_
  · exact zza
  · exact zza
  repeat' first | refine zzs ?_ | refine zzr hnt rfl ?_ ?_ | refine zzd hnt rfl ?_ ?_ | refine zzb ?_ | refine zzk ?_
  · exact zzt
  by_cases he : e = 0
  case neg =>
    rw [if_pos he]
    repeat' first | refine zzs ?_ | refine zzb ?_ | refine zzk ?_
    refine tr_cond rfl (fun hc => ?_) (fun hc => ?_)
    · exact absurd (of_decide_eq_true hc) he
    clear hc
    repeat' first | refine zzs ?_ | refine zzr hnt rfl ?_ ?_ | refine zzd hnt rfl ?_ ?_ | refine zzb ?_ | refine zzk ?_
    · exact zzt
    repeat' first | refine zzs ?_ | refine zzb ?_ | refine zzk ?_
    refine tr_cond rfl (fun hc => ?_) (fun hc => ?_)
    · exact absurd (of_decide_eq_true hc) he
    clear hc
    repeat' first | refine zzs ?_ | refine zzr hnt rfl ?_ ?_ | refine zzd hnt rfl ?_ ?_ | refine zzb ?_ | refine zzk ?_
    · exact zzt
    · exact zzt
    repeat' first | refine zzs ?_ | refine zzb ?_ | refine zzk ?_
    refine tr_loop (σ := Unit) (fun u => St.of [(1, .one (.e (eI i))), (3, .one (.e (.sl (l.map eUs)))), (4, .one (.ptr 4 0 0)), (6, .one (.ptr 6 0 0)), (8, .one (.ptr 8 0 0)), (11, .one (.e (eI e))), (12, .one (.e (eI 0))), (13, .one (.e (eI 0))), ((1000000 + 5), .one (.eptr fsE)), ((1000000 + 6), .one (.eptr acE))] [(4, ⟨0, .box (.es (eTab t)), 0⟩), (6, ⟨0, .box (.es (eEx x)), 0⟩), (8, ⟨0, .box (.es (eTab tz)), 0⟩)]) (fun u => True) (fun u => 0) (()) (le_of (ad := []) ⟨zzl, zzl, zzl, zzl, zzl, zzl, zzl, zzl, zzl, zzl, trivial⟩ (memOk_box rfl rfl rfl (memOk_box rfl rfl rfl (memOk_box rfl rfl (by repeat' first | exact trivial | exact rfl | apply And.intro) trivial)))) trivial ?_
    rintro _ _
    repeat' first | refine zzs ?_ | refine zzr hnt rfl ?_ ?_ | refine zzd hnt rfl ?_ ?_ | refine zzb ?_ | refine zzk ?_
    · exact zzt
    repeat' first | refine zzs ?_ | refine zzb ?_ | refine zzk ?_
    refine tr_cond rfl (fun hc => ?_) (fun hc => ?_)
    · have hc : (bif decide ((0 : Int) < 4) then decide (e = 0) else false) = true := hc
      exact absurd (of_decide_eq_true (show decide (e = 0) = true from hc)) he
    refine tr_exit ?_
    repeat' first | refine zzs ?_ | refine zzr hnt rfl ?_ ?_ | refine zzd hnt rfl ?_ ?_ | refine zzb ?_ | refine zzk ?_
    · exact zzt
    repeat' first | refine zzs ?_ | refine zzb ?_ | refine zzk ?_
    refine tr_cond rfl (fun hc => ?_) (fun hc => ?_)
    · exact absurd (of_decide_eq_true hc) he
    clear hc
    repeat' first | refine zzs ?_ | refine zzr hnt rfl ?_ ?_ | refine zzd hnt rfl ?_ ?_ | refine zzb ?_ | refine zzk ?_
    · exact zzt
    repeat' first | refine zzs ?_ | refine zzb ?_ | refine zzk ?_
    refine tr_cond rfl (fun hc => ?_) (fun hc => ?_)
    · repeat' first | refine zzs ?_ | refine zzr hnt rfl ?_ ?_ | refine zzd hnt rfl ?_ ?_ | refine zzb ?_ | refine zzk ?_
      · exact zzt
      repeat' first | refine zzs ?_ | refine zzb ?_ | refine zzk ?_
      refine tr_ret ⟨.inr rfl, _, _, rfl, zzp, ?_⟩
      exact rfl
    simp only [zz1, zz2, zz3, zz4, zz5, zz6, zz7, zz8] at hc
    exact absurd hc he
  rw [if_neg (not_not_intro he)]
  obtain ⟨ht, i0, i2⟩ := hbg he
  obtain ⟨p1, p2, p3, p4, p5⟩ := tabF_parts ht
  repeat' first | refine zzs ?_ | refine zzb ?_ | refine zzk ?_
  refine tr_cond rfl (fun hc => ?_) (fun hc => ?_)
  rotate_left
  · exact absurd he (of_decide_eq_false hc)
  clear hc
  repeat' first | refine zzs ?_ | refine zzb ?_ | refine zzk ?_
  refine tr_region (zzx hnt rfl ?_ (callV rfl rfl rfl rfl rfl rfl rfl hnt rfl (h2) (zzx hnt rfl ?_ (Lex.nil _)))) ?_
  · exact zza
  · exact zza
  repeat' first | refine zzs ?_ | refine zzr hnt rfl ?_ ?_ | refine zzd hnt rfl ?_ ?_ | refine zzb ?_ | refine zzk ?_
  · exact zzt
  clear he
  by_cases he : cdF x t.c = 0
  case neg =>
    rw [if_pos he]
    generalize cdF x t.c = e1 at *
    repeat' first | refine zzs ?_ | refine zzb ?_ | refine zzk ?_
    refine tr_cond rfl (fun hc => ?_) (fun hc => ?_)
    · exact absurd (of_decide_eq_true hc) he
    clear hc
    repeat' first | refine zzs ?_ | refine zzr hnt rfl ?_ ?_ | refine zzd hnt rfl ?_ ?_ | refine zzb ?_ | refine zzk ?_
    · exact zzt
    · exact zzt
    repeat' first | refine zzs ?_ | refine zzb ?_ | refine zzk ?_
    refine tr_loop (σ := Unit) (fun u => St.of [(1, .one (.e (eI i))), (3, .one (.e (.sl (l.map eUs)))), (4, .one (.ptr 4 0 0)), (6, .one (.ptr 6 0 0)), (8, .one (.ptr 8 0 0)), (11, .one (.e (eI e1))), (12, .one (.e (eI 0))), (13, .one (.e (eI 0))), ((1000000 + 5), .one (.eptr fsE)), ((1000000 + 6), .one (.eptr acE))] [(4, ⟨0, .box (.es (eTab t)), 0⟩), (6, ⟨0, .box (.es (eEx x)), 0⟩), (8, ⟨0, .box (.es (eTab tz)), 0⟩)]) (fun u => True) (fun u => 0) (()) (le_of (ad := []) ⟨zzl, zzl, zzl, zzl, zzl, zzl, zzl, zzl, zzl, zzl, trivial⟩ (memOk_box rfl rfl rfl (memOk_box rfl rfl rfl (memOk_box rfl rfl (by repeat' first | exact trivial | exact rfl | apply And.intro) trivial)))) trivial ?_
    rintro _ _
    repeat' first | refine zzs ?_ | refine zzr hnt rfl ?_ ?_ | refine zzd hnt rfl ?_ ?_ | refine zzb ?_ | refine zzk ?_
    · exact zzt
    repeat' first | refine zzs ?_ | refine zzb ?_ | refine zzk ?_
    refine tr_cond rfl (fun hc => ?_) (fun hc => ?_)
    · have hc : (bif decide ((0 : Int) < 4) then decide (e1 = 0) else false) = true := hc
      exact absurd (of_decide_eq_true (show decide (e1 = 0) = true from hc)) he
    refine tr_exit ?_
    repeat' first | refine zzs ?_ | refine zzr hnt rfl ?_ ?_ | refine zzd hnt rfl ?_ ?_ | refine zzb ?_ | refine zzk ?_
    · exact zzt
    repeat' first | refine zzs ?_ | refine zzb ?_ | refine zzk ?_
    refine tr_cond rfl (fun hc => ?_) (fun hc => ?_)
    · exact absurd (of_decide_eq_true hc) he
    clear hc
    repeat' first | refine zzs ?_ | refine zzr hnt rfl ?_ ?_ | refine zzd hnt rfl ?_ ?_ | refine zzb ?_ | refine zzk ?_
    · exact zzt
    repeat' first | refine zzs ?_ | refine zzb ?_ | refine zzk ?_
    refine tr_cond rfl (fun hc => ?_) (fun hc => ?_)
    · repeat' first | refine zzs ?_ | refine zzr hnt rfl ?_ ?_ | refine zzd hnt rfl ?_ ?_ | refine zzb ?_ | refine zzk ?_
      · exact zzt
      repeat' first | refine zzs ?_ | refine zzb ?_ | refine zzk ?_
      refine tr_ret ⟨.inr rfl, _, _, rfl, zzp, ?_⟩
      exact rfl
    simp only [zz1, zz2, zz3, zz4, zz5, zz6, zz7, zz8] at hc
    exact absurd hc he
  rw [if_neg (not_not_intro he)]
  have h3 := setsFault_fn l t.c (colsF_uniq p3) hs h.cs
  repeat' first | refine zzs ?_ | refine zzb ?_ | refine zzk ?_
  refine tr_cond rfl (fun hc => ?_) (fun hc => ?_)
  rotate_left
  · exact absurd he (of_decide_eq_false hc)
  clear hc
  repeat' first | refine zzs ?_ | refine zzb ?_ | refine zzk ?_
  refine tr_region (zzx hnt rfl ?_ (callV rfl rfl rfl rfl rfl rfl rfl hnt rfl (h3) (zzx hnt rfl ?_ (Lex.nil _)))) ?_
  · exact zza
  · exact zza
  clear he
  by_cases he : setsF l t.c = 0
  case neg =>
    rw [if_pos he]
    generalize setsF l t.c = e2 at *
    repeat' first | refine zzs ?_ | refine zzr hnt rfl ?_ ?_ | refine zzd hnt rfl ?_ ?_ | refine zzb ?_ | refine zzk ?_
    · exact zzt
    · exact zzt
    repeat' first | refine zzs ?_ | refine zzb ?_ | refine zzk ?_
    refine tr_loop (σ := Unit) (fun u => St.of [(1, .one (.e (eI i))), (3, .one (.e (.sl (l.map eUs)))), (4, .one (.ptr 4 0 0)), (6, .one (.ptr 6 0 0)), (8, .one (.ptr 8 0 0)), (11, .one (.e (eI e2))), (12, .one (.e (eI 0))), (13, .one (.e (eI 0))), ((1000000 + 5), .one (.eptr fsE)), ((1000000 + 6), .one (.eptr acE))] [(4, ⟨0, .box (.es (eTab t)), 0⟩), (6, ⟨0, .box (.es (eEx x)), 0⟩), (8, ⟨0, .box (.es (eTab tz)), 0⟩)]) (fun u => True) (fun u => 0) (()) (le_of (ad := []) ⟨zzl, zzl, zzl, zzl, zzl, zzl, zzl, zzl, zzl, zzl, trivial⟩ (memOk_box rfl rfl rfl (memOk_box rfl rfl rfl (memOk_box rfl rfl (by repeat' first | exact trivial | exact rfl | apply And.intro) trivial)))) trivial ?_
    rintro _ _
    repeat' first | refine zzs ?_ | refine zzr hnt rfl ?_ ?_ | refine zzd hnt rfl ?_ ?_ | refine zzb ?_ | refine zzk ?_
    · exact zzt
    repeat' first | refine zzs ?_ | refine zzb ?_ | refine zzk ?_
    refine tr_cond rfl (fun hc => ?_) (fun hc => ?_)
    · have hc : (bif decide ((0 : Int) < 4) then decide (e2 = 0) else false) = true := hc
      exact absurd (of_decide_eq_true (show decide (e2 = 0) = true from hc)) he
    refine tr_exit ?_
    repeat' first | refine zzs ?_ | refine zzr hnt rfl ?_ ?_ | refine zzd hnt rfl ?_ ?_ | refine zzb ?_ | refine zzk ?_
    · exact zzt
    repeat' first | refine zzs ?_ | refine zzb ?_ | refine zzk ?_
    refine tr_cond rfl (fun hc => ?_) (fun hc => ?_)
    · exact absurd (of_decide_eq_true hc) he
    clear hc
    repeat' first | refine zzs ?_ | refine zzr hnt rfl ?_ ?_ | refine zzd hnt rfl ?_ ?_ | refine zzb ?_ | refine zzk ?_
    · exact zzt
    repeat' first | refine zzs ?_ | refine zzb ?_ | refine zzk ?_
    refine tr_cond rfl (fun hc => ?_) (fun hc => ?_)
    · repeat' first | refine zzs ?_ | refine zzr hnt rfl ?_ ?_ | refine zzd hnt rfl ?_ ?_ | refine zzb ?_ | refine zzk ?_
      · exact zzt
      repeat' first | refine zzs ?_ | refine zzb ?_ | refine zzk ?_
      refine tr_ret ⟨.inr rfl, _, _, rfl, zzp, ?_⟩
      exact rfl
    simp only [zz1, zz2, zz3, zz4, zz5, zz6, zz7, zz8] at hc
    exact absurd hc he
  rw [if_neg (not_not_intro he)]
  obtain ⟨l4, hfs⟩ := sets_all he
  have hst : ∀ s ∈ l, exOk s.x ∧ stOk t.c s := by
    intro s hs'
    refine ⟨hs s hs', ?_⟩
    unfold setsF at he
    split at he
    · cases he
    · exact stL_ok he s hs'
  rw [he]
  clear h1 h2 h3 hbg he
  obtain ⟨m, rfl⟩ : ∃ m : Nat, i = m := ⟨i.toNat, by omega⟩
  rw [Int.toNat_natCast]
  generalize hZ : upW x l m 4 0 t 0 = Z
  repeat' first | refine zzs ?_ | refine zzr hnt rfl ?_ ?_ | refine zzd hnt rfl ?_ ?_ | refine zzb ?_ | refine zzk ?_
  · exact zzt
  · exact zzt
  repeat' first | refine zzs ?_ | refine zzb ?_ | refine zzk ?_
  refine tr_loop (σ := Nat × Tbl × Int × Int) (fun y => St.of [(1, .one (.e (eI (m : Int)))), (3, .one (.e (.sl (l.map eUs)))), (4, .one (.ptr 4 0 0)), (6, .one (.ptr 6 0 0)), (8, .one (.ptr 8 0 0)), (11, .one (.e (eI y.2.2.2))), (12, .one (.e (eI y.2.2.1))), (13, .one (.e (eI (y.1 : Int)))), ((1000000 + 5), .one (.eptr fsE)), ((1000000 + 6), .one (.eptr acE))] [(4, ⟨0, .box (.es (eTab y.2.1)), 0⟩), (6, ⟨0, .box (.es (eEx x)), 0⟩), (8, ⟨0, .box (.es (eTab tz)), 0⟩)]) (fun y => y.1 ≤ 4 ∧ 0 ≤ y.2.2.1 ∧ y.2.2.1 ≤ y.1 ∧ ((y.2.2.2 = 0 ∧ upW x l m (4 - y.1) y.1 y.2.1 y.2.2.1 = Z ∧ y.2.1.ok ∧ y.2.1.c = t.c ∧ celF t.c (y.2.1.d.getD m []) = 0) ∨ (y.2.2.2 ≠ 0 ∧ (tz, 0, y.2.2.2) = Z))) (fun y => 4 - y.1) ((0, t, 0, 0)) (le_of (ad := []) ⟨zzl, zzl, zzl, zzl, zzl, zzl, zzl, zzl, zzl, zzl, trivial⟩ (memOk_box rfl rfl rfl (memOk_box rfl rfl rfl (memOk_box rfl rfl (by repeat' first | exact trivial | exact rfl | apply And.intro) trivial)))) ⟨Nat.zero_le _, Int.le_refl _, Int.le_refl _, .inl ⟨rfl, hZ, h, rfl, (p5 _ (memD (d := []) (by rw [h.h2]; omega))).1⟩⟩ ?_
  rintro ⟨j, t', n, e⟩ ⟨jl, n0, nj, hJ⟩
  dsimp only at jl n0 nj hJ ⊢
  repeat' first | refine zzs ?_ | refine zzr hnt rfl ?_ ?_ | refine zzd hnt rfl ?_ ?_ | refine zzb ?_ | refine zzk ?_
  · exact zzt
  repeat' first | refine zzs ?_ | refine zzb ?_ | refine zzk ?_
  refine tr_cond rfl (fun hc => ?_) (fun hc => ?_)
  · have hc : (bif decide ((j : Int) < 4) then decide (e = 0) else false) = true := hc
    have hje : j < 4 ∧ e = 0 := by
      cases hd : decide ((j : Int) < 4) with
      | false => rw [hd] at hc; cases hc
      | true =>
        rw [hd] at hc
        exact ⟨by have := of_decide_eq_true hd; omega, of_decide_eq_true hc⟩
    obtain ⟨hj4, rfl⟩ := hje
    clear hc
    rcases hJ with ⟨_, hW, hok, hcc, hce⟩ | ⟨h0, _⟩
    rotate_left
    · exact absurd rfl h0
    have h19' := tabLen hok
    have f19' : 0 + 19 ≤ (Cs.es (eTab t')).len := by show 0 + 19 ≤ (eTab t').length; omega
    have hcl := tabCel hok (i := m) (j := j) (by omega) hj4
    have hmm : m < t'.d.length := by rw [hok.h2]; omega
    have hj4' : j < (t'.d.getD m []).length := by rw [hok.h4 _ (memD (d := []) hmm)]; exact hj4
    have hfv : ∀ v ∈ ((t'.d.getD m []).getD j cel0).r, v.fit := hok.vs _ (memD (d := []) hmm) _ (memD (d := cel0) hj4')
    have hstep : upW x l m (4 - j) j t' n = upW x l m ((4 - (j + 1)) + 1) j t' n := by rw [show 4 - j = (4 - (j + 1)) + 1 by omega]
    rw [hstep, upW] at hW
    have hst' : ∀ s ∈ l, exOk s.x ∧ stOk t'.c s := by rw [hcc]; exact hst
    have hce' : celF t'.c (t'.d.getD m []) = 0 := by rw [hcc]; exact hce
    have hup := fun hf he => up_step (l := l) (m := m) (j := j) hok (by omega) hj4 hce' hst' hf he
    have hrw : ((t'.d.getD m []).getD j cel0).f = true → rowF ((t'.d.getD m []).getD j cel0).r t'.c = 0 := fun hf => celF_get hce' hj4' hf
    have hput := fun r hf => rowPut hok (i := m) (j := j) (by omega) hj4 r hf
    have hH := True_fn x t'.c ((t'.d.getD m []).getD j cel0).r hx hok.cs (fun v hv => (hfv v hv).1)
    have hc5 : t'.c.length ≤ 5 := by rw [hcc]; exact colsF_len p3
    have hun : uniq t'.c := by rw [hcc]; exact colsF_uniq p3
    have l2 : 0 + 3 + (m : Int).toNat * 8 + (j : Int).toNat * 2 + 2 ≤ (Cs.es (eTab t')).len := by show 0 + 3 + m * 8 + j * 2 + 2 ≤ (eTab t').length; omega
    have hno := fun h => hd_no (x := x) (cols := t'.c) (row := ((t'.d.getD m []).getD j cel0).r) h
    generalize (t'.d.getD m []).getD j cel0 = c at *
    obtain ⟨cf, cr⟩ := c
    dsimp only at hH hfv hW hup hrw hput hno
    have hcl : List.take 2 (List.drop (0 + 3 + (m : Int).toNat * 8 + (j : Int).toNat * 2) (eTab t')) = eCel ⟨cf, cr⟩ := hcl
    have e2 : (Cs.es (List.take 2 (List.drop (0 + 3 + (m : Int).toNat * 8 + (j : Int).toNat * 2) (eTab t')))).len = 2 := congrArg List.length hcl
    have l1 : 0 + 3 + (m : Int).toNat * 8 + (j : Int).toNat * 2 + 1 + 1 ≤ (Cs.es (eTab t')).len := by show 0 + 3 + m * 8 + j * 2 + 1 + 1 ≤ (eTab t').length; omega
    repeat' first | refine zzs ?_ | refine zzb ?_ | refine zzk ?_
    first | refine zzr hnt rfl ?_ ?_ | refine zzd hnt rfl ?_ ?_
    · exact zza
    rw [hcl]
    repeat' first | refine zzs ?_ | refine zzb ?_ | refine zzk ?_
    first | refine zzr hnt rfl ?_ ?_ | refine zzd hnt rfl ?_ ?_
    · exact zza
    repeat' first | refine zzs ?_ | refine zzb ?_ | refine zzk ?_
    refine tr_cond rfl (fun hc => ?_) (fun hc => ?_)
    · have hcf : (!cf) = true := hc
      rw [if_pos (by simpa using hcf)] at hW
      refine tr_exit ?_
      repeat' first | refine zzs ?_ | refine zzr hnt rfl ?_ ?_ | refine zzd hnt rfl ?_ ?_ | refine zzb ?_ | refine zzk ?_
      · exact zzt
      refine ⟨(j + 1, t', n, 0), ⟨by dsimp only; omega, n0, by dsimp only; omega, .inl ⟨rfl, hW, hok, hcc, hce⟩⟩, by dsimp only; omega, le_of (ad := []) ⟨zzl, zzl, zzl, zzl, zzl, zzl, zzl, zzl, zzl, zzl, trivial⟩ (memOk_box rfl rfl rfl (memOk_box rfl rfl rfl (memOk_box rfl rfl rfl trivial)))⟩
    have hcf : (!cf) = false := hc
    have hct : cf = true := by simpa using hcf
    rw [if_neg (by simpa using hcf)] at hW
    have hr0 := hrw hct
    have hup := hup hct
    have hput := fun r => hput r hct
    rw [← exAll x] at hH
    generalize hdF x t'.c cr = r at *
    obtain ⟨yes, e1⟩ := r
    dsimp only at hW hno
    repeat' first | refine zzs ?_ | refine zzb ?_ | refine zzk ?_
    refine tr_region (zzx hnt rfl ?_ (callV rfl rfl rfl rfl rfl rfl rfl hnt rfl (hH) (zzx hnt rfl ?_ (Lex.nil _)))) ?_
    · exact zza
    · exact zza
    repeat' first | refine zzs ?_ | refine zzr hnt rfl ?_ ?_ | refine zzd hnt rfl ?_ ?_ | refine zzb ?_ | refine zzk ?_
    · exact zzt
    · exact zzt
    repeat' first | refine zzs ?_ | refine zzb ?_ | refine zzk ?_
    refine tr_cond rfl (fun hc => ?_) (fun hc => ?_)
    · have hy : yes = false := by
        have hc : (!yes) = true := hc
        simpa using hc
      have hJ2 : (e1 = 0 ∧ upW x l m (4 - (j + 1)) (j + 1) t' n = Z ∧ t'.ok ∧ t'.c = t.c ∧ celF t.c (t'.d.getD m []) = 0) ∨ (e1 ≠ 0 ∧ (tz, 0, e1) = Z) := by
        by_cases h1 : e1 = 0
        · rw [if_neg (not_not_intro h1), if_pos hy] at hW
          exact .inl ⟨h1, hW, hok, hcc, hce⟩
        · rw [if_pos h1] at hW
          exact .inr ⟨h1, hW⟩
      refine tr_exit ?_
      repeat' first | refine zzs ?_ | refine zzr hnt rfl ?_ ?_ | refine zzd hnt rfl ?_ ?_ | refine zzb ?_ | refine zzk ?_
      · exact zzt
      refine ⟨(j + 1, t', n, e1), ⟨by dsimp only; omega, n0, by dsimp only; omega, hJ2⟩, by dsimp only; omega, le_of (ad := []) ⟨zzl, zzl, zzl, zzl, zzl, zzl, zzl, zzl, zzl, zzl, trivial⟩ (memOk_box rfl rfl rfl (memOk_box rfl rfl rfl (memOk_box rfl rfl rfl trivial)))⟩
    have hy : yes = true := by
      have hc : (!yes) = false := hc
      simpa using hc
    have h10 : e1 = 0 := by
      by_cases h1 : e1 = 0
      · exact h1
      · rw [hno h1] at hy
        cases hy
    subst h10 hy
    rw [if_neg (not_not_intro rfl), if_neg (fun h => nomatch h)] at hW
    obtain ⟨r1, r2, r3⟩ := row_ok (fun v hv => (hfv v hv).1) hr0
    have hr4 := rows4 cr
    have hml := rowLen cr
    have b1 : 0 + (cr.map eVal).length ≤ maxLen := by unfold maxLen; omega
    have b2 : (0 + (cr.map eVal).length) * 40 ≤ 140737488355328 := by omega
    repeat' first | refine zzs ?_ | refine zzb ?_ | refine zzk ?_
    first | refine zzr hnt rfl ?_ ?_ | refine zzd hnt rfl ?_ ?_
    · exact zzt
    repeat' first | refine zzs ?_ | refine zzb ?_ | refine zzk ?_
    first | refine zzr hnt rfl ?_ ?_ | refine zzd hnt rfl ?_ ?_
    · exact zza
    refine tr_le (s' := St.of [(1, .one (.e (eI (m : Int)))), (3, .one (.e (.sl (l.map eUs)))), (4, .one (.ptr 4 0 0)), (6, .one (.ptr 6 0 0)), (8, .one (.ptr 8 0 0)), (11, .one (.e (eI 0))), (12, .one (.e (eI (n + 1)))), (13, .one (.e (eI (j : Int)))), (14, .one (.ptr 14 0 0)), (17, .one (.own 69 0)), ((1000000 + 5), .one (.eptr fsE)), ((1000000 + 6), .one (.eptr acE))] [(4, ⟨0, .box (.es (eTab t')), 0⟩), (6, ⟨0, .box (.es (eEx x)), 0⟩), (8, ⟨0, .box (.es (eTab tz)), 0⟩), (14, ⟨0, .box (.es (eCel ⟨cf, cr⟩)), 0⟩), (69, ⟨0, .row 4 (cr.map eVal), 0⟩)]) (le_of (ad := []) ⟨zzl, zzl, zzl, zzl, zzl, zzl, zzl, zzl, zzl, zzl, zzl, zzl, trivial⟩ (memOk_box rfl rfl rfl (memOk_box rfl rfl rfl (memOk_box rfl rfl rfl (memOk_box rfl rfl rfl (memOk_row rfl rfl (List.nil_append _) trivial)))))) ?_
    have hul := usLen l
    repeat' first | refine zzs ?_ | refine zzr hnt rfl ?_ ?_ | refine zzd hnt rfl ?_ ?_ | refine zzb ?_ | refine zzk ?_
    · exact zzt
    repeat' first | refine zzs ?_ | refine zzb ?_ | refine zzk ?_
    refine tr_loop (σ := Nat × Int × List Val) (fun z => St.of [(1, .one (.e (eI (m : Int)))), (3, .one (.e (.sl (l.map eUs)))), (4, .one (.ptr 4 0 0)), (6, .one (.ptr 6 0 0)), (8, .one (.ptr 8 0 0)), (11, .one (.e (eI z.2.1))), (12, .one (.e (eI (n + 1)))), (13, .one (.e (eI (j : Int)))), (14, .one (.ptr 14 0 0)), (17, .one (.own 69 0)), (73, .one (.e (.sl (l.map eUs)))), (74, .one (.e (eI ((l.map eUs).length : Int)))), (75, .one (.e (eI (z.1 : Int)))), ((1000000 + 5), .one (.eptr fsE)), ((1000000 + 6), .one (.eptr acE))] [(4, ⟨0, .box (.es (eTab t')), 0⟩), (6, ⟨0, .box (.es (eEx x)), 0⟩), (8, ⟨0, .box (.es (eTab tz)), 0⟩), (14, ⟨0, .box (.es (eCel ⟨cf, cr⟩)), 0⟩), (69, ⟨0, .row 4 (z.2.2.map eVal), 0⟩)]) (fun z => z.2.2.length = t'.c.length ∧ z.1 ≤ l.length ∧ inJ t'.c cr l z.1 z.2.1 z.2.2) (fun z => l.length - z.1) ((0, 0, cr)) (le_of (ad := []) ⟨zzl, zzl, zzl, zzl, zzl, zzl, zzl, zzl, zzl, zzl, zzl, zzl, zzl, zzl, zzl, trivial⟩ (memOk_box rfl rfl rfl (memOk_box rfl rfl rfl (memOk_box rfl rfl rfl (memOk_box rfl rfl rfl (memOk_row rfl rfl rfl trivial)))))) ⟨r2, Nat.zero_le _, .inl ⟨rfl, rfl⟩⟩ ?_
    rintro ⟨k, e, next⟩ ⟨hnl, kl, hin⟩
    dsimp only at hnl kl hin ⊢
    repeat' first | refine zzs ?_ | refine zzr hnt rfl ?_ ?_ | refine zzd hnt rfl ?_ ?_ | refine zzb ?_ | refine zzk ?_
    · exact zzt
    repeat' first | refine zzs ?_ | refine zzb ?_ | refine zzk ?_
    refine tr_cond rfl (fun hc => ?_) (fun hc => ?_)
    rotate_left
    · simp only [zz1, zz2, zz3, zz4, zz5, zz6, zz7, zz8] at hc
      (try simp only [hul] at hc)
      (try simp only [zz1, zz2, zz3, zz4, zz5, zz6, zz7, zz8] at hc)
      unfold inJ at hin
      rw [show l.drop k = [] from List.drop_eq_nil_of_le (by omega)] at hin
      have hput := hput next
      have hJ2 : (e = 0 ∧ upW x l m (4 - (j + 1)) (j + 1) (putT t' m j ⟨true, next⟩) (n + 1) = Z ∧ (putT t' m j ⟨true, next⟩).ok ∧ t'.c = t.c ∧ celF t.c ((putT t' m j ⟨true, next⟩).d.getD m []) = 0) ∨ (e ≠ 0 ∧ (tz, 0, e) = Z) := by
        rcases hin with ⟨h0, h1⟩ | ⟨h0, h1⟩
        · rw [← h1, chF] at hW hup
          rw [if_neg (not_not_intro rfl)] at hW
          obtain ⟨u1, u2⟩ := hup rfl
          exact .inl ⟨h0, hW, u1, hcc, by rw [← hcc]; exact u2⟩
        · rw [h1, if_pos h0] at hW
          exact .inr ⟨h0, hW⟩
      refine tr_exit ?_
      refine tr_le (le_frz 17 rfl rfl) ?_
      repeat' first | refine zzs ?_ | refine zzb ?_ | refine zzk ?_
      first | refine zzr hnt rfl ?_ ?_ | refine zzd hnt rfl ?_ ?_
      · exact zza
      refine tr_le (s' := St.of [(1, .one (.e (eI (m : Int)))), (3, .one (.e (.sl (l.map eUs)))), (4, .one (.ptr 4 0 0)), (6, .one (.ptr 6 0 0)), (8, .one (.ptr 8 0 0)), (11, .one (.e (eI e))), (12, .one (.e (eI (n + 1)))), (13, .one (.e (eI (j : Int)))), ((1000000 + 5), .one (.eptr fsE)), ((1000000 + 6), .one (.eptr acE))] [(4, ⟨0, .box (.es (eTab (putT t' m j ⟨true, next⟩))), 0⟩), (6, ⟨0, .box (.es (eEx x)), 0⟩), (8, ⟨0, .box (.es (eTab tz)), 0⟩)]) (le_of (ad := []) ⟨zzl, zzl, zzl, zzl, zzl, zzl, zzl, zzl, zzl, zzl, trivial⟩ (memOk_box rfl rfl hput (memOk_box rfl rfl rfl (memOk_box rfl rfl rfl trivial)))) ?_
      repeat' first | refine zzs ?_ | refine zzr hnt rfl ?_ ?_ | refine zzd hnt rfl ?_ ?_ | refine zzb ?_ | refine zzk ?_
      · exact zzt
      refine ⟨(j + 1, putT t' m j ⟨true, next⟩, n + 1, e), ⟨by dsimp only; omega, by dsimp only; omega, by dsimp only; omega, hJ2⟩, by dsimp only; omega, le_of (ad := []) ⟨zzl, zzl, zzl, zzl, zzl, zzl, zzl, zzl, zzl, zzl, trivial⟩ (memOk_box rfl rfl rfl (memOk_box rfl rfl rfl (memOk_box rfl rfl rfl trivial)))⟩
    simp only [zz1, zz2, zz3, zz4, zz5, zz6, zz7, zz8] at hc
    (try simp only [hul] at hc)
    (try simp only [zz1, zz2, zz3, zz4, zz5, zz6, zz7, zz8] at hc)
    have hlt : k < l.length := by omega
    have hg := usGet l k hlt
    have hmem := getD_mem (d := use0) hlt
    obtain ⟨hxs, hs1, hs2, _⟩ := hst' _ hmem
    have hxf := ko_ex hs2
    have hnx := inJ_step hin hlt hxf hr0
    repeat' first | refine zzs ?_ | refine zzb ?_ | refine zzk ?_
    first | refine zzr hnt rfl ?_ ?_ | refine zzd hnt rfl ?_ ?_
    · rw [Int.toNat_natCast, hg, hul]
      exact zza
    rw [Int.toNat_natCast, hg]
    generalize l.getD k use0 = s at *
    have hev := valued_all t'.c cr r2 r3 hun (nodes s.x) s.x (Nat.le_refl _) hxs (exF_ok hxf)
    rw [← usX s] at hev
    generalize (thO t'.c s.x).ev cr = z at *
    obtain ⟨v, f⟩ := z
    dsimp only at hnx
    repeat' first | refine zzs ?_ | refine zzb ?_ | refine zzk ?_
    refine tr_region (zzx hnt rfl ?_ (call rfl rfl rfl rfl rfl rfl rfl hnt (hev) (zzx hnt rfl ?_ (Lex.nil _)))) ?_
    · exact zza
    · exact zza
    have hcf := columnAt_fn t'.c s.c
    rw [colAt_eq hun] at hcf
    have hrg := fs_rng t'.c s.c
    repeat' first | refine zzs ?_ | refine zzb ?_ | refine zzk ?_
    refine tr_region (zzx hnt rfl ?_ (call rfl rfl rfl rfl rfl rfl rfl hnt (hcf) (zzx hnt rfl ?_ (Lex.nil _)))) ?_
    · exact zzt
    · exact zzt
    obtain ⟨q, hq⟩ : ∃ q : Nat, fsF t'.c s.c 0 = q := ⟨(fsF t'.c s.c 0).toNat, by omega⟩
    rw [hq] at hrg hnx ⊢
    have hql : q < t'.c.length := by omega
    have hcl2 : ((eTab t').getD (0 + 2) E.dflt).xs.length = t'.c.length := colsLen t'.c
    have hcg : ((eTab t').getD (0 + 2) E.dflt).xs.getD q [] = eCol (t'.c.getD q col0) := colsGet t'.c q hql
    rw [Int.toNat_natCast] at hnx
    refine tr_le (s' := St.of [(1, .one (.e (eI (m : Int)))), (3, .one (.e (.sl (l.map eUs)))), (4, .one (.ptr 4 0 0)), (6, .one (.ptr 6 0 0)), (8, .one (.ptr 8 0 0)), (11, .one (.e (eI e))), (12, .one (.e (eI (n + 1)))), (13, .one (.e (eI (j : Int)))), (14, .one (.ptr 14 0 0)), (17, .one (.own 69 0)), (20, .one (.ptr 20 0 0)), (21, .one (.e (eI f))), (22, .one (.e (eI (q : Int)))), (73, .one (.e (.sl (l.map eUs)))), (74, .one (.e (eI ((l.map eUs).length : Int)))), (75, .one (.e (eI (k : Int)))), ((1000000 + 5), .one (.eptr fsE)), ((1000000 + 6), .one (.eptr acE))] [(4, ⟨0, .box (.es (eTab t')), 0⟩), (6, ⟨0, .box (.es (eEx x)), 0⟩), (8, ⟨0, .box (.es (eTab tz)), 0⟩), (14, ⟨0, .box (.es (eCel ⟨cf, cr⟩)), 0⟩), (69, ⟨0, .row 4 (next.map eVal), 0⟩), (20, ⟨0, .box (.es (eVal v)), 0⟩)]) (le_of (ad := []) ⟨zzl, zzl, zzl, zzl, zzl, zzl, zzl, zzl, zzl, zzl, zzl, zzl, zzl, zzl, zzl, zzl, zzl, zzl, trivial⟩ (memOk_box rfl rfl rfl (memOk_box rfl rfl rfl (memOk_box rfl rfl rfl (memOk_box rfl rfl rfl (memOk_row rfl rfl rfl (memOk_box rfl rfl rfl trivial))))))) ?_
    repeat' first | refine zzs ?_ | refine zzb ?_ | refine zzk ?_
    first | refine zzr hnt rfl ?_ ?_ | refine zzd hnt rfl ?_ ?_
    · rw [Int.toNat_natCast, hcg, hcl2]
      exact zza
    rw [Int.toNat_natCast, hcg]
    generalize t'.c.getD q col0 = c at *
    have hoq : q < next.length := by omega
    have hol2 : (next.map eVal).length = next.length := List.length_map ..
    have hset := setV next (q := q) hoq v
    repeat' first | refine zzs ?_ | refine zzb ?_ | refine zzk ?_
    refine tr_cond rfl (fun hc => ?_) (fun hc => ?_)
    · have hc : (bif bif bif decide (e = 0) then decide (f = 0) else false then decide (v.k = 0) else false then !c.u else false) = true := hc
      have hx4 : e = 0 ∧ f = 0 ∧ v.k = 0 ∧ c.u = false := by
        cases h1 : decide (e = 0) <;> rw [h1] at hc <;> try cases hc
        cases h2 : decide (f = 0) <;> rw [h2] at hc <;> try cases hc
        cases h3 : decide (v.k = 0) <;> rw [h3] at hc <;> try cases hc
        cases h4 : c.u <;> rw [h4] at hc <;> try cases hc
        exact ⟨of_decide_eq_true h1, of_decide_eq_true h2, of_decide_eq_true h3, rfl⟩
      obtain ⟨rfl, rfl, k0, u0⟩ := hx4
      have hne : (12 : Int) = nxE 0 0 v c.u := by
        unfold nxE
        rw [if_neg (not_not_intro rfl), if_neg (not_not_intro rfl), if_pos ⟨k0, u0⟩]
      repeat' first | refine zzs ?_ | refine zzr hnt rfl ?_ ?_ | refine zzd hnt rfl ?_ ?_ | refine zzb ?_ | refine zzk ?_
      · exact zzt
      · exact zzt
      repeat' first | refine zzs ?_ | refine zzb ?_ | refine zzk ?_
      refine tr_cond rfl (fun hc => ?_) (fun hc => ?_)
      rotate_left
      · exact absurd hc (by decide)
      repeat' first | refine zzs ?_ | refine zzb ?_ | refine zzk ?_
      first | refine zzr hnt rfl ?_ ?_ | refine zzd hnt rfl ?_ ?_
      · exact zzt
      repeat' first | refine zzs ?_ | refine zzb ?_ | refine zzk ?_
      first | refine zzr hnt rfl ?_ ?_ | refine zzd hnt rfl ?_ ?_
      · rw [hol2]
        exact zza
      repeat' first | refine zzs ?_ | refine zzr hnt rfl ?_ ?_ | refine zzd hnt rfl ?_ ?_ | refine zzb ?_ | refine zzk ?_
      · exact zzt
      refine ⟨(k + 1, 12, next.set q v), ⟨by dsimp only; rw [List.length_set]; exact hnl, hlt, by dsimp only; rw [hne]; exact hnx⟩, by dsimp only; omega, le_of (ad := []) ⟨zzl, zzl, zzl, zzl, zzl, zzl, zzl, zzl, zzl, zzl, zzl, zzl, zzl, zzl, zzl, trivial⟩ (memOk_box rfl rfl rfl (memOk_box rfl rfl rfl (memOk_box rfl rfl rfl (memOk_box rfl rfl rfl (memOk_row rfl rfl hset trivial)))))⟩
    have hcN : (bif bif bif decide (e = 0) then decide (f = 0) else false then decide (v.k = 0) else false then !c.u else false) = false := hc
    clear hc
    repeat' first | refine zzs ?_ | refine zzr hnt rfl ?_ ?_ | refine zzd hnt rfl ?_ ?_ | refine zzb ?_ | refine zzk ?_
    · exact zzt
    repeat' first | refine zzs ?_ | refine zzb ?_ | refine zzk ?_
    refine tr_cond rfl (fun hc => ?_) (fun hc => ?_)
    · have he0 : e = 0 := of_decide_eq_true hc
      subst he0
      have hne : f = nxE 0 f v c.u := by
        unfold nxE
        rw [if_neg (not_not_intro rfl)]
        by_cases hf0 : f = 0
        · rw [if_neg (not_not_intro hf0), if_neg ?_]
          · exact hf0
          · rintro ⟨k0, u0⟩
            rw [hf0, decide_eq_true k0, u0] at hcN
            cases hcN
        · rw [if_pos hf0]
      repeat' first | refine zzs ?_ | refine zzb ?_ | refine zzk ?_
      first | refine zzr hnt rfl ?_ ?_ | refine zzd hnt rfl ?_ ?_
      · exact zzt
      repeat' first | refine zzs ?_ | refine zzb ?_ | refine zzk ?_
      first | refine zzr hnt rfl ?_ ?_ | refine zzd hnt rfl ?_ ?_
      · rw [hol2]
        exact zza
      repeat' first | refine zzs ?_ | refine zzr hnt rfl ?_ ?_ | refine zzd hnt rfl ?_ ?_ | refine zzb ?_ | refine zzk ?_
      · exact zzt
      refine ⟨(k + 1, f, next.set q v), ⟨by dsimp only; rw [List.length_set]; exact hnl, hlt, by dsimp only; rw [hne]; exact hnx⟩, by dsimp only; omega, le_of (ad := []) ⟨zzl, zzl, zzl, zzl, zzl, zzl, zzl, zzl, zzl, zzl, zzl, zzl, zzl, zzl, zzl, trivial⟩ (memOk_box rfl rfl rfl (memOk_box rfl rfl rfl (memOk_box rfl rfl rfl (memOk_box rfl rfl rfl (memOk_row rfl rfl hset trivial)))))⟩
    have he0 : ¬ e = 0 := of_decide_eq_false hc
    have hne : e = nxE e f v c.u := by
      unfold nxE
      rw [if_pos he0]
    repeat' first | refine zzs ?_ | refine zzb ?_ | refine zzk ?_
    first | refine zzr hnt rfl ?_ ?_ | refine zzd hnt rfl ?_ ?_
    · rw [hol2]
      exact zza
    repeat' first | refine zzs ?_ | refine zzr hnt rfl ?_ ?_ | refine zzd hnt rfl ?_ ?_ | refine zzb ?_ | refine zzk ?_
    · exact zzt
    refine ⟨(k + 1, e, next.set q v), ⟨by dsimp only; rw [List.length_set]; exact hnl, hlt, by dsimp only; rw [hne]; exact hnx⟩, by dsimp only; omega, le_of (ad := []) ⟨zzl, zzl, zzl, zzl, zzl, zzl, zzl, zzl, zzl, zzl, zzl, zzl, zzl, zzl, zzl, trivial⟩ (memOk_box rfl rfl rfl (memOk_box rfl rfl rfl (memOk_box rfl rfl rfl (memOk_box rfl rfl rfl (memOk_row rfl rfl hset trivial)))))⟩
  · have hc : (bif decide ((j : Int) < 4) then decide (e = 0) else false) = false := hc
    refine tr_exit ?_
    rcases hJ with ⟨rfl, hW, hok, hcc, hce⟩ | ⟨he, hJ⟩
    rotate_left
    · clear hc
      rw [← hJ]
      repeat' first | refine zzs ?_ | refine zzr hnt rfl ?_ ?_ | refine zzd hnt rfl ?_ ?_ | refine zzb ?_ | refine zzk ?_
      · exact zzt
      repeat' first | refine zzs ?_ | refine zzb ?_ | refine zzk ?_
      refine tr_cond rfl (fun hc => ?_) (fun hc => ?_)
      · exact absurd (of_decide_eq_true hc) he
      clear hc
      repeat' first | refine zzs ?_ | refine zzr hnt rfl ?_ ?_ | refine zzd hnt rfl ?_ ?_ | refine zzb ?_ | refine zzk ?_
      · exact zzt
      repeat' first | refine zzs ?_ | refine zzb ?_ | refine zzk ?_
      refine tr_cond rfl (fun hc => ?_) (fun hc => ?_)
      · repeat' first | refine zzs ?_ | refine zzr hnt rfl ?_ ?_ | refine zzd hnt rfl ?_ ?_ | refine zzb ?_ | refine zzk ?_
        · exact zzt
        repeat' first | refine zzs ?_ | refine zzb ?_ | refine zzk ?_
        refine tr_ret ⟨.inr rfl, _, _, rfl, zzp, ?_⟩
        exact rfl
      simp only [zz1, zz2, zz3, zz4, zz5, zz6, zz7, zz8] at hc
      exact absurd hc he
    have hj : j = 4 := by
      by_cases h4 : j = 4
      · exact h4
      · rw [show decide ((j : Int) < 4) = true from decide_eq_true (by omega)] at hc
        cases hc
    subst hj
    clear hc
    have hW : (if kF [] (t'.d.getD m []) ≠ 0 then (tz, 0, kF [] (t'.d.getD m [])) else (t', n, (0 : Int))) = Z := hW
    have h19' := tabLen hok
    have f19' : 0 + 19 ≤ (Cs.es (eTab t')).len := by show 0 + 19 ≤ (eTab t').length; omega
    have hmd : m < t'.d.length := by rw [hok.h2]; omega
    have hm := memD (d := []) hmd
    have h4 := hok.h4 _ hm
    have hg : List.take 8 (List.drop (0 + 3 + (m : Int).toNat * 8) (eTab t')) = eDr (t'.d.getD m []) := tabDrw hok (by omega)
    have l8 : 0 + 3 + (m : Int).toNat * 8 + 8 ≤ (Cs.es (eTab t')).len := by show 0 + 3 + m * 8 + 8 ≤ (eTab t').length; omega
    have e8 : (Cs.es (List.take 8 (List.drop (0 + 3 + (m : Int).toNat * 8) (eTab t')))).len = 8 := by rw [hg]; exact drLen _ h4
    have hk := keysFault_fn (t'.d.getD m []) h4 (celF_kOk p4 hce)
    rw [← hg] at hk
    generalize kF [] (t'.d.getD m []) = k at *
    repeat' first | refine zzs ?_ | refine zzr hnt rfl ?_ ?_ | refine zzd hnt rfl ?_ ?_ | refine zzb ?_ | refine zzk ?_
    · exact zzt
    repeat' first | refine zzs ?_ | refine zzb ?_ | refine zzk ?_
    refine tr_cond rfl (fun hc => ?_) (fun hc => ?_)
    rotate_left
    · exact absurd hc (by decide)
    clear hc
    repeat' first | refine zzs ?_ | refine zzb ?_ | refine zzk ?_
    refine tr_region (zzx hnt rfl ?_ (call rfl rfl rfl rfl rfl rfl rfl hnt (hk) (zzx hnt rfl ?_ (Lex.nil _)))) ?_
    · exact zza
    · exact zza
    repeat' first | refine zzs ?_ | refine zzr hnt rfl ?_ ?_ | refine zzd hnt rfl ?_ ?_ | refine zzb ?_ | refine zzk ?_
    · exact zzt
    repeat' first | refine zzs ?_ | refine zzb ?_ | refine zzk ?_
    refine tr_cond rfl (fun hc => ?_) (fun hc => ?_)
    · simp only [zz1, zz2, zz3, zz4, zz5, zz6, zz7, zz8] at hc
      rw [if_pos hc] at hW
      rw [← hW]
      repeat' first | refine zzs ?_ | refine zzr hnt rfl ?_ ?_ | refine zzd hnt rfl ?_ ?_ | refine zzb ?_ | refine zzk ?_
      · exact zzt
      repeat' first | refine zzs ?_ | refine zzb ?_ | refine zzk ?_
      refine tr_ret ⟨.inr rfl, _, _, rfl, zzp, ?_⟩
      exact rfl
    simp only [zz1, zz2, zz3, zz4, zz5, zz6, zz7, zz8] at hc
    rw [if_neg (not_not_intro hc)] at hW
    rw [← hW]
    have e19' : (Cs.es (List.take 19 (List.drop 0 (eTab t')))).len = 19 := by rw [tabAll hok]; exact h19'
    repeat' first | refine zzs ?_ | refine zzb ?_ | refine zzk ?_
    first | refine zzr hnt rfl ?_ ?_ | refine zzd hnt rfl ?_ ?_
    · exact zza
    rw [tabAll hok, tzPut]
    repeat' first | refine zzs ?_ | refine zzb ?_ | refine zzk ?_
    refine tr_ret ⟨.inr rfl, _, _, rfl, ?_, ?_⟩
    · exact zza
    rw [tabAll hok]
    rfl
end Go.Proofs.YthnadkafegmacaaGreatDoor
