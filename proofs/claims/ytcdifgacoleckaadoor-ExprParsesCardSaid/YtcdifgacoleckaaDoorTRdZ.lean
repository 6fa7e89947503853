/- Reading of expressions: what Ahead answers; its panics are recovered. No condition. -/
import Derived.Test.YtcdifgacoleckaaDoorTRdY
namespace Go.Proofs.YtcdifgacoleckaaDoor
open Go Go.RowKit Go.Proofs.YtcdifgacoleckaaDoor.Ab
set_option linter.unusedSimpArgs false
set_option linter.unusedVariables false

theorem pu77 (e : Ex) : List.take 0 (eEx e) ++ List.take 7 (List.drop 0 (eEx e)) ++ List.drop (0 + 7) (eEx e) = eEx e := by rw [eEx_eq]; rfl
theorem und20 : Tryd.prog.underlying 20 = some (.interface #[]) := by kernel_rfl
def msA (c4 : Blk) (a b c : Int) : List (Nat × Blk) := [(900000, c4), (900001, ⟨0, .box (.es [eI a]), 0⟩), (900002, ⟨0, .box (.es [eI b]), 0⟩), (900003, ⟨0, .box (.es [eI c]), 0⟩)]
abbrev arA : List D := [.one (.ptr 900000 0 0), .one (.ptr 900001 0 0), .one (.ptr 900002 0 0), .one (.ptr 900003 0 0)]
abbrev zeA : Blk := ⟨0, .box (.ds [.e (eI 0), .e (eI 0), .e (eI 0), .e (eQ 0), .e (eT []), .e (eT []), .nil]), 0⟩
set_option maxRecDepth 10000 in
set_option maxHeartbeats 2000000 in
theorem idle_fn (e : Ex) (a b c : Int) : FnHD Tryd.prog 10 (msA ⟨0, .box (.es (eEx e)), 0⟩ a b c) arA .returning .returning (msA ⟨0, .box (.es (eEx e)), 0⟩ a b c) := by
  have w7 : (Cs.es (eEx e)).len = 7 := by rw [eEx_eq]; rfl
  refine fn_introHD (u := .returning) (t := 7) (t2 := 4) Tryd.func10 rfl rfl rfl rfl rfl rfl rfl rfl rfl rfl (by kernel_rfl) (by simp [Tryd.ntmps10]) (by rw [eEx_eq]; rfl) (by rfl) rfl ?_
  intro X hX
  have hnt : X.nt = 23 := hX
  repeat' first | refine zzs ?_ | refine zzb ?_ | refine zzk ?_
  refine tr_region (.cons (opT_step tOk hnt rfl trivial) (.cons (opT_nilI (v := .nilIface) rfl rfl rfl (by rw [hnt]; rfl) rfl rfl rfl und20) (.nil _))) ?_
  repeat' first | refine zzs ?_ | refine zzb ?_ | refine zzk ?_
  refine tr_cond rfl (fun hc => ?_) (fun hc => ?_)
  · exact absurd hc Bool.noConfusion
  repeat' first | refine zzs ?_ | refine zzb ?_ | refine zzk ?_
  exact ⟨.inl rfl, fun X => le_of (ad := []) ⟨⟨rfl, rfl, rfl, rfl, rfl⟩, ⟨rfl, rfl, rfl, rfl, rfl⟩, ⟨rfl, rfl, rfl, rfl, rfl⟩, ⟨rfl, rfl, rfl, rfl, rfl⟩, trivial⟩ (memOk_box rfl rfl rfl (memOk_box rfl rfl rfl (memOk_box rfl rfl rfl (memOk_box rfl rfl rfl trivial))))⟩
set_option maxRecDepth 10000 in
set_option maxHeartbeats 2000000 in
theorem saved_fn (s : Spot) : FnHD Tryd.prog 10 (msA zeA 0 0 0) arA (.panicking (chS s)) (recU (.panicking (chS s))).2 (msA zeA 0 (s.p : Int) s.e) := by
  refine fn_introHD (u := .panicking (chS s)) (t := 7) (t2 := 4) Tryd.func10 rfl rfl rfl rfl rfl rfl rfl rfl rfl rfl (by kernel_rfl) (by simp [Tryd.ntmps10]) rfl rfl rfl ?_
  intro X hX
  have hnt : X.nt = 23 := hX
  repeat' first | refine zzs ?_ | refine zzb ?_ | refine zzk ?_
  refine tr_region (.cons (opT_step tOk hnt rfl trivial) (.cons (opT_nilI (v := .iface 41 (.agg #[.int .i64 (s.p : Int), .int .i64 s.e])) rfl rfl rfl (by rw [hnt]; rfl) rfl rfl rfl und20) (.nil _))) ?_
  repeat' first | refine zzs ?_ | refine zzb ?_ | refine zzk ?_
  refine tr_cond rfl (fun hc => ?_) (fun hc => ?_)
  · repeat' first | refine zzs ?_ | refine zzr hnt rfl ?_ ?_ | refine zzd hnt rfl ?_ ?_ | refine zzb ?_ | refine zzk ?_
    · exact zzt
    · exact zzt
    repeat' first | refine zzs ?_ | refine zzb ?_ | refine zzk ?_
    refine tr_cond rfl (fun hc => ?_) (fun hc => ?_)
    · exact absurd hc Bool.noConfusion
    repeat' first | refine zzs ?_ | refine zzr hnt rfl ?_ ?_ | refine zzd hnt rfl ?_ ?_ | refine zzb ?_ | refine zzk ?_
    · exact zzt
    exact ⟨.inl rfl, fun X => le_of (ad := []) ⟨⟨rfl, rfl, rfl, rfl, rfl⟩, ⟨rfl, rfl, rfl, rfl, rfl⟩, ⟨rfl, rfl, rfl, rfl, rfl⟩, ⟨rfl, rfl, rfl, rfl, rfl⟩, trivial⟩ (memOk_box rfl rfl ⟨rfl, rfl, rfl, rfl, rfl, rfl, trivial, trivial⟩ (memOk_box rfl rfl rfl (memOk_box rfl rfl rfl (memOk_box rfl rfl rfl trivial))))⟩
  exact absurd hc Bool.noConfusion
set_option maxRecDepth 10000 in
set_option maxHeartbeats 2000000 in
theorem ahead_fn (l : List Tok) (ho : tksOk l) (fr : Int) : FnG Tryd.prog 5 gK [.one (.e (eTks l)), .one (.e (eI fr))] (outR (rdF l fr)) := by
  have h1 : (l.map eTok).length = l.length := List.length_map ..
  refine fn_introDf (T := tab) tOk Tryd.func5 rfl (by kernel_rfl) (by simp [Tryd.ntmps5]) ?_
  intro X hX
  have hnt : X.nt = 30 := hX
  clear hX
  repeat' first | refine zzs ?_ | refine zzb ?_ | refine zzk ?_
  first | refine zzr hnt rfl ?_ ?_ | refine zzd hnt rfl ?_ ?_
  · exact zzt
  repeat' first | refine zzs ?_ | refine zzb ?_ | refine zzk ?_
  first | refine zzr hnt rfl ?_ ?_ | refine zzd hnt rfl ?_ ?_
  · exact zzt
  repeat' first | refine zzs ?_ | refine zzb ?_ | refine zzk ?_
  refine tr_cond rfl (fun hc => ?_) (fun hc => ?_)
  · simp only [zz1, zz2, zz3, zz4, zz5, zz6, zz7, zz8] at hc
    (try simp only [h1] at hc)
    (try simp only [zz1, zz2, zz3, zz4, zz5, zz6, zz7, zz8] at hc)
    have hr : rdF l fr = (ex0, 0, 0, 6) := by
      unfold rdF
      rw [if_pos (by omega)]
    rw [hr]
    repeat' first | refine zzs ?_ | refine zzr hnt rfl ?_ ?_ | refine zzd hnt rfl ?_ ?_ | refine zzb ?_ | refine zzk ?_
    · exact zzt
    exact tr_ret ⟨.inr rfl, _, _, rfl, (by repeat' first | exact trivial | exact Nat.le_of_ble_eq_true rfl | exact rfl | apply And.intro), congrArg (fun x => D.tup [(true, Cs.es x), (false, Cs.es _), (false, Cs.es _), (false, Cs.es _)]) (by rw [eEx_eq]; rfl)⟩
  simp only [zz1, zz2, zz3, zz4, zz5, zz6, zz7, zz8] at hc
  (try simp only [h1] at hc)
  (try simp only [zz1, zz2, zz3, zz4, zz5, zz6, zz7, zz8] at hc)
  obtain ⟨p, rfl⟩ : ∃ p : Nat, fr = (p : Int) := ⟨fr.toNat, by omega⟩
  have hp : p ≤ l.length := by omega
  have hz := rd_all l ho (l.length * 8 + 8) 0 p (by omega) hp (by omega)
  unfold Rds fnOf at hz
  generalize hw : rdF l (p : Int) = w at *
  unfold rdF at hw
  rw [if_neg (by omega), Int.toNat_natCast] at hw
  generalize climbF l (l.length * 8 + 8) 0 ⟨p, 0⟩ = r at *
  obtain ⟨e1, s1⟩ := r
  have w7 : (Cs.es (eEx e1)).len = 7 := by rw [eEx_eq]; rfl
  have w8 : (Cs.es (List.take 7 (List.drop 0 (eEx e1)))).len = 7 := by rw [tk7]; exact w7
  repeat' first | refine zzs ?_ | refine zzb ?_ | refine zzk ?_
  repeat' first | refine zzs ?_ | refine zzb ?_ | refine zzk ?_
  first | refine zzr hnt rfl ?_ ?_ | refine zzd hnt rfl ?_ ?_
  · exact zzt
  refine ⟨1, _, _, _, _, 10, [(4, 0, 0), (5, 0, 0), (6, 0, 0), (7, 0, 0)], zzx hnt rfl (by exact zzt) (Lex.nil _), rfl, rfl, rfl, rfl, rfl, rfl, rfl, rfl, rfl, rfl, ?_⟩
  intro X' hX'
  replace hnt : X'.nt = 30 := hX'.trans hnt
  refine tr_le (s' := St.of [(4, .one (.ptr 4 0 0)), (5, .one (.ptr 5 0 0)), (6, .one (.ptr 6 0 0)), (7, .one (.ptr 7 0 0)), (8, .one (.ptr 21 0 0)), (900000, .one (.ptr 4 0 0)), (900001, .one (.ptr 5 0 0)), (900002, .one (.ptr 6 0 0)), (900003, .one (.ptr 7 0 0)), ((1000000 + 3), .one (.eptr fsE)), ((1000000 + 4), .one (.eptr acE))] [(4, zeA), (5, ⟨0, .box (.es [eI 0]), 0⟩), (6, ⟨0, .box (.es [eI 0]), 0⟩), (7, ⟨0, .box (.es [eI 0]), 0⟩), (21, ⟨0, .box (.es (eRd l p)), 0⟩)]) (le_of (ad := []) ⟨zzl, zzl, zzl, zzl, zzl, zzl, zzl, zzl, zzl, zzl, zzl, trivial⟩ (memOk_box rfl rfl ⟨rfl, rfl, rfl, rfl, rfl, rfl, trivial, trivial⟩ (memOk_box rfl rfl rfl (memOk_box rfl rfl rfl (memOk_box rfl rfl rfl (memOk_box rfl rfl ⟨rfl, rfl, trivial⟩ trivial)))))) ?_
  by_cases he : s1.e = 0
  · have hz := hz.1 he
    rw [if_pos he] at hw
    subst hw
    have hE := eEx_eq e1
    repeat' first | refine zzs ?_ | refine zzb ?_ | refine zzk ?_
    refine tr_region (zzx hnt rfl ?_ (callH (us := []) [(900000, 21)] [] [] rfl rfl rfl rfl (hz) (by repeat' first | exact .nil | refine .lent rfl rfl rfl ?_ | refine .data rfl ?_) (fun _ => rfl) rfl rfl hnt rfl rfl (by repeat' first | exact trivial | rfl | apply And.intro) (by repeat' first | exact trivial | rfl | apply And.intro) (zzx hnt rfl ?_ (Lex.nil _)))) ?_
    · exact zza
    · exact zza
    refine tr_le (s' := St.of [(4, .one (.ptr 4 0 0)), (5, .one (.ptr 5 0 0)), (6, .one (.ptr 6 0 0)), (7, .one (.ptr 7 0 0)), (8, .one (.ptr 21 0 0)), (900000, .one (.ptr 4 0 0)), (900001, .one (.ptr 5 0 0)), (900002, .one (.ptr 6 0 0)), (900003, .one (.ptr 7 0 0))] [(4, ⟨0, .box (.es (eEx e1)), 0⟩), (5, ⟨0, .box (.es [eI 0]), 0⟩), (6, ⟨0, .box (.es [eI 0]), 0⟩), (7, ⟨0, .box (.es [eI 0]), 0⟩), (21, ⟨0, .box (.es (eRd l s1.p)), 0⟩)]) (le_of (ad := []) ⟨zzl, zzl, zzl, zzl, zzl, zzl, zzl, zzl, zzl, trivial⟩ (memOk_box rfl rfl rfl (memOk_box rfl rfl rfl (memOk_box rfl rfl rfl (memOk_box rfl rfl rfl (memOk_box rfl rfl rfl trivial)))))) ?_
    repeat' first | refine zzs ?_ | refine zzb ?_ | refine zzk ?_
    first | refine zzr hnt rfl ?_ ?_ | refine zzd hnt rfl ?_ ?_
    · exact zza
    refine tr_le (s' := St.of [(4, .one (.ptr 4 0 0)), (5, .one (.ptr 5 0 0)), (6, .one (.ptr 6 0 0)), (7, .one (.ptr 7 0 0)), (8, .one (.ptr 21 0 0)), (900000, .one (.ptr 4 0 0)), (900001, .one (.ptr 5 0 0)), (900002, .one (.ptr 6 0 0)), (900003, .one (.ptr 7 0 0))] [(4, ⟨0, .box (.es (eEx e1)), 0⟩), (5, ⟨0, .box (.es [eI (s1.p : Int)]), 0⟩), (6, ⟨0, .box (.es [eI 0]), 0⟩), (7, ⟨0, .box (.es [eI 0]), 0⟩), (21, ⟨0, .box (.es (eRd l s1.p)), 0⟩)]) (le_of (ad := []) ⟨zzl, zzl, zzl, zzl, zzl, zzl, zzl, zzl, zzl, trivial⟩ (memOk_box rfl rfl (pu77 e1) (memOk_box rfl rfl rfl (memOk_box rfl rfl rfl (memOk_box rfl rfl rfl (memOk_box rfl rfl rfl trivial)))))) ?_
    exact tr_ret ⟨.inr (.inl rfl), _, msA ⟨0, .box (.es (eEx e1)), 0⟩ (s1.p : Int) 0 0, msA ⟨0, .box (.es (eEx e1)), 0⟩ (s1.p : Int) 0 0, arA, [(900000, 4), (900001, 5), (900002, 6), (900003, 7)], [], idle_fn e1 (s1.p : Int) 0 0, rfl, (by repeat' first | exact .nil | refine .lent rfl rfl rfl ?_), rfl, ⟨rfl, rfl, rfl, rfl, trivial⟩, ⟨rfl, rfl, rfl, rfl, trivial⟩, _, _, rfl, (by (repeat' first | exact trivial | exact Nat.le_of_ble_eq_true rfl | exact rfl | exact Nat.le_of_eq w7.symm | apply And.intro)), congrArg (fun x => D.tup [(true, Cs.es x), (false, Cs.es _), (false, Cs.es _), (false, Cs.es _)]) (tk7 _)⟩
  · have hz := hz.2 he
    rw [if_neg he] at hw
    subst hw
    repeat' first | refine zzs ?_ | refine zzb ?_ | refine zzk ?_
    refine tr_regionK 1 (zzx hnt rfl ?_ (Lex.nil _)) (callP (us := []) [(900000, 21)] [] [] rfl rfl rfl rfl (hz) (by repeat' first | exact .nil | refine .lent rfl rfl rfl ?_ | refine .data rfl ?_) (fun _ => rfl) rfl rfl rfl (by repeat' first | exact trivial | rfl | apply And.intro) (by repeat' first | exact trivial | rfl | apply And.intro)) ?_
    · exact zzt
    exact ⟨.inr (.inr ⟨_, rfl⟩), _, msA zeA 0 0 0, msA zeA 0 (s1.p : Int) s1.e, arA, [(900000, 4), (900001, 5), (900002, 6), (900003, 7)], [], saved_fn s1, rfl, (by repeat' first | exact .nil | refine .lent rfl rfl rfl ?_), rfl, ⟨rfl, rfl, rfl, rfl, trivial⟩, ⟨rfl, rfl, rfl, rfl, trivial⟩, _, _, rfl, (by (repeat' first | exact trivial | exact Nat.le_of_ble_eq_true rfl | exact rfl | apply And.intro)), congrArg (fun x => D.tup [(true, Cs.es x), (false, Cs.es _), (false, Cs.es _), (false, Cs.es _)]) (by rw [eEx_eq]; rfl)⟩
end Go.Proofs.YtcdifgacoleckaaDoor
namespace Go.Proofs.YtcdifgacoleckaaDoor
open Go Go.RowKit Go.Proofs.YtcdifgacoleckaaDoor.Ab
set_option linter.unusedSimpArgs false
set_option linter.unusedVariables false

def tksFit (l : List Tok) : Prop := tksOk l ∧ ∀ t ∈ l, -9223372036854775808 ≤ t.i ∧ t.i ≤ 9223372036854775807
theorem tksFit.at {l : List Tok} (h : tksFit l) {i : Nat} (hi : i < l.length) : -9223372036854775808 ≤ (l.getD i tok0).i ∧ (l.getD i tok0).i ≤ 9223372036854775807 := by
  rw [List.getD_eq_getElem?_getD, List.getElem?_eq_getElem hi]
  exact h.2 _ (List.getElem_mem hi)
theorem fit_mk {k i : Int} {b : BitVec 64} {t : Byt} (h1 : 0 ≤ k ∧ k ≤ 20) (h2 : -9223372036854775808 ≤ i ∧ i ≤ 9223372036854775807) (h3 : t.length ≤ maxLen) : Val.fit ⟨k, i, b, t⟩ :=
  ⟨⟨⟨by show _ ≤ k; omega, by show k ≤ _; omega⟩, h2⟩, h3⟩
theorem fit0 : val0.fit := fit_mk ⟨by decide, by decide⟩ ⟨by decide, by decide⟩ (Nat.zero_le _)
theorem ok_mk {op : Int} {v : Val} {n : Byt} {ar : List Ex} (h1 : 0 ≤ op ∧ op ≤ 20) (h2 : v.fit) (h3 : n.length ≤ maxLen) (h4 : ar.length ≤ 2) (h5 : exOkL ar) : exOk (.mk op v n ar) := by
  rw [exOk]
  exact ⟨⟨by omega, by omega⟩, h2, h3, Nat.le_trans h4 (by decide), h5⟩
theorem ok_lit {v : Val} (h : v.fit) : exOk (litE v) := ok_mk ⟨by decide, by decide⟩ h (Nat.zero_le _) (Nat.zero_le _) trivial
theorem ok_one {op : Int} {e : Ex} (h1 : 0 ≤ op ∧ op ≤ 20) (h : exOk e) : exOk (.mk op val0 [] [e]) := ok_mk h1 fit0 (Nat.zero_le _) (Nat.le_of_ble_eq_true rfl) ⟨h, trivial⟩
theorem ok_two {op : Int} {e f : Ex} (h1 : 0 ≤ op ∧ op ≤ 20) (h : exOk e) (g : exOk f) : exOk (.mk op val0 [] [e, f]) := ok_mk h1 fit0 (Nat.zero_le _) (Nat.le_of_ble_eq_true rfl) ⟨h, g, trivial⟩
theorem ok_ex0 : exOk ex0 := ok_mk ⟨by decide, by decide⟩ fit0 (Nat.zero_le _) (Nat.zero_le _) trivial
theorem opAt_rng (l : List Tok) (s : Spot) (lv : Nat) : 0 ≤ opAtF l s lv ∧ opAtF l s lv ≤ 20 := by
  unfold opAtF
  cases hf : (opsF lv).find? fun op => seesF l s (mkS op) with
  | none => exact ⟨by decide, by decide⟩
  | some o =>
    have := List.mem_of_find?_eq_some hf
    show 0 ≤ o ∧ o ≤ 20
    unfold opsF at this
    split at this <;> simp at this <;> omega
theorem lp_ok {l : List Tok} {nx : Spot → Ex × Spot} (hn : ∀ s, exOk (nx s).1) {lv : Nat} : ∀ (k : Nat) (e : Ex) (t : Spot), exOk e → exOk (lpF l nx lv k e t).1
  | 0, e, t, h => h
  | k + 1, e, t, h => by
    unfold lpF
    split
    · exact h
    · split
      · exact h
      · split
        · exact ok_two (opAt_rng l t lv) h (hn _)
        · exact lp_ok hn k _ _ (ok_two (opAt_rng l t lv) h (hn _))
theorem ground_ok {l : List Tok} (hl : tksFit l) {c0 : Spot → Ex × Spot} (hc : ∀ s, exOk (c0 s).1) (s : Spot) : exOk (groundF l c0 s).1 := by
  unfold groundF
  split
  · exact ok_lit fit0
  split
  · exact ok_lit (fit_mk ⟨by decide, by decide⟩ ⟨by decide, by decide⟩ (Nat.zero_le _))
  split
  · exact ok_lit (fit_mk ⟨by decide, by decide⟩ ⟨by decide, by decide⟩ (Nat.zero_le _))
  split
  · exact hc _
  split
  · exact ok_one ⟨by decide, by decide⟩ (hc _)
  split
  · exact ok_two ⟨by decide, by decide⟩ (hc _) (hc _)
  split
  · rename_i h
    have hlt := (kind_lt (l := l) (s := s) (by rw [h]; decide)).2.1
    exact ok_mk ⟨by decide, by decide⟩ fit0 (hl.1.at hlt) (Nat.zero_le _) trivial
  split
  · rename_i h
    have hlt := (kind_lt (l := l) (s := s) (by rw [h]; decide)).2.1
    exact ok_lit (fit_mk ⟨by decide, by decide⟩ (hl.at hlt) (Nat.zero_le _))
  split
  · exact ok_lit (fit_mk ⟨by decide, by decide⟩ ⟨by decide, by decide⟩ (Nat.zero_le _))
  split
  · rename_i h
    have hlt := (kind_lt (l := l) (s := s) (by rw [h]; decide)).2.1
    exact ok_lit (fit_mk ⟨by decide, by decide⟩ ⟨by decide, by decide⟩ (hl.1.at hlt))
  exact ok_ex0
theorem climb_ok {l : List Tok} (hl : tksFit l) : ∀ (n lv : Nat) (s : Spot), exOk (climbF l n lv s).1
  | 0, _, _ => ok_ex0
  | n + 1, lv, s => by
    have ih := climb_ok hl n
    rw [climbF]
    split
    · split
      · exact ok_one ⟨by decide, by decide⟩ (ih _ _)
      · exact ih _ _
    · split
      · split
        · exact ok_one ⟨by decide, by decide⟩ (ih _ _)
        · exact ground_ok hl (ih 0) s
      · split
        · exact ok_one ⟨by decide, by decide⟩ (ih _ _)
        · exact lp_ok (ih _) _ _ _ (ih _ _)
theorem rd_ok {l : List Tok} (hl : tksFit l) (fr : Int) : exOk (rdF l fr).1 := by
  unfold rdF
  split
  · exact ok_ex0
  · split
    · exact climb_ok hl _ _ _
    · exact ok_ex0
theorem rd_to (l : List Tok) (fr : Int) : 0 ≤ (rdF l fr).2.1 ∧ (rdF l fr).2.1 ≤ (l.length : Int) := by
  unfold rdF
  split
  · exact ⟨Int.le_refl _, Int.natCast_nonneg _⟩
  · rename_i h
    split
    · have := (climb_fwd l (l.length * 8 + 8) 0 ⟨fr.toNat, 0⟩).2 (by show fr.toNat ≤ l.length; omega)
      exact ⟨Int.natCast_nonneg _, Int.ofNat_le.2 this⟩
    · exact ⟨Int.le_refl _, Int.natCast_nonneg _⟩
set_option maxRecDepth 10000 in
set_option maxHeartbeats 2000000 in
theorem exprReads_fn (l : List Tok) (h : tksFit l) (fr : Int) : FnG Tryd.prog 3 (gZ) [.one (.e (eTks l)), .one (.e (eI fr))] (.v (.bool true)) := by
  refine fn_introG (T := tab) tOk Tryd.func3 rfl (by kernel_rfl) (by simp [Tryd.ntmps3]) ?_
  intro X hX
  have hnt : X.nt = 47 := hX
  clear hX
  have h1 := ahead_fn l h.1 fr
  have h2 := read_fn l h.1 fr
  have hx := rd_ok h fr
  generalize rdF l fr = r at *
  obtain ⟨e, a, b, c⟩ := r
  have w7 : (Cs.es (eEx e)).len = 7 := by rw [eEx_eq]; rfl
  have w8 : (Cs.es (List.take 7 (List.drop 0 (eEx e)))).len = 7 := by rw [tk7]; exact w7
  have hs : FnD Tryd.prog 7 [.agg (.es (List.take 7 (List.drop 0 (eEx e)))), .agg (.es (List.take 7 (List.drop 0 (eEx e))))] (.v (.bool true)) := by
    rw [tk7]
    exact sameExpr_fn e hx
  repeat' first | refine zzs ?_ | refine zzr hnt rfl ?_ ?_ | refine zzd hnt rfl ?_ ?_ | refine zzb ?_ | refine zzk ?_
  · exact zzt
  repeat' first | refine zzs ?_ | refine zzb ?_ | refine zzk ?_
  refine tr_region (zzx hnt rfl ?_ (callV rfl rfl rfl rfl rfl rfl rfl hnt rfl (h1) (zzx hnt rfl ?_ (Lex.nil _)))) ?_
  · exact zza
  · exact zza
  repeat' first | refine zzs ?_ | refine zzb ?_ | refine zzk ?_
  refine tr_region (zzx hnt rfl ?_ (callV rfl rfl rfl rfl rfl rfl rfl hnt rfl (h2) (zzx hnt rfl ?_ (Lex.nil _)))) ?_
  · exact zza
  · exact zza
  repeat' first | refine zzs ?_ | refine zzb ?_ | refine zzk ?_
  refine tr_region (zzx hnt rfl ?_ (callG rfl rfl rfl rfl rfl rfl hnt rfl (fun hq => ?_) (fun hq => hs) (zzx hnt rfl ?_ (Lex.nil _)))) ?_
  · exact zza
  · exact zza
  · exact zza
  exact tr_ret ⟨.inr rfl, _, _, rfl, (by (repeat' first | exact trivial | exact Nat.le_of_ble_eq_true rfl | exact rfl | exact Nat.le_of_eq w7.symm | exact Nat.le_of_eq w8.symm | apply And.intro)), congrArg (fun b => D.v (.bool b)) (by simp)⟩
def psF (l : List Tok) : Ex × Int × Int :=
  if 100 < l.length then (ex0, 0, 1)
  else if (rdF l 0).2.2.2 ≠ 0 then (ex0, (rdF l 0).2.2.1, (rdF l 0).2.2.2)
  else if (rdF l 0).2.1 ≠ (l.length : Int) then (ex0, (rdF l 0).2.1, 3)
  else if exF (rdF l 0).1 ≠ 0 then (ex0, 0, exF (rdF l 0).1)
  else ((rdF l 0).1, 0, 0)
abbrev outP (r : Ex × Int × Int) : D := .tup [(true, .es (eEx r.1)), (false, .es [eI r.2.1]), (false, .es [eI r.2.2])]
set_option maxRecDepth 10000 in
set_option maxHeartbeats 2000000 in
theorem parseE_fn (l : List Tok) (h : tksFit l) : FnG Tryd.prog 8 gK [.one (.e (eTks l))] (outP (psF l)) := by
  refine fn_introG (T := tab) tOk Tryd.func8 rfl (by kernel_rfl) (by simp [Tryd.ntmps8]) ?_
  intro X hX
  have hnt : X.nt = 35 := hX
  clear hX
  have h1 := ahead_fn l h.1 0
  have hx := rd_ok h 0
  have ht := rd_to l 0
  have lw : (l.map eTok).length = l.length := List.length_map ..
  generalize hw : psF l = w at *
  unfold psF at hw
  repeat' first | refine zzs ?_ | refine zzr hnt rfl ?_ ?_ | refine zzd hnt rfl ?_ ?_ | refine zzb ?_ | refine zzk ?_
  · exact zzt
  · exact zzt
  repeat' first | refine zzs ?_ | refine zzb ?_ | refine zzk ?_
  refine tr_cond rfl (fun hc => ?_) (fun hc => ?_)
  · simp only [zz1, zz2, zz3, zz4, zz5, zz6, zz7, zz8] at hc
    (try simp only [lw] at hc)
    (try simp only [zz1, zz2, zz3, zz4, zz5, zz6, zz7, zz8] at hc)
    rw [if_pos (by omega)] at hw
    subst hw
    repeat' first | refine zzs ?_ | refine zzr hnt rfl ?_ ?_ | refine zzd hnt rfl ?_ ?_ | refine zzb ?_ | refine zzk ?_
    · exact zzt
    exact tr_ret ⟨.inr rfl, _, _, rfl, (by (repeat' first | exact trivial | exact Nat.le_of_ble_eq_true rfl | exact rfl | apply And.intro)), congrArg (fun x => D.tup [(true, Cs.es x), (false, Cs.es _), (false, Cs.es _)]) (by rw [eEx_eq]; rfl)⟩
  simp only [zz1, zz2, zz3, zz4, zz5, zz6, zz7, zz8] at hc
  (try simp only [lw] at hc)
  (try simp only [zz1, zz2, zz3, zz4, zz5, zz6, zz7, zz8] at hc)
  rw [if_neg (by omega)] at hw
  generalize rdF l 0 = r at *
  obtain ⟨e, a, b, c⟩ := r
  have hw : (if c ≠ 0 then (ex0, b, c) else if a ≠ (l.length : Int) then (ex0, a, 3) else if exF e ≠ 0 then (ex0, 0, exF e) else (e, 0, 0)) = w := hw
  have w7 : (Cs.es (eEx e)).len = 7 := by rw [eEx_eq]; rfl
  have w8 : (Cs.es (List.take 7 (List.drop 0 (eEx e)))).len = 7 := by rw [tk7]; exact w7
  repeat' first | refine zzs ?_ | refine zzb ?_ | refine zzk ?_
  refine tr_region (zzx hnt rfl ?_ (callV rfl rfl rfl rfl rfl rfl rfl hnt rfl (h1) (zzx hnt rfl ?_ (Lex.nil _)))) ?_
  · exact zza
  · exact zza
  refine tr_le (s' := St.of [(0, .one (.e (eTks l))), (2, .one (.ptr 2 0 0)), (3, .one (.e (eI b))), (4, .one (.e (eI c))), (5, .one (.e (eI a))), ((1000000 + 3), .one (.eptr fsE)), ((1000000 + 4), .one (.eptr acE))] [(2, ⟨0, .box (.es [eI e.op, eI e.v.k, eI e.v.i, eQ e.v.b, eT e.v.t, eT e.n, .sl (eExs e.ar)]), 0⟩)]) (le_of (ad := []) ⟨zzl, zzl, zzl, zzl, zzl, zzl, zzl, trivial⟩ (memOk_box rfl rfl (eEx_eq e) trivial)) ?_
  repeat' first | refine zzs ?_ | refine zzr hnt rfl ?_ ?_ | refine zzd hnt rfl ?_ ?_ | refine zzb ?_ | refine zzk ?_
  · exact zzt
  repeat' first | refine zzs ?_ | refine zzb ?_ | refine zzk ?_
  refine tr_cond rfl (fun hc => ?_) (fun hc => ?_)
  · have hc : (!decide (c = 0)) = true := hc
    have hc : ¬ c = 0 := by simpa using hc
    rw [if_pos hc] at hw
    subst hw
    repeat' first | refine zzs ?_ | refine zzr hnt rfl ?_ ?_ | refine zzd hnt rfl ?_ ?_ | refine zzb ?_ | refine zzk ?_
    · exact zzt
    exact tr_ret ⟨.inr rfl, _, _, rfl, (by (repeat' first | exact trivial | exact Nat.le_of_ble_eq_true rfl | exact rfl | apply And.intro)), congrArg (fun x => D.tup [(true, Cs.es x), (false, Cs.es _), (false, Cs.es _)]) (by rw [eEx_eq]; rfl)⟩
  have hc : (!decide (c = 0)) = false := hc
  have hc : c = 0 := by simpa using hc
  rw [if_neg (fun h => h hc)] at hw
  repeat' first | refine zzs ?_ | refine zzr hnt rfl ?_ ?_ | refine zzd hnt rfl ?_ ?_ | refine zzb ?_ | refine zzk ?_
  · exact zzt
  repeat' first | refine zzs ?_ | refine zzb ?_ | refine zzk ?_
  refine tr_cond rfl (fun hc => ?_) (fun hc => ?_)
  · simp only [zz1, zz2, zz3, zz4, zz5, zz6, zz7, zz8] at hc
    (try simp only [lw] at hc)
    (try simp only [zz1, zz2, zz3, zz4, zz5, zz6, zz7, zz8] at hc)
    have hc2 : ¬ a = (l.length : Int) := by have : 0 ≤ a ∧ a ≤ (l.length : Int) := ht; omega
    rw [if_pos hc2] at hw
    subst hw
    repeat' first | refine zzs ?_ | refine zzr hnt rfl ?_ ?_ | refine zzd hnt rfl ?_ ?_ | refine zzb ?_ | refine zzk ?_
    · exact zzt
    exact tr_ret ⟨.inr rfl, _, _, rfl, (by (repeat' first | exact trivial | exact Nat.le_of_ble_eq_true rfl | exact rfl | apply And.intro)), congrArg (fun x => D.tup [(true, Cs.es x), (false, Cs.es _), (false, Cs.es _)]) (by rw [eEx_eq]; rfl)⟩
  simp only [zz1, zz2, zz3, zz4, zz5, zz6, zz7, zz8] at hc
  (try simp only [lw] at hc)
  (try simp only [zz1, zz2, zz3, zz4, zz5, zz6, zz7, zz8] at hc)
  have hc2 : a = (l.length : Int) := by have : 0 ≤ a ∧ a ≤ (l.length : Int) := ht; omega
  rw [if_neg (fun h => h hc2)] at hw
  have hk : FnG Tryd.prog 13 gK [.agg (.es [eI e.op, eI e.v.k, eI e.v.i, eQ e.v.b, eT e.v.t, eT e.n, .sl (eExs e.ar)])] (.one (.e (eI (exF e)))) := by
    rw [← eEx_eq]
    exact exprCheck_fn e hx
  repeat' first | refine zzs ?_ | refine zzb ?_ | refine zzk ?_
  refine tr_region (zzx hnt rfl ?_ (callV rfl rfl rfl rfl rfl rfl rfl hnt rfl (hk) (zzx hnt rfl ?_ (Lex.nil _)))) ?_
  · exact zza
  · exact zza
  repeat' first | refine zzs ?_ | refine zzr hnt rfl ?_ ?_ | refine zzd hnt rfl ?_ ?_ | refine zzb ?_ | refine zzk ?_
  · exact zzt
  repeat' first | refine zzs ?_ | refine zzb ?_ | refine zzk ?_
  refine tr_cond rfl (fun hc => ?_) (fun hc => ?_)
  · have hc : (!decide (exF e = 0)) = true := hc
    have hc : ¬ exF e = 0 := by simpa using hc
    rw [if_pos hc] at hw
    subst hw
    repeat' first | refine zzs ?_ | refine zzr hnt rfl ?_ ?_ | refine zzd hnt rfl ?_ ?_ | refine zzb ?_ | refine zzk ?_
    · exact zzt
    exact tr_ret ⟨.inr rfl, _, _, rfl, (by (repeat' first | exact trivial | exact Nat.le_of_ble_eq_true rfl | exact rfl | apply And.intro)), congrArg (fun x => D.tup [(true, Cs.es x), (false, Cs.es _), (false, Cs.es _)]) (by rw [eEx_eq]; rfl)⟩
  have hc : (!decide (exF e = 0)) = false := hc
  have hc : exF e = 0 := by simpa using hc
  rw [if_neg (fun h => h hc)] at hw
  subst hw
  repeat' first | refine zzs ?_ | refine zzb ?_ | refine zzk ?_
  first | refine zzr hnt rfl ?_ ?_ | refine zzd hnt rfl ?_ ?_
  · exact zza
  exact tr_ret ⟨.inr rfl, _, _, rfl, (by (repeat' first | exact trivial | exact Nat.le_of_ble_eq_true rfl | exact rfl | exact Nat.le_of_eq w7.symm | exact Nat.le_of_eq w8.symm | apply And.intro)), congrArg (fun x => D.tup [(true, Cs.es x), (false, Cs.es _), (false, Cs.es _)]) ((eEx_eq e).symm)⟩
set_option maxRecDepth 10000 in
set_option maxHeartbeats 2000000 in
theorem exprOf_fn (l : List Tok) (h : tksFit l) : FnG Tryd.prog 9 (gZ) [.one (.e (eTks l))] (outP (psF l)) := by
  refine fn_introG (T := tab) tOk Tryd.func9 rfl (by kernel_rfl) (by simp [Tryd.ntmps9]) ?_
  intro X hX
  have hnt : X.nt = 41 := hX
  clear hX
  have h1 := read_fn l h.1 0
  have hx := rd_ok h 0
  have ht := rd_to l 0
  have lw : (l.map eTok).length = l.length := List.length_map ..
  generalize hw : psF l = w at *
  unfold psF at hw
  repeat' first | refine zzs ?_ | refine zzr hnt rfl ?_ ?_ | refine zzd hnt rfl ?_ ?_ | refine zzb ?_ | refine zzk ?_
  · exact zzt
  · exact zzt
  repeat' first | refine zzs ?_ | refine zzb ?_ | refine zzk ?_
  refine tr_cond rfl (fun hc => ?_) (fun hc => ?_)
  · simp only [zz1, zz2, zz3, zz4, zz5, zz6, zz7, zz8] at hc
    (try simp only [lw] at hc)
    (try simp only [zz1, zz2, zz3, zz4, zz5, zz6, zz7, zz8] at hc)
    rw [if_pos (by omega)] at hw
    subst hw
    repeat' first | refine zzs ?_ | refine zzr hnt rfl ?_ ?_ | refine zzd hnt rfl ?_ ?_ | refine zzb ?_ | refine zzk ?_
    · exact zzt
    exact tr_ret ⟨.inr rfl, _, _, rfl, (by (repeat' first | exact trivial | exact Nat.le_of_ble_eq_true rfl | exact rfl | apply And.intro)), congrArg (fun x => D.tup [(true, Cs.es x), (false, Cs.es _), (false, Cs.es _)]) (by rw [eEx_eq]; rfl)⟩
  simp only [zz1, zz2, zz3, zz4, zz5, zz6, zz7, zz8] at hc
  (try simp only [lw] at hc)
  (try simp only [zz1, zz2, zz3, zz4, zz5, zz6, zz7, zz8] at hc)
  rw [if_neg (by omega)] at hw
  generalize rdF l 0 = r at *
  obtain ⟨e, a, b, c⟩ := r
  have hw : (if c ≠ 0 then (ex0, b, c) else if a ≠ (l.length : Int) then (ex0, a, 3) else if exF e ≠ 0 then (ex0, 0, exF e) else (e, 0, 0)) = w := hw
  have w7 : (Cs.es (eEx e)).len = 7 := by rw [eEx_eq]; rfl
  have w8 : (Cs.es (List.take 7 (List.drop 0 (eEx e)))).len = 7 := by rw [tk7]; exact w7
  repeat' first | refine zzs ?_ | refine zzb ?_ | refine zzk ?_
  refine tr_region (zzx hnt rfl ?_ (callV rfl rfl rfl rfl rfl rfl rfl hnt rfl (h1) (zzx hnt rfl ?_ (Lex.nil _)))) ?_
  · exact zza
  · exact zza
  repeat' first | refine zzs ?_ | refine zzr hnt rfl ?_ ?_ | refine zzd hnt rfl ?_ ?_ | refine zzb ?_ | refine zzk ?_
  · exact zzt
  repeat' first | refine zzs ?_ | refine zzb ?_ | refine zzk ?_
  refine tr_cond rfl (fun hc => ?_) (fun hc => ?_)
  · have hc : (!decide (c = 0)) = true := hc
    have hc : ¬ c = 0 := by simpa using hc
    rw [if_pos hc] at hw
    subst hw
    repeat' first | refine zzs ?_ | refine zzr hnt rfl ?_ ?_ | refine zzd hnt rfl ?_ ?_ | refine zzb ?_ | refine zzk ?_
    · exact zzt
    exact tr_ret ⟨.inr rfl, _, _, rfl, (by (repeat' first | exact trivial | exact Nat.le_of_ble_eq_true rfl | exact rfl | apply And.intro)), congrArg (fun x => D.tup [(true, Cs.es x), (false, Cs.es _), (false, Cs.es _)]) (by rw [eEx_eq]; rfl)⟩
  have hc : (!decide (c = 0)) = false := hc
  have hc : c = 0 := by simpa using hc
  rw [if_neg (fun h => h hc)] at hw
  repeat' first | refine zzs ?_ | refine zzr hnt rfl ?_ ?_ | refine zzd hnt rfl ?_ ?_ | refine zzb ?_ | refine zzk ?_
  · exact zzt
  repeat' first | refine zzs ?_ | refine zzb ?_ | refine zzk ?_
  refine tr_cond rfl (fun hc => ?_) (fun hc => ?_)
  · simp only [zz1, zz2, zz3, zz4, zz5, zz6, zz7, zz8] at hc
    (try simp only [lw] at hc)
    (try simp only [zz1, zz2, zz3, zz4, zz5, zz6, zz7, zz8] at hc)
    have hc2 : ¬ a = (l.length : Int) := by have : 0 ≤ a ∧ a ≤ (l.length : Int) := ht; omega
    rw [if_pos hc2] at hw
    subst hw
    repeat' first | refine zzs ?_ | refine zzr hnt rfl ?_ ?_ | refine zzd hnt rfl ?_ ?_ | refine zzb ?_ | refine zzk ?_
    · exact zzt
    exact tr_ret ⟨.inr rfl, _, _, rfl, (by (repeat' first | exact trivial | exact Nat.le_of_ble_eq_true rfl | exact rfl | apply And.intro)), congrArg (fun x => D.tup [(true, Cs.es x), (false, Cs.es _), (false, Cs.es _)]) (by rw [eEx_eq]; rfl)⟩
  simp only [zz1, zz2, zz3, zz4, zz5, zz6, zz7, zz8] at hc
  (try simp only [lw] at hc)
  (try simp only [zz1, zz2, zz3, zz4, zz5, zz6, zz7, zz8] at hc)
  have hc2 : a = (l.length : Int) := by have : 0 ≤ a ∧ a ≤ (l.length : Int) := ht; omega
  rw [if_neg (fun h => h hc2)] at hw
  have hk : FnG Tryd.prog 14 gK [.agg (.es (List.take 7 (List.drop 0 (eEx e))))] (.one (.e (eI (exF e)))) := by
    rw [tk7]
    exact exprFault_fn e hx
  repeat' first | refine zzs ?_ | refine zzb ?_ | refine zzk ?_
  refine tr_region (zzx hnt rfl ?_ (callV rfl rfl rfl rfl rfl rfl rfl hnt rfl (hk) (zzx hnt rfl ?_ (Lex.nil _)))) ?_
  · exact zza
  · exact zza
  repeat' first | refine zzs ?_ | refine zzr hnt rfl ?_ ?_ | refine zzd hnt rfl ?_ ?_ | refine zzb ?_ | refine zzk ?_
  · exact zzt
  repeat' first | refine zzs ?_ | refine zzb ?_ | refine zzk ?_
  refine tr_cond rfl (fun hc => ?_) (fun hc => ?_)
  · have hc : (!decide (exF e = 0)) = true := hc
    have hc : ¬ exF e = 0 := by simpa using hc
    rw [if_pos hc] at hw
    subst hw
    repeat' first | refine zzs ?_ | refine zzr hnt rfl ?_ ?_ | refine zzd hnt rfl ?_ ?_ | refine zzb ?_ | refine zzk ?_
    · exact zzt
    exact tr_ret ⟨.inr rfl, _, _, rfl, (by (repeat' first | exact trivial | exact Nat.le_of_ble_eq_true rfl | exact rfl | apply And.intro)), congrArg (fun x => D.tup [(true, Cs.es x), (false, Cs.es _), (false, Cs.es _)]) (by rw [eEx_eq]; rfl)⟩
  have hc : (!decide (exF e = 0)) = false := hc
  have hc : exF e = 0 := by simpa using hc
  rw [if_neg (fun h => h hc)] at hw
  subst hw
  repeat' first | refine zzs ?_ | refine zzb ?_ | refine zzk ?_
  first | refine zzr hnt rfl ?_ ?_ | refine zzd hnt rfl ?_ ?_
  · exact zza
  exact tr_ret ⟨.inr rfl, _, _, rfl, (by (repeat' first | exact trivial | exact Nat.le_of_ble_eq_true rfl | exact rfl | exact Nat.le_of_eq w7.symm | exact Nat.le_of_eq w8.symm | apply And.intro)), congrArg (fun x => D.tup [(true, Cs.es x), (false, Cs.es _), (false, Cs.es _)]) (by first | exact tk7 _ | exact tk77 _ | (rw [tk7, tk7, tk7]))⟩
theorem ps_ok {l : List Tok} (hl : tksFit l) : exOk (psF l).1 := by
  unfold psF
  split
  · exact ok_ex0
  split
  · exact ok_ex0
  split
  · exact ok_ex0
  split
  · exact ok_ex0
  exact rd_ok hl 0
set_option maxRecDepth 10000 in
set_option maxHeartbeats 2000000 in
theorem exprParses_fn (l : List Tok) (h : tksFit l) : FnG Tryd.prog 4 (gZ) [.one (.e (eTks l))] (.v (.bool true)) := by
  refine fn_introG (T := tab) tOk Tryd.func4 rfl (by kernel_rfl) (by simp [Tryd.ntmps4]) ?_
  intro X hX
  have hnt : X.nt = 34 := hX
  clear hX
  have h1 := parseE_fn l h
  have h2 := exprOf_fn l h
  have hx := ps_ok h
  generalize psF l = r at *
  obtain ⟨e, a, b⟩ := r
  have w7 : (Cs.es (eEx e)).len = 7 := by rw [eEx_eq]; rfl
  have w8 : (Cs.es (List.take 7 (List.drop 0 (eEx e)))).len = 7 := by rw [tk7]; exact w7
  have hs : FnD Tryd.prog 7 [.agg (.es (List.take 7 (List.drop 0 (eEx e)))), .agg (.es (List.take 7 (List.drop 0 (eEx e))))] (.v (.bool true)) := by
    rw [tk7]
    exact sameExpr_fn e hx
  repeat' first | refine zzs ?_ | refine zzr hnt rfl ?_ ?_ | refine zzd hnt rfl ?_ ?_ | refine zzb ?_ | refine zzk ?_
  · exact zzt
  repeat' first | refine zzs ?_ | refine zzb ?_ | refine zzk ?_
  refine tr_region (zzx hnt rfl ?_ (callV rfl rfl rfl rfl rfl rfl rfl hnt rfl (h1) (zzx hnt rfl ?_ (Lex.nil _)))) ?_
  · exact zza
  · exact zza
  repeat' first | refine zzs ?_ | refine zzb ?_ | refine zzk ?_
  refine tr_region (zzx hnt rfl ?_ (callV rfl rfl rfl rfl rfl rfl rfl hnt rfl (h2) (zzx hnt rfl ?_ (Lex.nil _)))) ?_
  · exact zza
  · exact zza
  repeat' first | refine zzs ?_ | refine zzb ?_ | refine zzk ?_
  refine tr_region (zzx hnt rfl ?_ (callG rfl rfl rfl rfl rfl rfl hnt rfl (fun hq => ?_) (fun hq => hs) (zzx hnt rfl ?_ (Lex.nil _)))) ?_
  · exact zza
  · exact zza
  · exact zza
  exact tr_ret ⟨.inr rfl, _, _, rfl, (by (repeat' first | exact trivial | exact Nat.le_of_ble_eq_true rfl | exact rfl | exact Nat.le_of_eq w7.symm | exact Nat.le_of_eq w8.symm | apply And.intro)), congrArg (fun b => D.v (.bool b)) (by simp)⟩
end Go.Proofs.YtcdifgacoleckaaDoor
