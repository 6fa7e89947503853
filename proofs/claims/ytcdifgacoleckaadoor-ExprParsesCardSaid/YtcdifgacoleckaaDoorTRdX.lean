/- Reading of expressions: the program's reader. No condition. -/
import Derived.Test.YtcdifgacoleckaaDoorTRdW
import Derived.Test.YtcdifgacoleckaaDoorAbDf
namespace Go.Proofs.YtcdifgacoleckaaDoor
open Go Go.RowKit Go.Proofs.YtcdifgacoleckaaDoor.Ab
set_option linter.unusedSimpArgs false
set_option linter.unusedVariables false

def eRd (l : List Tok) (p : Nat) : List E := [eTks l, eI (p : Int)]
def msR (l : List Tok) (p : Nat) : List (Nat × Blk) := [(900000, ⟨0, .box (.es (eRd l p)), 0⟩)]
def chS (s : Spot) : List PanicEntry := [{ v := .iface 41 (.agg #[.int .i64 (s.p : Int), .int .i64 s.e]), recovered := false }]
theorem bX : ∀ b : Bool, (bif (bif true then b else false) then decide ((0 : Int) = 0) else false) = b := by decide
set_option maxRecDepth 10000 in
set_option maxHeartbeats 2000000 in
theorem is_fn (l : List Tok) (p : Nat) (t : Tok) (ht : t.t.length ≤ maxLen) (h0 : tkF t = 0) : FnH Tryd.prog 39 (gK) (msR l p) [ptS, .agg (.es (eTok t))] (.v (.bool (seesF l ⟨p, 0⟩ t))) (msR l p) := by
  refine fn_introH (T := tab) tOk Tryd.func39 rfl (by kernel_rfl) (by simp [Tryd.ntmps39]) rfl rfl ?_
  intro X hX
  have hnt : X.nt = 34 := hX
  clear hX
  have h1 : ((eRd l p).getD (0 + 0) E.dflt).xs.length = l.length := List.length_map ..
  have h2 : ((eRd l p).getD (0 + 1) E.dflt).int = (p : Int) := rfl
  have hg : p < l.length → ((eRd l p).getD (0 + 0) E.dflt).xs.getD ((eRd l p).getD (0 + 1) E.dflt).int.toNat [] = eTok (l.getD p tok0) := fun h => tksGet l h
  have hk := lexCheck_fn t ht
  rw [h0] at hk
  repeat' first | refine zzs ?_ | refine zzr hnt rfl ?_ ?_ | refine zzd hnt rfl ?_ ?_ | refine zzb ?_ | refine zzk ?_
  · exact zzt
  repeat' first | refine zzs ?_ | refine zzb ?_ | refine zzk ?_
  refine tr_draw (T := tab) tOk hnt mixedR (lexD (T := tab) rfl ?_ (callVGD rfl rfl rfl rfl rfl rfl rfl rfl (fun hq => ?_) rfl (fun hq => hk) (lexD (T := tab) rfl ?_ (.nil _)))) (by first | decide +kernel | kernel_rfl) ?_
  · (dsimp only [AllP]; (repeat' first | exact trivial | assumption | exact Nat.le_of_ble_eq_true rfl | apply And.intro | exact eCells_len1 _ _ ‹_› | exact eCells_isByte _ _ ‹_› | (intro hh_; have hg_ := hh_; (try simp only [condT_ff, condF_tt, notE_t, notE_f, Bool.and_eq_true, ne_eq, decide_eq_true_eq, decide_eq_false_iff_not] at hg_)) | intro _ | exact rfl | omega))
    all_goals (rw [hg (by omega)]; first | exact rfl | exact Nat.le_of_ble_eq_true rfl)
  · exact zza
  · exact zza
  refine tr_ret ⟨.inr rfl, _, _, _, rfl, zzp, rfl, fun X => le_of (ad := []) ⟨congrArg (fun b => E.v (.bool b)) ?_, ⟨rfl, rfl, rfl, rfl, rfl⟩, trivial⟩ (memOk_box rfl rfl rfl trivial)⟩
  by_cases hlt : p < l.length
  · have e1 : decide (((eRd l p).getD (0 + 1) E.dflt).int < (((eRd l p).getD (0 + 0) E.dflt).xs.length : Int)) = true := decide_eq_true (by omega)
    have hs : seesF l ⟨p, 0⟩ t = decide (l.getD p tok0 = t) := by
      unfold seesF
      rw [decide_eq_decide]
      exact ⟨fun h => h.2.2, fun h => ⟨rfl, hlt, h⟩⟩
    rw [e1, hg hlt, hs, ← eqTk]
    exact bX _
  · have e1 : decide (((eRd l p).getD (0 + 1) E.dflt).int < (((eRd l p).getD (0 + 0) E.dflt).xs.length : Int)) = false := decide_eq_false (by omega)
    have hs : seesF l ⟨p, 0⟩ t = false := by
      unfold seesF
      exact decide_eq_false fun h => hlt h.2.1
    rw [e1, hs]
    rfl
set_option maxRecDepth 10000 in
set_option maxHeartbeats 2000000 in
theorem fail_fn (l : List Tok) (p : Nat) : FnP Tryd.prog 66 [] (msR l p) [ptS] (chS (badF l ⟨p, 0⟩)) (msR l p) := by
  refine fn_introP Tryd.func66 rfl (by kernel_rfl) (by simp [Tryd.ntmps66]) rfl rfl ?_
  intro X hX
  have hnt : X.nt = 24 := hX
  clear hX
  have h1 : ((eRd l p).getD (0 + 0) E.dflt).xs.length = l.length := List.length_map ..
  have h2 : ((eRd l p).getD (0 + 1) E.dflt).int = (p : Int) := rfl
  have hg : p < l.length → ((eRd l p).getD (0 + 0) E.dflt).xs.getD ((eRd l p).getD (0 + 1) E.dflt).int.toNat [] = eTok (l.getD p tok0) := fun h => tksGet l h
  repeat' first | refine zzs ?_ | refine zzr hnt rfl ?_ ?_ | refine zzd hnt rfl ?_ ?_ | refine zzb ?_ | refine zzk ?_
  · exact zzt
  repeat' first | refine zzs ?_ | refine zzb ?_ | refine zzk ?_
  refine tr_cond rfl (fun hc => ?_) (fun hc => ?_)
  · simp only [zz1, zz2, zz3, zz4, zz5, zz6, zz7, zz8] at hc
    (try simp only [h1, h2] at hc)
    (try simp only [zz1, zz2, zz3, zz4, zz5, zz6, zz7, zz8] at hc)
    have hb : badF l ⟨p, 0⟩ = ⟨p, 4⟩ := by
      unfold badF
      rw [if_pos rfl, if_pos (by show l.length ≤ p; omega)]
    rw [hb]
    repeat' first | refine zzs ?_ | refine zzb ?_ | refine zzk ?_
    refine tr_regionK 6 (zzx hnt rfl ?_ (Lex.nil _)) (panicP rfl rfl rfl rfl) ?_
    · exact zzt
    exact ⟨rfl, fun X => le_of (ad := []) ⟨⟨rfl, rfl, rfl, rfl, rfl⟩, trivial⟩ (memOk_box rfl rfl rfl trivial)⟩
  simp only [zz1, zz2, zz3, zz4, zz5, zz6, zz7, zz8] at hc
  (try simp only [h1, h2] at hc)
  (try simp only [zz1, zz2, zz3, zz4, zz5, zz6, zz7, zz8] at hc)
  have hb : badF l ⟨p, 0⟩ = ⟨p, 3⟩ := by
    unfold badF
    rw [if_pos rfl, if_neg (by show ¬ l.length ≤ p; omega)]
  rw [hb]
  repeat' first | refine zzs ?_ | refine zzb ?_ | refine zzk ?_
  refine tr_regionK 6 (zzx hnt rfl ?_ (Lex.nil _)) (panicP rfl rfl rfl rfl) ?_
  · exact zzt
  exact ⟨rfl, fun X => le_of (ad := []) ⟨⟨rfl, rfl, rfl, rfl, rfl⟩, trivial⟩ (memOk_box rfl rfl rfl trivial)⟩
end Go.Proofs.YtcdifgacoleckaaDoor
namespace Go.Proofs.YtcdifgacoleckaaDoor
open Go Go.RowKit Go.Proofs.YtcdifgacoleckaaDoor.Ab
set_option linter.unusedSimpArgs false
set_option linter.unusedVariables false

theorem rdInc (l : List Tok) {p : Nat} (h : p < 9223372036854775807) : [eTks l, E.v (.int .i64 (IntKind.i64.wrap (((p : Nat) : Int) + 1)))] = eRd l (p + 1) := by
  rw [wrap64_id (by omega) (by omega)]
  rfl
set_option maxRecDepth 10000 in
set_option maxHeartbeats 2000000 in
theorem take_no (l : List Tok) (p : Nat) (t : Tok) (ht : t.t.length ≤ maxLen) (h0 : tkF t = 0) (hs : seesF l ⟨p, 0⟩ t = false) : FnH Tryd.prog 25 (gK) (msR l p) [ptS, .agg (.es (eTok t))] (.v (.bool false)) (msR l p) := by
  refine fn_introH (T := tab) tOk Tryd.func25 rfl (by kernel_rfl) (by simp [Tryd.ntmps25]) rfl rfl ?_
  intro X hX
  have hnt : X.nt = 16 := hX
  clear hX
  have hi := is_fn l p t ht h0
  rw [hs] at hi
  repeat' first | refine zzs ?_ | refine zzr hnt rfl ?_ ?_ | refine zzd hnt rfl ?_ ?_ | refine zzb ?_ | refine zzk ?_
  · exact zzt
  repeat' first | refine zzs ?_ | refine zzb ?_ | refine zzk ?_
  refine tr_region (zzx hnt rfl ?_ (callH (us := []) [(900000, 900000)] [] [] rfl rfl rfl rfl (hi) (by repeat' first | exact .nil | refine .lent rfl rfl rfl ?_ | refine .data rfl ?_) (fun _ => rfl) rfl rfl hnt rfl rfl (by repeat' first | exact trivial | rfl | apply And.intro) (by repeat' first | exact trivial | rfl | apply And.intro) (zzx hnt rfl ?_ (Lex.nil _)))) ?_
  · exact zzt
  · exact zzt
  repeat' first | refine zzs ?_ | refine zzb ?_ | refine zzk ?_
  refine tr_cond rfl (fun hc => ?_) (fun hc => ?_)
  · repeat' first | refine zzs ?_ | refine zzr hnt rfl ?_ ?_ | refine zzd hnt rfl ?_ ?_ | refine zzb ?_ | refine zzk ?_
    · exact zzt
    exact tr_ret ⟨.inr rfl, _, _, _, rfl, zzp, rfl, fun X => le_of (ad := []) ⟨rfl, ⟨rfl, rfl, rfl, rfl, rfl⟩, trivial⟩ (memOk_box rfl rfl rfl trivial)⟩
  exact absurd hc Bool.noConfusion
set_option maxRecDepth 10000 in
set_option maxHeartbeats 2000000 in
theorem take_yes (l : List Tok) (hm : l.length ≤ maxLen) (p : Nat) (t : Tok) (ht : t.t.length ≤ maxLen) (h0 : tkF t = 0) (hs : seesF l ⟨p, 0⟩ t = true) : FnH Tryd.prog 25 (gK) (msR l p) [ptS, .agg (.es (eTok t))] (.v (.bool true)) (msR l (p + 1)) := by
  refine fn_introH (T := tab) tOk Tryd.func25 rfl (by kernel_rfl) (by simp [Tryd.ntmps25]) rfl rfl ?_
  intro X hX
  have hnt : X.nt = 16 := hX
  clear hX
  have hm' : l.length ≤ 9223372036854775807 := Nat.le_trans hm (by decide)
  have hlt : p < l.length := (sees_iff.1 hs).2.1
  have hi := is_fn l p t ht h0
  rw [hs] at hi
  repeat' first | refine zzs ?_ | refine zzr hnt rfl ?_ ?_ | refine zzd hnt rfl ?_ ?_ | refine zzb ?_ | refine zzk ?_
  · exact zzt
  repeat' first | refine zzs ?_ | refine zzb ?_ | refine zzk ?_
  refine tr_region (zzx hnt rfl ?_ (callH (us := []) [(900000, 900000)] [] [] rfl rfl rfl rfl (hi) (by repeat' first | exact .nil | refine .lent rfl rfl rfl ?_ | refine .data rfl ?_) (fun _ => rfl) rfl rfl hnt rfl rfl (by repeat' first | exact trivial | rfl | apply And.intro) (by repeat' first | exact trivial | rfl | apply And.intro) (zzx hnt rfl ?_ (Lex.nil _)))) ?_
  · exact zzt
  · exact zzt
  repeat' first | refine zzs ?_ | refine zzb ?_ | refine zzk ?_
  refine tr_cond rfl (fun hc => ?_) (fun hc => ?_)
  · exact absurd hc Bool.noConfusion
  repeat' first | refine zzs ?_ | refine zzr hnt rfl ?_ ?_ | refine zzd hnt rfl ?_ ?_ | refine zzb ?_ | refine zzk ?_
  · exact zzt
  · exact zzt
  exact tr_ret ⟨.inr rfl, _, _, _, rfl, zzp, rfl, fun X => le_of (ad := []) ⟨rfl, ⟨rfl, rfl, rfl, rfl, rfl⟩, trivial⟩ (memOk_box rfl rfl (rdInc l (p := p) (by omega)) trivial)⟩
theorem past_yes {l : List Tok} {s : Spot} {t : Tok} (hs : seesF l s t = true) : pastF l s [t] = ⟨s.p + 1, s.e⟩ := by
  rw [past_cons, if_pos hs]
  rfl
theorem past_no {l : List Tok} {s : Spot} {t : Tok} {r : List Tok} (hs : seesF l s t = false) : pastF l s (t :: r) = badF l s := by
  rw [past_cons, if_neg (by rw [hs]; exact Bool.noConfusion)]
theorem bad_e {l : List Tok} {p : Nat} : (badF l ⟨p, 0⟩).e ≠ 0 := by
  unfold badF
  rw [if_pos rfl]
  show (if l.length ≤ p then (4 : Int) else 3) ≠ 0
  split <;> decide
set_option maxRecDepth 10000 in
set_option maxHeartbeats 2000000 in
theorem want_fn (l : List Tok) (hm : l.length ≤ maxLen) (p : Nat) (t : Tok) (ht : t.t.length ≤ maxLen) (h0 : tkF t = 0) : FnR Tryd.prog 54 (gK) (msR l p) [ptS, .agg (.es (eTok t))] ((pastF l ⟨p, 0⟩ [t]).e = 0) (.tup []) (msR l (pastF l ⟨p, 0⟩ [t]).p) (chS (pastF l ⟨p, 0⟩ [t])) := by
  refine fn_introR (T := tab) tOk Tryd.func54 rfl (by kernel_rfl) (by simp [Tryd.ntmps54]) rfl rfl ?_
  intro X hX
  have hnt : X.nt = 10 := hX
  clear hX
  repeat' first | refine zzs ?_ | refine zzr hnt rfl ?_ ?_ | refine zzd hnt rfl ?_ ?_ | refine zzb ?_ | refine zzk ?_
  · exact zzt
  cases hs : seesF l ⟨p, 0⟩ t with
  | true =>
    rw [past_yes hs]
    repeat' first | refine zzs ?_ | refine zzb ?_ | refine zzk ?_
    refine tr_region (zzx hnt rfl ?_ (callH (us := []) [(900000, 900000)] [] [] rfl rfl rfl rfl (take_yes l hm p t ht h0 hs) (by repeat' first | exact .nil | refine .lent rfl rfl rfl ?_ | refine .data rfl ?_) (fun _ => rfl) rfl rfl hnt rfl rfl (by repeat' first | exact trivial | rfl | apply And.intro) (by repeat' first | exact trivial | rfl | apply And.intro) (zzx hnt rfl ?_ (Lex.nil _)))) ?_
    · exact zzt
    · exact zzt
    repeat' first | refine zzs ?_ | refine zzb ?_ | refine zzk ?_
    refine tr_cond rfl (fun hc => ?_) (fun hc => ?_)
    · exact absurd hc Bool.noConfusion
    repeat' first | refine zzs ?_ | refine zzb ?_ | refine zzk ?_
    exact ⟨fun _ => ⟨.inl rfl, _, _, _, rfl, zzp, rfl, fun X => le_of (ad := []) ⟨trivial, ⟨rfl, rfl, rfl, rfl, rfl⟩, trivial⟩ (memOk_box rfl rfl rfl trivial)⟩, fun h => absurd rfl h⟩
  | false =>
    rw [past_no hs]
    repeat' first | refine zzs ?_ | refine zzb ?_ | refine zzk ?_
    refine tr_region (zzx hnt rfl ?_ (callH (us := []) [(900000, 900000)] [] [] rfl rfl rfl rfl (take_no l p t ht h0 hs) (by repeat' first | exact .nil | refine .lent rfl rfl rfl ?_ | refine .data rfl ?_) (fun _ => rfl) rfl rfl hnt rfl rfl (by repeat' first | exact trivial | rfl | apply And.intro) (by repeat' first | exact trivial | rfl | apply And.intro) (zzx hnt rfl ?_ (Lex.nil _)))) ?_
    · exact zzt
    · exact zzt
    repeat' first | refine zzs ?_ | refine zzb ?_ | refine zzk ?_
    refine tr_cond rfl (fun hc => ?_) (fun hc => ?_)
    · repeat' first | refine zzs ?_ | refine zzb ?_ | refine zzk ?_
      refine tr_regionK 1 (zzx hnt rfl ?_ (Lex.nil _)) (callP (us := []) [(900000, 900000)] [] [] rfl rfl rfl rfl (fail_fn l p) (by repeat' first | exact .nil | refine .lent rfl rfl rfl ?_ | refine .data rfl ?_) (fun _ => rfl) rfl rfl rfl (by repeat' first | exact trivial | rfl | apply And.intro) (by repeat' first | exact trivial | rfl | apply And.intro)) ?_
      · exact zzt
      have hp : (badF l ⟨p, 0⟩).p = p := bad_p l _
      exact ⟨fun h => absurd h bad_e, fun _ => ⟨rfl, fun X => le_of (ad := []) ⟨⟨rfl, rfl, rfl, rfl, rfl⟩, trivial⟩ (memOk_box rfl rfl (by rw [hp]; rfl) trivial)⟩⟩
    exact absurd hc Bool.noConfusion
set_option maxRecDepth 10000 in
set_option maxHeartbeats 2000000 in
theorem two_fn (op : Int) (a b : Ex) : FnD Tryd.prog 27 [.one (.e (eI op)), .agg (.es (eEx a)), .agg (.es (eEx b))] (.agg (.es (eEx (.mk op val0 [] [a, b])))) := by
  refine fn_intro (T := tab) tOk Tryd.func27 rfl (by kernel_rfl) (by simp [Tryd.ntmps27]) ?_
  intro X hX
  have hnt : X.nt = 12 := hX
  clear hX
  have he : eEx (.mk op val0 [] [a, b]) = [eI op, eI 0, eI 0, eQ 0, eT [], eT [], .sl [eEx a, eEx b]] := by
    rw [eEx_mk]
    rfl
  rw [he]
  obtain ⟨o1, v1, n1, r1⟩ := a
  obtain ⟨o2, v2, n2, r2⟩ := b
  rw [eEx_mk, eEx_mk]
  repeat' first | refine zzs ?_ | refine zzr hnt rfl ?_ ?_ | refine zzd hnt rfl ?_ ?_ | refine zzb ?_ | refine zzk ?_
  · exact zzt
  · exact zzt
  exact tr_ret ⟨.inr rfl, _, _, rfl, zzp, rfl⟩
set_option maxRecDepth 10000 in
set_option maxHeartbeats 2000000 in
theorem litP_fn (v : Val) : FnD Tryd.prog 74 [.agg (.es (eVal v))] (.agg (.es (eEx (litE v)))) := by
  refine fn_intro (T := tab) tOk Tryd.func74 rfl (by kernel_rfl) (by simp [Tryd.ntmps74]) ?_
  intro X hX
  have hnt : X.nt = 5 := hX
  clear hX
  have he : eEx (litE v) = [eI 1, eI v.k, eI v.i, eQ v.b, eT v.t, eT [], .sl []] := by
    unfold litE
    rw [eEx_mk]
    rfl
  rw [he]
  repeat' first | refine zzs ?_ | refine zzr hnt rfl ?_ ?_ | refine zzd hnt rfl ?_ ?_ | refine zzb ?_ | refine zzk ?_
  · exact zzt
  · exact zzt
  exact tr_ret ⟨.inr rfl, _, _, rfl, zzp, rfl⟩
end Go.Proofs.YtcdifgacoleckaaDoor
namespace Go.Proofs.YtcdifgacoleckaaDoor
open Go Go.RowKit Go.Proofs.YtcdifgacoleckaaDoor.Ab
set_option linter.unusedSimpArgs false
set_option linter.unusedVariables false

/-- the program's reading of what F reads, from place p on -/
def Rds (l : List Tok) (f : Nat) (F : Spot → Ex × Spot) (p : Nat) : Prop :=
  FnR Tryd.prog f gK (msR l p) [ptS] ((F ⟨p, 0⟩).2.e = 0) (.agg (.es (eEx (F ⟨p, 0⟩).1))) (msR l (F ⟨p, 0⟩).2.p) (chS (F ⟨p, 0⟩).2)
abbrev cloN (f : Nat) : D := .one (.clo (1048576 + f) [(900000, 0, 0)])
def eOps (ops : List Int) : List (List E) := ops.map fun o => [eI o]
theorem opsGet (ops : List Int) {i : Nat} (h : i < ops.length) : (eOps ops).getD i [] = [eI (ops.getD i 0)] := by
  unfold eOps
  rw [List.getD_eq_getElem?_getD, List.getElem?_map, List.getElem?_eq_getElem h, List.getD_eq_getElem?_getD, List.getElem?_eq_getElem h]
  rfl
theorem opsLen (ops : List Int) : (eOps ops).length = ops.length := List.length_map ..
theorem find_at {f : Int → Bool} : ∀ {ops : List Int} {i : Nat}, i < ops.length → (∀ j, j < i → f (ops.getD j 0) = false) → f (ops.getD i 0) = true → ops.find? f = some (ops.getD i 0)
  | a :: r, 0, _, _, h => by
    have h : f a = true := h
    rw [List.find?_cons_of_pos h]
    rfl
  | a :: r, i + 1, hi, hb, h => by
    have h0 : f a = false := hb 0 (Nat.succ_pos _)
    rw [List.find?_cons_of_neg (by rw [h0]; exact Bool.noConfusion)]
    exact find_at (ops := r) (Nat.lt_of_succ_lt_succ hi) (fun j hj => hb (j + 1) (Nat.succ_lt_succ hj)) h
theorem find_none {f : Int → Bool} {ops : List Int} (h : ∀ j, j < ops.length → f (ops.getD j 0) = false) : ops.find? f = none := by
  rw [List.find?_eq_none]
  intro x hx
  obtain ⟨i, hi, rfl⟩ := List.getElem_of_mem hx
  have := h i hi
  rw [List.getD_eq_getElem?_getD, List.getElem?_eq_getElem hi] at this
  simpa using this
theorem mkS_len (op : Int) (h : (5 ≤ op ∧ op ≤ 16) ∨ op = 19) : (mkS op).t.length ≤ maxLen := by
  rcases (by omega : op = 5 ∨ op = 6 ∨ op = 7 ∨ op = 8 ∨ op = 9 ∨ op = 10 ∨ op = 11 ∨ op = 12 ∨ op = 13 ∨ op = 14 ∨ op = 15 ∨ op = 16 ∨ op = 19) with rfl | rfl | rfl | rfl | rfl | rfl | rfl | rfl | rfl | rfl | rfl | rfl | rfl <;> exact Nat.le_of_ble_eq_true rfl
theorem mkS_ok (op : Int) (h : (5 ≤ op ∧ op ≤ 16) ∨ op = 19) : tkF (mkS op) = 0 := by
  rcases (by omega : op = 5 ∨ op = 6 ∨ op = 7 ∨ op = 8 ∨ op = 9 ∨ op = 10 ∨ op = 11 ∨ op = 12 ∨ op = 13 ∨ op = 14 ∨ op = 15 ∨ op = 16 ∨ op = 19) with rfl | rfl | rfl | rfl | rfl | rfl | rfl | rfl | rfl | rfl | rfl | rfl | rfl <;> decide
theorem tk7 (e : Ex) : List.take 7 (List.drop 0 (eEx e)) = eEx e := by rw [eEx_eq]; rfl
theorem tk77 (e : Ex) : List.take 7 (List.drop 0 (List.take 7 (List.drop 0 (eEx e)))) = eEx e := by rw [tk7, tk7]
theorem pu7 (e x : Ex) : List.take 0 (eEx e) ++ eEx x ++ List.drop (0 + 7) (eEx e) = eEx x := by rw [eEx_eq e, List.take_zero, List.nil_append]; exact List.append_nil _
structure ChS where
  m : Bool
  e : Ex
  p : Nat
  k : Nat
set_option maxRecDepth 10000 in
set_option maxHeartbeats 2000000 in
theorem chain_fn (l : List Tok) (hm : l.length ≤ maxLen) (p0 : Nat) (lv : Nat) (h3 : lv ≠ 3) (hops : ∀ o ∈ opsF lv, (5 ≤ o ∧ o ≤ 16) ∨ o = 19) (hlen : (opsF lv).length ≤ 10) (f : Nat) (F : Spot → Ex × Spot) (hb : ∀ s, s.e ≠ 0 → F s = (ex0, s)) (hfw : Fwd l F) (hp0 : p0 ≤ l.length) (hf : ∀ p, p0 ≤ p → p ≤ l.length → Rds l f F p) : FnR Tryd.prog 15 (gK) (msR l p0) [ptS, cloN f, .one (.e (.sl (eOps (opsF lv))))] ((lpF l F lv (l.length + 1) (F ⟨p0, 0⟩).1 (F ⟨p0, 0⟩).2).2.e = 0) (.agg (.es (eEx (lpF l F lv (l.length + 1) (F ⟨p0, 0⟩).1 (F ⟨p0, 0⟩).2).1))) (msR l (lpF l F lv (l.length + 1) (F ⟨p0, 0⟩).1 (F ⟨p0, 0⟩).2).2.p) (chS (lpF l F lv (l.length + 1) (F ⟨p0, 0⟩).1 (F ⟨p0, 0⟩).2).2) := by
  refine fn_introR (T := tab) tOk Tryd.func15 rfl (by kernel_rfl) (by simp [Tryd.ntmps15]) rfl rfl ?_
  intro X hX
  have hnt : X.nt = 31 := hX
  clear hX
  have hf0 := hf p0 (Nat.le_refl _) hp0
  unfold Rds at hf0
  have hw0 := hfw ⟨p0, 0⟩
  have hlw := opsLen (opsF lv)
  repeat' first | refine zzs ?_ | refine zzr hnt rfl ?_ ?_ | refine zzd hnt rfl ?_ ?_ | refine zzb ?_ | refine zzk ?_
  · exact zzt
  generalize hr0 : F ⟨p0, 0⟩ = r0 at *
  obtain ⟨e0, s0⟩ := r0
  by_cases he0 : s0.e = 0
  · have hf0 := hf0.1 he0
    have hx0 : (Cs.es (eEx e0)).len = 7 := by rw [eEx_eq]; rfl
    repeat' first | refine zzs ?_ | refine zzb ?_ | refine zzk ?_
    refine tr_region (zzx hnt rfl ?_ (callB (us := []) [(900000, 900000)] [] [] rfl rfl rfl rfl (hf0) (by repeat' first | exact .nil | refine .lent rfl rfl rfl ?_ | refine .data rfl ?_) (fun _ => rfl) rfl rfl hnt rfl rfl (by repeat' first | exact trivial | rfl | apply And.intro) (by repeat' first | exact trivial | rfl | apply And.intro) (zzx hnt rfl ?_ (Lex.nil _)))) ?_
    · exact zza
    · exact zza
    obtain ⟨q0, z0⟩ := s0
    have he0 : z0 = 0 := he0
    subst he0
    generalize hwh : lpF l F lv (l.length + 1) e0 ⟨q0, 0⟩ = wh at *
    repeat' first | refine zzs ?_ | refine zzr hnt rfl ?_ ?_ | refine zzd hnt rfl ?_ ?_ | refine zzb ?_ | refine zzk ?_
    · exact zzt
    have hq0 : q0 ≤ l.length := hw0.2 hp0
    have hq1 : p0 ≤ q0 := hw0.1
    repeat' first | refine zzs ?_ | refine zzb ?_ | refine zzk ?_
    refine tr_loop (σ := ChS) (fun x => St.of [(0, ptS), (1, cloN f), (2, .one (.e (.sl (eOps (opsF lv))))), (6, .one (.ptr 6 0 0)), (7, .one (.ptr 7 0 0)), (8, .one (.e (.v (.bool x.m)))), (900000, ptS), ((1000000 + 3), .one (.eptr fsE)), ((1000000 + 4), .one (.eptr acE))] [(6, ⟨0, .box (.ds [.e (eI 0), .e (eI 0), .e (eI 0), .e (eQ 0), .e (eT []), .e (eT []), .nil]), 0⟩), (7, ⟨0, .box (.es (eEx x.e)), 0⟩), (900000, ⟨0, .box (.es (eRd l x.p)), 0⟩)]) (fun x => p0 ≤ x.p ∧ x.p ≤ l.length ∧ l.length + 1 ≤ x.k + x.p ∧ wh = (if x.m = true then lpF l F lv x.k x.e ⟨x.p, 0⟩ else (x.e, ⟨x.p, 0⟩))) (fun x => 2 * (l.length - x.p) + (if x.m = true then 1 else 0)) (⟨true, e0, q0, l.length + 1⟩) (le_of (ad := []) ⟨zzl, zzl, zzl, zzl, zzl, zzl, zzl, zzl, zzl, trivial⟩ (memOk_box rfl rfl ⟨rfl, rfl, rfl, rfl, rfl, rfl, trivial, trivial⟩ (memOk_box rfl rfl rfl (memOk_box rfl rfl rfl trivial)))) ⟨hq1, hq0, Nat.le_add_right _ _, hwh.symm⟩ ?_
    rintro ⟨m, e, p, k⟩ ⟨hp1, hp2, hk, hw⟩
    have hp1 : p0 ≤ p := hp1
    have hp2 : p ≤ l.length := hp2
    have hk : l.length + 1 ≤ k + p := hk
    repeat' first | refine zzs ?_ | refine zzr hnt rfl ?_ ?_ | refine zzd hnt rfl ?_ ?_ | refine zzb ?_ | refine zzk ?_
    · exact zzt
    repeat' first | refine zzs ?_ | refine zzb ?_ | refine zzk ?_
    refine tr_cond rfl (fun hc => ?_) (fun hc => ?_)
    · obtain rfl : m = true := hc
      have hw : wh = lpF l F lv k e ⟨p, 0⟩ := hw
      obtain ⟨k1, rfl⟩ : ∃ k1, k = k1 + 1 := ⟨k - 1, by omega⟩
      repeat' first | refine zzs ?_ | refine zzr hnt rfl ?_ ?_ | refine zzd hnt rfl ?_ ?_ | refine zzb ?_ | refine zzk ?_
      · exact zzt
      · exact zzt
      repeat' first | refine zzs ?_ | refine zzb ?_ | refine zzk ?_
      refine tr_loop (σ := Nat) (fun i => St.of [(0, ptS), (1, cloN f), (2, .one (.e (.sl (eOps (opsF lv))))), (6, .one (.ptr 6 0 0)), (7, .one (.ptr 7 0 0)), (8, .one (.e (.v (.bool false)))), (14, .one (.e (.sl (eOps (opsF lv))))), (15, .one (.e (eI ((eOps (opsF lv)).length : Int)))), (16, .one (.e (eI (i : Int)))), (900000, ptS), ((1000000 + 3), .one (.eptr fsE)), ((1000000 + 4), .one (.eptr acE))] [(6, ⟨0, .box (.ds [.e (eI 0), .e (eI 0), .e (eI 0), .e (eQ 0), .e (eT []), .e (eT []), .nil]), 0⟩), (7, ⟨0, .box (.es (eEx e)), 0⟩), (900000, ⟨0, .box (.es (eRd l p)), 0⟩)]) (fun i => i ≤ (opsF lv).length ∧ ∀ j, j < i → seesF l ⟨p, 0⟩ (mkS ((opsF lv).getD j 0)) = false) (fun i => (opsF lv).length - i) (0) (le_of (ad := []) ⟨zzl, zzl, zzl, zzl, zzl, zzl, zzl, zzl, zzl, zzl, zzl, zzl, trivial⟩ (memOk_box rfl rfl ⟨rfl, rfl, rfl, rfl, rfl, rfl, trivial, trivial⟩ (memOk_box rfl rfl rfl (memOk_box rfl rfl rfl trivial)))) ⟨Nat.zero_le _, fun j hj => absurd hj (Nat.not_lt_zero _)⟩ ?_
      rintro i ⟨il, hno⟩
      repeat' first | refine zzs ?_ | refine zzr hnt rfl ?_ ?_ | refine zzd hnt rfl ?_ ?_ | refine zzb ?_ | refine zzk ?_
      · exact zzt
      repeat' first | refine zzs ?_ | refine zzb ?_ | refine zzk ?_
      refine tr_cond rfl (fun hc => ?_) (fun hc => ?_)
      · simp only [zz1, zz2, zz3, zz4, zz5, zz6, zz7, zz8] at hc
        (try simp only [hlw] at hc)
        (try simp only [zz1, zz2, zz3, zz4, zz5, zz6, zz7, zz8] at hc)
        have hlt : i < (opsF lv).length := by omega
        have hor := hops ((opsF lv).getD i 0) (by rw [List.getD_eq_getElem?_getD, List.getElem?_eq_getElem hlt]; exact List.getElem_mem hlt)
        repeat' first | refine zzs ?_ | refine zzb ?_ | refine zzk ?_
        first | refine zzr hnt rfl ?_ ?_ | refine zzd hnt rfl ?_ ?_
        · rw [Int.toNat_natCast, opsGet _ hlt, hlw]
          exact zza
        rw [Int.toNat_natCast, opsGet _ hlt]
        have hmk := mark_fn ((opsF lv).getD i 0) hor
        have hm1 : (mkS ((opsF lv).getD i 0)).t.length ≤ maxLen := mkS_len _ hor
        have hm0 : tkF (mkS ((opsF lv).getD i 0)) = 0 := mkS_ok _ hor
        cases hs : seesF l ⟨p, 0⟩ (mkS ((opsF lv).getD i 0)) with
        | true =>
          have hat : opAtF l ⟨p, 0⟩ lv = (opsF lv).getD i 0 := by
            unfold opAtF
            rw [find_at (f := fun op => seesF l ⟨p, 0⟩ (mkS op)) hlt hno hs]
            rfl
          have hp3 : p < l.length := (sees_iff.1 hs).2.1
          repeat' first | refine zzs ?_ | refine zzb ?_ | refine zzk ?_
          refine tr_region (zzx hnt rfl ?_ (call rfl rfl rfl rfl rfl rfl rfl hnt (hmk) (zzx hnt rfl ?_ (callH (us := []) [(900000, 900000)] [] [] rfl rfl rfl rfl (take_yes l hm p _ hm1 hm0 hs) (by repeat' first | exact .nil | refine .lent rfl rfl rfl ?_ | refine .data rfl ?_) (fun _ => rfl) rfl rfl hnt rfl rfl (by repeat' first | exact trivial | rfl | apply And.intro) (by repeat' first | exact trivial | rfl | apply And.intro) (zzx hnt rfl ?_ (Lex.nil _)))))) ?_
          · exact zzt
          · exact zzt
          · exact zzt
          repeat' first | refine zzs ?_ | refine zzb ?_ | refine zzk ?_
          refine tr_cond rfl (fun hc => ?_) (fun hc => ?_)
          · have hfp := hf (p + 1) (by omega) hp3
            unfold Rds at hfp
            have hfw1 := hfw ⟨p + 1, 0⟩
            have hstep : wh = lpF l F lv k1 (.mk ((opsF lv).getD i 0) val0 [] [e, (F ⟨p + 1, 0⟩).1]) (F ⟨p + 1, 0⟩).2 := by
              rw [hw, lpF, if_neg (fun h => h rfl), if_neg (by rw [hat]; omega), if_neg h3, hat]
            generalize hop : (opsF lv).getD i 0 = op at *
            generalize hr1 : F ⟨p + 1, 0⟩ = r1 at *
            obtain ⟨e1, s1⟩ := r1
            have hl7 : (Cs.es (eEx e)).len = 7 := by rw [eEx_eq]; rfl
            by_cases he1 : s1.e = 0
            · have hfp := hfp.1 he1
              obtain ⟨q1, z1⟩ := s1
              have he1 : z1 = 0 := he1
              subst he1
              have hq2 : p + 1 ≤ q1 := hfw1.1
              have hq3 : q1 ≤ l.length := hfw1.2 hp3
              have htwo : FnD Tryd.prog 27 [.one (.e (eI op)), .agg (.es (List.take 7 (List.drop 0 (eEx e)))), .agg (.es (eEx e1))] (.agg (.es (eEx (.mk op val0 [] [e, e1])))) := by
                rw [tk7]
                exact two_fn op e e1
              repeat' first | refine zzs ?_ | refine zzb ?_ | refine zzk ?_
              refine tr_draw (T := tab) tOk hnt mixedR (lexD (T := tab) rfl ?_ (callBD [(900000, 900000)] [] [] rfl rfl rfl rfl (hfp) (by repeat' first | exact .nil | refine .lent rfl rfl rfl ?_ | refine .data rfl ?_) rfl rfl rfl rfl rfl (by repeat' first | exact trivial | rfl | apply And.intro) (by repeat' first | exact trivial | rfl | apply And.intro) (lexD (T := tab) rfl ?_ (callD rfl rfl rfl rfl rfl rfl rfl rfl (htwo) (lexD (T := tab) rfl ?_ (.nil _)))))) (by first | decide +kernel | kernel_rfl) ?_
              · (dsimp only [AllP]; (repeat' first | exact trivial | assumption | exact Nat.le_of_ble_eq_true rfl | apply And.intro | exact eCells_len1 _ _ ‹_› | exact eCells_isByte _ _ ‹_› | (intro hh_; have hg_ := hh_; (try simp only [condT_ff, condF_tt, notE_t, notE_f, Bool.and_eq_true, ne_eq, decide_eq_true_eq, decide_eq_false_iff_not] at hg_)) | intro _ | exact rfl | omega))
                all_goals trace_state
              · (dsimp only [AllP]; (repeat' first | exact trivial | assumption | exact Nat.le_of_ble_eq_true rfl | apply And.intro | exact eCells_len1 _ _ ‹_› | exact eCells_isByte _ _ ‹_› | (intro hh_; have hg_ := hh_; (try simp only [condT_ff, condF_tt, notE_t, notE_f, Bool.and_eq_true, ne_eq, decide_eq_true_eq, decide_eq_false_iff_not] at hg_)) | intro _ | exact rfl | omega))
                all_goals trace_state
              · (dsimp only [AllP]; (repeat' first | exact trivial | assumption | exact Nat.le_of_ble_eq_true rfl | apply And.intro | exact eCells_len1 _ _ ‹_› | exact eCells_isByte _ _ ‹_› | (intro hh_; have hg_ := hh_; (try simp only [condT_ff, condF_tt, notE_t, notE_f, Bool.and_eq_true, ne_eq, decide_eq_true_eq, decide_eq_false_iff_not] at hg_)) | intro _ | exact rfl | omega))
                all_goals trace_state
              refine tr_exit ?_
              refine ⟨⟨true, .mk op val0 [] [e, e1], q1, k1⟩, ⟨by show p0 ≤ q1; omega, hq3, by show l.length + 1 ≤ k1 + q1; omega, hstep⟩, by simp; omega, le_of (ad := []) ⟨zzl, zzl, zzl, zzl, zzl, zzl, zzl, zzl, zzl, trivial⟩ (memOk_box rfl rfl ⟨rfl, rfl, rfl, rfl, rfl, rfl, trivial, trivial⟩ (memOk_box rfl rfl (pu7 e _) (memOk_box rfl rfl rfl trivial)))⟩
            · have hfp := hfp.2 he1
              rw [lp_bad he1] at hstep
              subst hstep
              repeat' first | refine zzs ?_ | refine zzb ?_ | refine zzk ?_
              refine tr_drawM mixedR [24, 25] 3 [0, 1] [2] (.cons rfl (opT_step tOk hnt rfl (by dsimp only [AllP]; repeat' first | exact trivial | assumption | exact Nat.le_of_ble_eq_true rfl | apply And.intro | exact rfl | omega)) (.cons rfl (opT_any tOk hnt rfl (by dsimp only [AllP]; repeat' first | exact trivial | assumption | exact Nat.le_of_ble_eq_true rfl | apply And.intro | exact rfl | omega) rfl rfl) (.cons rfl (opT_any tOk hnt rfl (by dsimp only [AllP]; repeat' first | exact trivial | assumption | exact Nat.le_of_ble_eq_true rfl | apply And.intro | exact rfl | omega) rfl rfl) (.nil))) (.pan rfl (callPB (us := []) [(900000, 900000)] [] [] rfl rfl rfl rfl (hfp) (by repeat' first | exact .nil | refine .lent rfl rfl rfl ?_ | refine .data rfl ?_) (fun _ => rfl) rfl rfl rfl (by repeat' first | exact trivial | rfl | apply And.intro) (by repeat' first | exact trivial | rfl | apply And.intro)) (.cons rfl (opT_any tOk hnt rfl (by dsimp only [AllP]; repeat' first | exact trivial | assumption | exact Nat.le_of_ble_eq_true rfl | apply And.intro | exact rfl | omega) rfl rfl) (.cons rfl (opT_any tOk hnt rfl (by dsimp only [AllP]; repeat' first | exact trivial | assumption | exact Nat.le_of_ble_eq_true rfl | apply And.intro | exact rfl | omega) rfl rfl) (.nil))))) (by decide +kernel) ?_
              exact ⟨fun h => absurd h he1, fun _ => ⟨rfl, fun X => le_of (ad := []) ⟨⟨rfl, rfl, rfl, rfl, rfl⟩, trivial⟩ (memOk_box rfl rfl rfl trivial)⟩⟩
          exact absurd hc Bool.noConfusion
        | false =>
          repeat' first | refine zzs ?_ | refine zzb ?_ | refine zzk ?_
          refine tr_region (zzx hnt rfl ?_ (call rfl rfl rfl rfl rfl rfl rfl hnt (hmk) (zzx hnt rfl ?_ (callH (us := []) [(900000, 900000)] [] [] rfl rfl rfl rfl (take_no l p _ hm1 hm0 hs) (by repeat' first | exact .nil | refine .lent rfl rfl rfl ?_ | refine .data rfl ?_) (fun _ => rfl) rfl rfl hnt rfl rfl (by repeat' first | exact trivial | rfl | apply And.intro) (by repeat' first | exact trivial | rfl | apply And.intro) (zzx hnt rfl ?_ (Lex.nil _)))))) ?_
          · exact zzt
          · exact zzt
          · exact zzt
          repeat' first | refine zzs ?_ | refine zzb ?_ | refine zzk ?_
          refine tr_cond rfl (fun hc => ?_) (fun hc => ?_)
          · exact absurd hc Bool.noConfusion
          repeat' first | refine zzs ?_ | refine zzr hnt rfl ?_ ?_ | refine zzd hnt rfl ?_ ?_ | refine zzb ?_ | refine zzk ?_
          · exact zzt
          refine ⟨i + 1, ⟨hlt, fun j hj => by rcases Nat.lt_succ_iff_lt_or_eq.1 hj with h | h; exact hno j h; rw [h]; exact hs⟩, by omega, le_of (ad := []) ⟨zzl, zzl, zzl, zzl, zzl, zzl, zzl, zzl, zzl, zzl, zzl, zzl, trivial⟩ (memOk_box rfl rfl ⟨rfl, rfl, rfl, rfl, rfl, rfl, trivial, trivial⟩ (memOk_box rfl rfl rfl (memOk_box rfl rfl rfl trivial)))⟩
      simp only [zz1, zz2, zz3, zz4, zz5, zz6, zz7, zz8] at hc
      (try simp only [hlw] at hc)
      (try simp only [zz1, zz2, zz3, zz4, zz5, zz6, zz7, zz8] at hc)
      have hi : i = (opsF lv).length := by omega
      subst hi
      have hat : opAtF l ⟨p, 0⟩ lv = 0 := by
        unfold opAtF
        rw [find_none (f := fun op => seesF l ⟨p, 0⟩ (mkS op)) hno]
        rfl
      refine tr_exit ?_
      have hw2 : wh = (e, ⟨p, 0⟩) := by
        rw [hw, lpF, if_neg (fun h => h rfl), if_pos hat]
      refine ⟨⟨false, e, p, k1 + 1⟩, ⟨hp1, hp2, hk, hw2⟩, by simp, le_of (ad := []) ⟨zzl, zzl, zzl, zzl, zzl, zzl, zzl, zzl, zzl, trivial⟩ (memOk_box rfl rfl ⟨rfl, rfl, rfl, rfl, rfl, rfl, trivial, trivial⟩ (memOk_box rfl rfl rfl (memOk_box rfl rfl rfl trivial)))⟩
    obtain rfl : m = false := hc
    have hw : wh = (e, ⟨p, 0⟩) := hw
    rw [hw]
    refine tr_exit ?_
    have hl7 : (Cs.es (eEx e)).len = 7 := by rw [eEx_eq]; rfl
    have hl8 : (Cs.es (List.take 7 (List.drop 0 (eEx e)))).len = 7 := by rw [tk7]; exact hl7
    repeat' first | refine zzs ?_ | refine zzb ?_ | refine zzk ?_
    first | refine zzr hnt rfl ?_ ?_ | refine zzd hnt rfl ?_ ?_
    · exact zza
    rw [tk7]
    exact tr_ret ⟨fun _ => ⟨.inr rfl, _, _, _, rfl, (by (repeat' first | exact trivial | exact Nat.le_of_ble_eq_true rfl | exact Nat.le_of_eq hl7.symm | exact Nat.le_of_eq hl8.symm | apply And.intro)), rfl, fun X => le_of (ad := []) ⟨(tk7 e), ⟨rfl, rfl, rfl, rfl, rfl⟩, trivial⟩ (memOk_box rfl rfl rfl trivial)⟩, fun h => absurd rfl h⟩
  · have hf0 := hf0.2 he0
    rw [lp_bad he0]
    repeat' first | refine zzs ?_ | refine zzb ?_ | refine zzk ?_
    refine tr_regionK 1 (zzx hnt rfl ?_ (Lex.nil _)) (callPB (us := []) [(900000, 900000)] [] [] rfl rfl rfl rfl (hf0) (by repeat' first | exact .nil | refine .lent rfl rfl rfl ?_ | refine .data rfl ?_) (fun _ => rfl) rfl rfl rfl (by repeat' first | exact trivial | rfl | apply And.intro) (by repeat' first | exact trivial | rfl | apply And.intro)) ?_
    · exact zzt
    exact ⟨fun h => absurd h he0, fun _ => ⟨rfl, fun X => le_of (ad := []) ⟨⟨rfl, rfl, rfl, rfl, rfl⟩, trivial⟩ (memOk_box rfl rfl rfl trivial)⟩⟩
end Go.Proofs.YtcdifgacoleckaaDoor
namespace Go.Proofs.YtcdifgacoleckaaDoor
open Go Go.RowKit Go.Proofs.YtcdifgacoleckaaDoor.Ab
set_option linter.unusedSimpArgs false
set_option linter.unusedVariables false

set_option maxRecDepth 10000 in
set_option maxHeartbeats 2000000 in
theorem lv0_fn (l : List Tok) (hm : l.length ≤ maxLen) (n p0 : Nat) (hp0 : p0 ≤ l.length) (hf : ∀ p, p0 ≤ p → p ≤ l.length → Rds l 16 (climbF l n 1) p) : FnR Tryd.prog 11 (gK) (msR l p0) [ptS] ((climbF l (n + 1) 0 ⟨p0, 0⟩).2.e = 0) (.agg (.es (eEx (climbF l (n + 1) 0 ⟨p0, 0⟩).1))) (msR l (climbF l (n + 1) 0 ⟨p0, 0⟩).2.p) (chS (climbF l (n + 1) 0 ⟨p0, 0⟩).2) := by
  refine fn_introR (T := tab) tOk Tryd.func11 rfl (by kernel_rfl) (by simp [Tryd.ntmps11]) rfl rfl ?_
  intro X hX
  have hnt : X.nt = 8 := hX
  clear hX
  have hc := chain_fn l hm p0 0 (by decide) (by decide) (by decide) 16 (climbF l n 1) (fun s h => climb_bad h n _) (climb_fwd l n _) hp0 hf
  have hE : climbF l (n + 1) 0 ⟨p0, 0⟩ = lpF l (climbF l n 1) 0 (l.length + 1) (climbF l n 1 ⟨p0, 0⟩).1 (climbF l n 1 ⟨p0, 0⟩).2 := by
    rw [climbF]
    simp
  rw [← hE] at hc
  generalize climbF l (n + 1) 0 ⟨p0, 0⟩ = w at *
  obtain ⟨e, s⟩ := w
  have hl7 : (Cs.es (eEx e)).len = 7 := by rw [eEx_eq]; rfl
  repeat' first | refine zzs ?_ | refine zzr hnt rfl ?_ ?_ | refine zzd hnt rfl ?_ ?_ | refine zzb ?_ | refine zzk ?_
  · exact zzt
  by_cases he : s.e = 0
  · have hc := hc.1 he
    repeat' first | refine zzs ?_ | refine zzb ?_ | refine zzk ?_
    refine tr_region (zzx hnt rfl ?_ (callH [(900000, 900000)] [] [] rfl rfl rfl rfl (hc) (by repeat' first | exact .nil | refine .lent rfl rfl rfl ?_ | refine argsData1 rfl ?_ | refine .data rfl ?_) (ver_upd1 rfl) rfl rfl hnt rfl rfl (by repeat' first | exact trivial | rfl | apply And.intro) (by repeat' first | exact trivial | rfl | apply And.intro) (zzx hnt rfl ?_ (Lex.nil _)))) ?_
    · exact zzt
    · exact zzt
    exact tr_ret ⟨fun _ => ⟨.inr rfl, _, _, _, rfl, (by (repeat' first | exact trivial | exact Nat.le_of_ble_eq_true rfl | exact Nat.le_of_eq hl7.symm | apply And.intro)), rfl, fun X => le_of (ad := []) ⟨(tk7 e), ⟨rfl, rfl, rfl, rfl, rfl⟩, trivial⟩ (memOk_box rfl rfl rfl trivial)⟩, fun h => absurd he h⟩
  have hc := hc.2 he
  repeat' first | refine zzs ?_ | refine zzb ?_ | refine zzk ?_
  refine tr_regionK 4 (zzx hnt rfl ?_ (Lex.nil _)) (callP [(900000, 900000)] [] [] rfl rfl rfl rfl (hc) (by repeat' first | exact .nil | refine .lent rfl rfl rfl ?_ | refine argsData1 rfl ?_ | refine .data rfl ?_) (ver_upd1 rfl) rfl rfl rfl (by repeat' first | exact trivial | rfl | apply And.intro) (by repeat' first | exact trivial | rfl | apply And.intro)) ?_
  · exact zzt
  exact ⟨fun h => absurd h he, fun _ => ⟨rfl, fun X => le_of (ad := []) ⟨⟨rfl, rfl, rfl, rfl, rfl⟩, trivial⟩ (memOk_box rfl rfl rfl trivial)⟩⟩
set_option maxRecDepth 10000 in
set_option maxHeartbeats 2000000 in
theorem lv1_fn (l : List Tok) (hm : l.length ≤ maxLen) (n p0 : Nat) (hp0 : p0 ≤ l.length) (hf : ∀ p, p0 ≤ p → p ≤ l.length → Rds l 28 (climbF l n 2) p) : FnR Tryd.prog 16 (gK) (msR l p0) [ptS] ((climbF l (n + 1) 1 ⟨p0, 0⟩).2.e = 0) (.agg (.es (eEx (climbF l (n + 1) 1 ⟨p0, 0⟩).1))) (msR l (climbF l (n + 1) 1 ⟨p0, 0⟩).2.p) (chS (climbF l (n + 1) 1 ⟨p0, 0⟩).2) := by
  refine fn_introR (T := tab) tOk Tryd.func16 rfl (by kernel_rfl) (by simp [Tryd.ntmps16]) rfl rfl ?_
  intro X hX
  have hnt : X.nt = 8 := hX
  clear hX
  have hc := chain_fn l hm p0 1 (by decide) (by decide) (by decide) 28 (climbF l n 2) (fun s h => climb_bad h n _) (climb_fwd l n _) hp0 hf
  have hE : climbF l (n + 1) 1 ⟨p0, 0⟩ = lpF l (climbF l n 2) 1 (l.length + 1) (climbF l n 2 ⟨p0, 0⟩).1 (climbF l n 2 ⟨p0, 0⟩).2 := by
    rw [climbF]
    simp
  rw [← hE] at hc
  generalize climbF l (n + 1) 1 ⟨p0, 0⟩ = w at *
  obtain ⟨e, s⟩ := w
  have hl7 : (Cs.es (eEx e)).len = 7 := by rw [eEx_eq]; rfl
  repeat' first | refine zzs ?_ | refine zzr hnt rfl ?_ ?_ | refine zzd hnt rfl ?_ ?_ | refine zzb ?_ | refine zzk ?_
  · exact zzt
  by_cases he : s.e = 0
  · have hc := hc.1 he
    repeat' first | refine zzs ?_ | refine zzb ?_ | refine zzk ?_
    refine tr_region (zzx hnt rfl ?_ (callH [(900000, 900000)] [] [] rfl rfl rfl rfl (hc) (by repeat' first | exact .nil | refine .lent rfl rfl rfl ?_ | refine argsData1 rfl ?_ | refine .data rfl ?_) (ver_upd1 rfl) rfl rfl hnt rfl rfl (by repeat' first | exact trivial | rfl | apply And.intro) (by repeat' first | exact trivial | rfl | apply And.intro) (zzx hnt rfl ?_ (Lex.nil _)))) ?_
    · exact zzt
    · exact zzt
    exact tr_ret ⟨fun _ => ⟨.inr rfl, _, _, _, rfl, (by (repeat' first | exact trivial | exact Nat.le_of_ble_eq_true rfl | exact Nat.le_of_eq hl7.symm | apply And.intro)), rfl, fun X => le_of (ad := []) ⟨(tk7 e), ⟨rfl, rfl, rfl, rfl, rfl⟩, trivial⟩ (memOk_box rfl rfl rfl trivial)⟩, fun h => absurd he h⟩
  have hc := hc.2 he
  repeat' first | refine zzs ?_ | refine zzb ?_ | refine zzk ?_
  refine tr_regionK 4 (zzx hnt rfl ?_ (Lex.nil _)) (callP [(900000, 900000)] [] [] rfl rfl rfl rfl (hc) (by repeat' first | exact .nil | refine .lent rfl rfl rfl ?_ | refine argsData1 rfl ?_ | refine .data rfl ?_) (ver_upd1 rfl) rfl rfl rfl (by repeat' first | exact trivial | rfl | apply And.intro) (by repeat' first | exact trivial | rfl | apply And.intro)) ?_
  · exact zzt
  exact ⟨fun h => absurd h he, fun _ => ⟨rfl, fun X => le_of (ad := []) ⟨⟨rfl, rfl, rfl, rfl, rfl⟩, trivial⟩ (memOk_box rfl rfl rfl trivial)⟩⟩
set_option maxRecDepth 10000 in
set_option maxHeartbeats 2000000 in
theorem lv4_fn (l : List Tok) (hm : l.length ≤ maxLen) (n p0 : Nat) (hp0 : p0 ≤ l.length) (hf : ∀ p, p0 ≤ p → p ≤ l.length → Rds l 65 (climbF l n 5) p) : FnR Tryd.prog 53 (gK) (msR l p0) [ptS] ((climbF l (n + 1) 4 ⟨p0, 0⟩).2.e = 0) (.agg (.es (eEx (climbF l (n + 1) 4 ⟨p0, 0⟩).1))) (msR l (climbF l (n + 1) 4 ⟨p0, 0⟩).2.p) (chS (climbF l (n + 1) 4 ⟨p0, 0⟩).2) := by
  refine fn_introR (T := tab) tOk Tryd.func53 rfl (by kernel_rfl) (by simp [Tryd.ntmps53]) rfl rfl ?_
  intro X hX
  have hnt : X.nt = 8 := hX
  clear hX
  have hc := chain_fn l hm p0 4 (by decide) (by decide) (by decide) 65 (climbF l n 5) (fun s h => climb_bad h n _) (climb_fwd l n _) hp0 hf
  have hE : climbF l (n + 1) 4 ⟨p0, 0⟩ = lpF l (climbF l n 5) 4 (l.length + 1) (climbF l n 5 ⟨p0, 0⟩).1 (climbF l n 5 ⟨p0, 0⟩).2 := by
    rw [climbF]
    simp
  rw [← hE] at hc
  generalize climbF l (n + 1) 4 ⟨p0, 0⟩ = w at *
  obtain ⟨e, s⟩ := w
  have hl7 : (Cs.es (eEx e)).len = 7 := by rw [eEx_eq]; rfl
  repeat' first | refine zzs ?_ | refine zzr hnt rfl ?_ ?_ | refine zzd hnt rfl ?_ ?_ | refine zzb ?_ | refine zzk ?_
  · exact zzt
  by_cases he : s.e = 0
  · have hc := hc.1 he
    repeat' first | refine zzs ?_ | refine zzb ?_ | refine zzk ?_
    refine tr_region (zzx hnt rfl ?_ (callH [(900000, 900000)] [] [] rfl rfl rfl rfl (hc) (by repeat' first | exact .nil | refine .lent rfl rfl rfl ?_ | refine argsData1 rfl ?_ | refine .data rfl ?_) (ver_upd1 rfl) rfl rfl hnt rfl rfl (by repeat' first | exact trivial | rfl | apply And.intro) (by repeat' first | exact trivial | rfl | apply And.intro) (zzx hnt rfl ?_ (Lex.nil _)))) ?_
    · exact zzt
    · exact zzt
    exact tr_ret ⟨fun _ => ⟨.inr rfl, _, _, _, rfl, (by (repeat' first | exact trivial | exact Nat.le_of_ble_eq_true rfl | exact Nat.le_of_eq hl7.symm | apply And.intro)), rfl, fun X => le_of (ad := []) ⟨(tk7 e), ⟨rfl, rfl, rfl, rfl, rfl⟩, trivial⟩ (memOk_box rfl rfl rfl trivial)⟩, fun h => absurd he h⟩
  have hc := hc.2 he
  repeat' first | refine zzs ?_ | refine zzb ?_ | refine zzk ?_
  refine tr_regionK 4 (zzx hnt rfl ?_ (Lex.nil _)) (callP [(900000, 900000)] [] [] rfl rfl rfl rfl (hc) (by repeat' first | exact .nil | refine .lent rfl rfl rfl ?_ | refine argsData1 rfl ?_ | refine .data rfl ?_) (ver_upd1 rfl) rfl rfl rfl (by repeat' first | exact trivial | rfl | apply And.intro) (by repeat' first | exact trivial | rfl | apply And.intro)) ?_
  · exact zzt
  exact ⟨fun h => absurd h he, fun _ => ⟨rfl, fun X => le_of (ad := []) ⟨⟨rfl, rfl, rfl, rfl, rfl⟩, trivial⟩ (memOk_box rfl rfl rfl trivial)⟩⟩
set_option maxRecDepth 10000 in
set_option maxHeartbeats 2000000 in
theorem lv5_fn (l : List Tok) (hm : l.length ≤ maxLen) (n p0 : Nat) (hp0 : p0 ≤ l.length) (hf : ∀ p, p0 ≤ p → p ≤ l.length → Rds l 71 (climbF l n 6) p) : FnR Tryd.prog 65 (gK) (msR l p0) [ptS] ((climbF l (n + 1) 5 ⟨p0, 0⟩).2.e = 0) (.agg (.es (eEx (climbF l (n + 1) 5 ⟨p0, 0⟩).1))) (msR l (climbF l (n + 1) 5 ⟨p0, 0⟩).2.p) (chS (climbF l (n + 1) 5 ⟨p0, 0⟩).2) := by
  refine fn_introR (T := tab) tOk Tryd.func65 rfl (by kernel_rfl) (by simp [Tryd.ntmps65]) rfl rfl ?_
  intro X hX
  have hnt : X.nt = 8 := hX
  clear hX
  have hc := chain_fn l hm p0 5 (by decide) (by decide) (by decide) 71 (climbF l n 6) (fun s h => climb_bad h n _) (climb_fwd l n _) hp0 hf
  have hE : climbF l (n + 1) 5 ⟨p0, 0⟩ = lpF l (climbF l n 6) 5 (l.length + 1) (climbF l n 6 ⟨p0, 0⟩).1 (climbF l n 6 ⟨p0, 0⟩).2 := by
    rw [climbF]
    simp
  rw [← hE] at hc
  generalize climbF l (n + 1) 5 ⟨p0, 0⟩ = w at *
  obtain ⟨e, s⟩ := w
  have hl7 : (Cs.es (eEx e)).len = 7 := by rw [eEx_eq]; rfl
  repeat' first | refine zzs ?_ | refine zzr hnt rfl ?_ ?_ | refine zzd hnt rfl ?_ ?_ | refine zzb ?_ | refine zzk ?_
  · exact zzt
  by_cases he : s.e = 0
  · have hc := hc.1 he
    repeat' first | refine zzs ?_ | refine zzb ?_ | refine zzk ?_
    refine tr_region (zzx hnt rfl ?_ (callH [(900000, 900000)] [] [] rfl rfl rfl rfl (hc) (by repeat' first | exact .nil | refine .lent rfl rfl rfl ?_ | refine argsData1 rfl ?_ | refine .data rfl ?_) (ver_upd1 rfl) rfl rfl hnt rfl rfl (by repeat' first | exact trivial | rfl | apply And.intro) (by repeat' first | exact trivial | rfl | apply And.intro) (zzx hnt rfl ?_ (Lex.nil _)))) ?_
    · exact zzt
    · exact zzt
    exact tr_ret ⟨fun _ => ⟨.inr rfl, _, _, _, rfl, (by (repeat' first | exact trivial | exact Nat.le_of_ble_eq_true rfl | exact Nat.le_of_eq hl7.symm | apply And.intro)), rfl, fun X => le_of (ad := []) ⟨(tk7 e), ⟨rfl, rfl, rfl, rfl, rfl⟩, trivial⟩ (memOk_box rfl rfl rfl trivial)⟩, fun h => absurd he h⟩
  have hc := hc.2 he
  repeat' first | refine zzs ?_ | refine zzb ?_ | refine zzk ?_
  refine tr_regionK 4 (zzx hnt rfl ?_ (Lex.nil _)) (callP [(900000, 900000)] [] [] rfl rfl rfl rfl (hc) (by repeat' first | exact .nil | refine .lent rfl rfl rfl ?_ | refine argsData1 rfl ?_ | refine .data rfl ?_) (ver_upd1 rfl) rfl rfl rfl (by repeat' first | exact trivial | rfl | apply And.intro) (by repeat' first | exact trivial | rfl | apply And.intro)) ?_
  · exact zzt
  exact ⟨fun h => absurd h he, fun _ => ⟨rfl, fun X => le_of (ad := []) ⟨⟨rfl, rfl, rfl, rfl, rfl⟩, trivial⟩ (memOk_box rfl rfl rfl trivial)⟩⟩
set_option maxRecDepth 10000 in
set_option maxHeartbeats 2000000 in
theorem lv6_fn (l : List Tok) (hm : l.length ≤ maxLen) (n p0 : Nat) (hp0 : p0 ≤ l.length) (hf : ∀ p, p0 ≤ p → p ≤ l.length → Rds l 72 (climbF l n 7) p) : FnR Tryd.prog 71 (gK) (msR l p0) [ptS] ((climbF l (n + 1) 6 ⟨p0, 0⟩).2.e = 0) (.agg (.es (eEx (climbF l (n + 1) 6 ⟨p0, 0⟩).1))) (msR l (climbF l (n + 1) 6 ⟨p0, 0⟩).2.p) (chS (climbF l (n + 1) 6 ⟨p0, 0⟩).2) := by
  refine fn_introR (T := tab) tOk Tryd.func71 rfl (by kernel_rfl) (by simp [Tryd.ntmps71]) rfl rfl ?_
  intro X hX
  have hnt : X.nt = 8 := hX
  clear hX
  have hc := chain_fn l hm p0 6 (by decide) (by decide) (by decide) 72 (climbF l n 7) (fun s h => climb_bad h n _) (climb_fwd l n _) hp0 hf
  have hE : climbF l (n + 1) 6 ⟨p0, 0⟩ = lpF l (climbF l n 7) 6 (l.length + 1) (climbF l n 7 ⟨p0, 0⟩).1 (climbF l n 7 ⟨p0, 0⟩).2 := by
    rw [climbF]
    simp
  rw [← hE] at hc
  generalize climbF l (n + 1) 6 ⟨p0, 0⟩ = w at *
  obtain ⟨e, s⟩ := w
  have hl7 : (Cs.es (eEx e)).len = 7 := by rw [eEx_eq]; rfl
  repeat' first | refine zzs ?_ | refine zzr hnt rfl ?_ ?_ | refine zzd hnt rfl ?_ ?_ | refine zzb ?_ | refine zzk ?_
  · exact zzt
  by_cases he : s.e = 0
  · have hc := hc.1 he
    repeat' first | refine zzs ?_ | refine zzb ?_ | refine zzk ?_
    refine tr_region (zzx hnt rfl ?_ (callH [(900000, 900000)] [] [] rfl rfl rfl rfl (hc) (by repeat' first | exact .nil | refine .lent rfl rfl rfl ?_ | refine argsData1 rfl ?_ | refine .data rfl ?_) (ver_upd1 rfl) rfl rfl hnt rfl rfl (by repeat' first | exact trivial | rfl | apply And.intro) (by repeat' first | exact trivial | rfl | apply And.intro) (zzx hnt rfl ?_ (Lex.nil _)))) ?_
    · exact zzt
    · exact zzt
    exact tr_ret ⟨fun _ => ⟨.inr rfl, _, _, _, rfl, (by (repeat' first | exact trivial | exact Nat.le_of_ble_eq_true rfl | exact Nat.le_of_eq hl7.symm | apply And.intro)), rfl, fun X => le_of (ad := []) ⟨(tk7 e), ⟨rfl, rfl, rfl, rfl, rfl⟩, trivial⟩ (memOk_box rfl rfl rfl trivial)⟩, fun h => absurd he h⟩
  have hc := hc.2 he
  repeat' first | refine zzs ?_ | refine zzb ?_ | refine zzk ?_
  refine tr_regionK 4 (zzx hnt rfl ?_ (Lex.nil _)) (callP [(900000, 900000)] [] [] rfl rfl rfl rfl (hc) (by repeat' first | exact .nil | refine .lent rfl rfl rfl ?_ | refine argsData1 rfl ?_ | refine .data rfl ?_) (ver_upd1 rfl) rfl rfl rfl (by repeat' first | exact trivial | rfl | apply And.intro) (by repeat' first | exact trivial | rfl | apply And.intro)) ?_
  · exact zzt
  exact ⟨fun h => absurd h he, fun _ => ⟨rfl, fun X => le_of (ad := []) ⟨⟨rfl, rfl, rfl, rfl, rfl⟩, trivial⟩ (memOk_box rfl rfl rfl trivial)⟩⟩

set_option maxRecDepth 10000 in
set_option maxHeartbeats 2000000 in
theorem lv2_fn (l : List Tok) (hm : l.length ≤ maxLen) (n p0 : Nat) (hp0 : p0 ≤ l.length) (h2 : ∀ p, p0 < p → p ≤ l.length → Rds l 28 (climbF l n 2) p) (h3 : Rds l 42 (climbF l n 3) p0) : FnR Tryd.prog 28 (gK) (msR l p0) [ptS] ((climbF l (n + 1) 2 ⟨p0, 0⟩).2.e = 0) (.agg (.es (eEx (climbF l (n + 1) 2 ⟨p0, 0⟩).1))) (msR l (climbF l (n + 1) 2 ⟨p0, 0⟩).2.p) (chS (climbF l (n + 1) 2 ⟨p0, 0⟩).2) := by
  refine fn_introR (T := tab) tOk Tryd.func28 rfl (by kernel_rfl) (by simp [Tryd.ntmps28]) rfl rfl ?_
  intro X hX
  have hnt : X.nt = 12 := hX
  clear hX
  repeat' first | refine zzs ?_ | refine zzr hnt rfl ?_ ?_ | refine zzd hnt rfl ?_ ?_ | refine zzb ?_ | refine zzk ?_
  · exact zzt
  have hwd := wordT_fn [78, 79, 84]
  cases hs : seesF l ⟨p0, 0⟩ tokN with
  | true =>
    have hp := (sees_iff.1 hs).2.1
    have hE : climbF l (n + 1) 2 ⟨p0, 0⟩ = (.mk 4 val0 [] [(climbF l n 2 ⟨p0 + 1, 0⟩).1], (climbF l n 2 ⟨p0 + 1, 0⟩).2) := by
      rw [climbF]
      simp [hs, past_yes hs]
    rw [hE]
    have hz := h2 (p0 + 1) (Nat.lt_succ_self _) hp
    unfold Rds at hz
    generalize climbF l n 2 ⟨p0 + 1, 0⟩ = w at *
    obtain ⟨e, s⟩ := w
    have w7 : (Cs.es (eEx e)).len = 7 := by rw [eEx_eq]; rfl
    repeat' first | refine zzs ?_ | refine zzb ?_ | refine zzk ?_
    refine tr_region (zzx hnt rfl ?_ (call rfl rfl rfl rfl rfl rfl rfl hnt (hwd) (zzx hnt rfl ?_ (callH (us := []) [(900000, 900000)] [] [] rfl rfl rfl rfl (take_yes l hm p0 tokN (Nat.le_of_ble_eq_true rfl) (by decide) hs) (by repeat' first | exact .nil | refine .lent rfl rfl rfl ?_ | refine .data rfl ?_) (fun _ => rfl) rfl rfl hnt rfl rfl (by repeat' first | exact trivial | rfl | apply And.intro) (by repeat' first | exact trivial | rfl | apply And.intro) (zzx hnt rfl ?_ (Lex.nil _)))))) ?_
    · exact zzt
    · exact zzt
    · exact zzt
    repeat' first | refine zzs ?_ | refine zzb ?_ | refine zzk ?_
    refine tr_cond rfl (fun hc => ?_) (fun hc => ?_)
    · by_cases he : s.e = 0
      · have hz := hz.1 he
        repeat' first | refine zzs ?_ | refine zzb ?_ | refine zzk ?_
        refine tr_region (zzx hnt rfl ?_ (callH (us := []) [(900000, 900000)] [] [] rfl rfl rfl rfl (hz) (by repeat' first | exact .nil | refine .lent rfl rfl rfl ?_ | refine .data rfl ?_) (fun _ => rfl) rfl rfl hnt rfl rfl (by repeat' first | exact trivial | rfl | apply And.intro) (by repeat' first | exact trivial | rfl | apply And.intro) (zzx hnt rfl ?_ (Lex.nil _)))) ?_
        · exact zzt
        · exact zzt
        refine tr_le (le_box 2 rfl rfl rfl) ?_
        exact tr_ret ⟨fun _ => ⟨.inr rfl, _, _, _, rfl, (by (repeat' first | exact trivial | exact Nat.le_of_ble_eq_true rfl | exact Nat.le_of_eq w7.symm | apply And.intro)), rfl, fun X => le_of (ad := []) ⟨(by rw [eEx_mk]; rfl), ⟨rfl, rfl, rfl, rfl, rfl⟩, trivial⟩ (memOk_box rfl rfl rfl trivial)⟩, fun h => absurd he h⟩
      have hz := hz.2 he
      repeat' first | refine zzs ?_ | refine zzb ?_ | refine zzk ?_
      refine tr_regionK 1 (zzx hnt rfl ?_ (Lex.nil _)) (callP (us := []) [(900000, 900000)] [] [] rfl rfl rfl rfl (hz) (by repeat' first | exact .nil | refine .lent rfl rfl rfl ?_ | refine .data rfl ?_) (fun _ => rfl) rfl rfl rfl (by repeat' first | exact trivial | rfl | apply And.intro) (by repeat' first | exact trivial | rfl | apply And.intro)) ?_
      · exact zzt
      exact ⟨fun h => absurd h he, fun _ => ⟨rfl, fun X => le_of (ad := []) ⟨⟨rfl, rfl, rfl, rfl, rfl⟩, trivial⟩ (memOk_box rfl rfl rfl trivial)⟩⟩
    exact absurd hc Bool.noConfusion
  | false =>
    have hE : climbF l (n + 1) 2 ⟨p0, 0⟩ = climbF l n 3 ⟨p0, 0⟩ := by
      rw [climbF]
      simp [hs]
    rw [hE]
    have hz := h3
    unfold Rds at hz
    generalize (climbF l n 3) ⟨p0, 0⟩ = w at *
    obtain ⟨e, s⟩ := w
    have w7 : (Cs.es (eEx e)).len = 7 := by rw [eEx_eq]; rfl
    repeat' first | refine zzs ?_ | refine zzb ?_ | refine zzk ?_
    refine tr_region (zzx hnt rfl ?_ (call rfl rfl rfl rfl rfl rfl rfl hnt (hwd) (zzx hnt rfl ?_ (callH (us := []) [(900000, 900000)] [] [] rfl rfl rfl rfl (take_no l p0 tokN (Nat.le_of_ble_eq_true rfl) (by decide) hs) (by repeat' first | exact .nil | refine .lent rfl rfl rfl ?_ | refine .data rfl ?_) (fun _ => rfl) rfl rfl hnt rfl rfl (by repeat' first | exact trivial | rfl | apply And.intro) (by repeat' first | exact trivial | rfl | apply And.intro) (zzx hnt rfl ?_ (Lex.nil _)))))) ?_
    · exact zzt
    · exact zzt
    · exact zzt
    repeat' first | refine zzs ?_ | refine zzb ?_ | refine zzk ?_
    refine tr_cond rfl (fun hc => ?_) (fun hc => ?_)
    · exact absurd hc Bool.noConfusion
    by_cases he : s.e = 0
    · have hz := hz.1 he
      repeat' first | refine zzs ?_ | refine zzb ?_ | refine zzk ?_
      refine tr_region (zzx hnt rfl ?_ (callH (us := []) [(900000, 900000)] [] [] rfl rfl rfl rfl (hz) (by repeat' first | exact .nil | refine .lent rfl rfl rfl ?_ | refine .data rfl ?_) (fun _ => rfl) rfl rfl hnt rfl rfl (by repeat' first | exact trivial | rfl | apply And.intro) (by repeat' first | exact trivial | rfl | apply And.intro) (zzx hnt rfl ?_ (Lex.nil _)))) ?_
      · exact zzt
      · exact zzt
      exact tr_ret ⟨fun _ => ⟨.inr rfl, _, _, _, rfl, (by (repeat' first | exact trivial | exact Nat.le_of_ble_eq_true rfl | exact Nat.le_of_eq w7.symm | apply And.intro)), rfl, fun X => le_of (ad := []) ⟨(tk7 e), ⟨rfl, rfl, rfl, rfl, rfl⟩, trivial⟩ (memOk_box rfl rfl rfl trivial)⟩, fun h => absurd he h⟩
    have hz := hz.2 he
    repeat' first | refine zzs ?_ | refine zzb ?_ | refine zzk ?_
    refine tr_regionK 1 (zzx hnt rfl ?_ (Lex.nil _)) (callP (us := []) [(900000, 900000)] [] [] rfl rfl rfl rfl (hz) (by repeat' first | exact .nil | refine .lent rfl rfl rfl ?_ | refine .data rfl ?_) (fun _ => rfl) rfl rfl rfl (by repeat' first | exact trivial | rfl | apply And.intro) (by repeat' first | exact trivial | rfl | apply And.intro)) ?_
    · exact zzt
    exact ⟨fun h => absurd h he, fun _ => ⟨rfl, fun X => le_of (ad := []) ⟨⟨rfl, rfl, rfl, rfl, rfl⟩, trivial⟩ (memOk_box rfl rfl rfl trivial)⟩⟩
set_option maxRecDepth 10000 in
set_option maxHeartbeats 2000000 in
theorem lv7_fn (l : List Tok) (hm : l.length ≤ maxLen) (n p0 : Nat) (hp0 : p0 ≤ l.length) (h2 : ∀ p, p0 < p → p ≤ l.length → Rds l 72 (climbF l n 7) p) (h3 : Rds l 73 (groundF l (climbF l n 0)) p0) : FnR Tryd.prog 72 (gK) (msR l p0) [ptS] ((climbF l (n + 1) 7 ⟨p0, 0⟩).2.e = 0) (.agg (.es (eEx (climbF l (n + 1) 7 ⟨p0, 0⟩).1))) (msR l (climbF l (n + 1) 7 ⟨p0, 0⟩).2.p) (chS (climbF l (n + 1) 7 ⟨p0, 0⟩).2) := by
  refine fn_introR (T := tab) tOk Tryd.func72 rfl (by kernel_rfl) (by simp [Tryd.ntmps72]) rfl rfl ?_
  intro X hX
  have hnt : X.nt = 12 := hX
  clear hX
  repeat' first | refine zzs ?_ | refine zzr hnt rfl ?_ ?_ | refine zzd hnt rfl ?_ ?_ | refine zzb ?_ | refine zzk ?_
  · exact zzt
  have hwd := signT_fn [45]
  cases hs : seesF l ⟨p0, 0⟩ tokM with
  | true =>
    have hp := (sees_iff.1 hs).2.1
    have hE : climbF l (n + 1) 7 ⟨p0, 0⟩ = (.mk 3 val0 [] [(climbF l n 7 ⟨p0 + 1, 0⟩).1], (climbF l n 7 ⟨p0 + 1, 0⟩).2) := by
      rw [climbF]
      simp [hs, past_yes hs]
    rw [hE]
    have hz := h2 (p0 + 1) (Nat.lt_succ_self _) hp
    unfold Rds at hz
    generalize climbF l n 7 ⟨p0 + 1, 0⟩ = w at *
    obtain ⟨e, s⟩ := w
    have w7 : (Cs.es (eEx e)).len = 7 := by rw [eEx_eq]; rfl
    repeat' first | refine zzs ?_ | refine zzb ?_ | refine zzk ?_
    refine tr_region (zzx hnt rfl ?_ (call rfl rfl rfl rfl rfl rfl rfl hnt (hwd) (zzx hnt rfl ?_ (callH (us := []) [(900000, 900000)] [] [] rfl rfl rfl rfl (take_yes l hm p0 tokM (Nat.le_of_ble_eq_true rfl) (by decide) hs) (by repeat' first | exact .nil | refine .lent rfl rfl rfl ?_ | refine .data rfl ?_) (fun _ => rfl) rfl rfl hnt rfl rfl (by repeat' first | exact trivial | rfl | apply And.intro) (by repeat' first | exact trivial | rfl | apply And.intro) (zzx hnt rfl ?_ (Lex.nil _)))))) ?_
    · exact zzt
    · exact zzt
    · exact zzt
    repeat' first | refine zzs ?_ | refine zzb ?_ | refine zzk ?_
    refine tr_cond rfl (fun hc => ?_) (fun hc => ?_)
    · by_cases he : s.e = 0
      · have hz := hz.1 he
        repeat' first | refine zzs ?_ | refine zzb ?_ | refine zzk ?_
        refine tr_region (zzx hnt rfl ?_ (callH (us := []) [(900000, 900000)] [] [] rfl rfl rfl rfl (hz) (by repeat' first | exact .nil | refine .lent rfl rfl rfl ?_ | refine .data rfl ?_) (fun _ => rfl) rfl rfl hnt rfl rfl (by repeat' first | exact trivial | rfl | apply And.intro) (by repeat' first | exact trivial | rfl | apply And.intro) (zzx hnt rfl ?_ (Lex.nil _)))) ?_
        · exact zzt
        · exact zzt
        refine tr_le (le_box 2 rfl rfl rfl) ?_
        exact tr_ret ⟨fun _ => ⟨.inr rfl, _, _, _, rfl, (by (repeat' first | exact trivial | exact Nat.le_of_ble_eq_true rfl | exact Nat.le_of_eq w7.symm | apply And.intro)), rfl, fun X => le_of (ad := []) ⟨(by rw [eEx_mk]; rfl), ⟨rfl, rfl, rfl, rfl, rfl⟩, trivial⟩ (memOk_box rfl rfl rfl trivial)⟩, fun h => absurd he h⟩
      have hz := hz.2 he
      repeat' first | refine zzs ?_ | refine zzb ?_ | refine zzk ?_
      refine tr_regionK 1 (zzx hnt rfl ?_ (Lex.nil _)) (callP (us := []) [(900000, 900000)] [] [] rfl rfl rfl rfl (hz) (by repeat' first | exact .nil | refine .lent rfl rfl rfl ?_ | refine .data rfl ?_) (fun _ => rfl) rfl rfl rfl (by repeat' first | exact trivial | rfl | apply And.intro) (by repeat' first | exact trivial | rfl | apply And.intro)) ?_
      · exact zzt
      exact ⟨fun h => absurd h he, fun _ => ⟨rfl, fun X => le_of (ad := []) ⟨⟨rfl, rfl, rfl, rfl, rfl⟩, trivial⟩ (memOk_box rfl rfl rfl trivial)⟩⟩
    exact absurd hc Bool.noConfusion
  | false =>
    have hE : climbF l (n + 1) 7 ⟨p0, 0⟩ = groundF l (climbF l n 0) ⟨p0, 0⟩ := by
      rw [climbF]
      simp [hs]
    rw [hE]
    have hz := h3
    unfold Rds at hz
    generalize (groundF l (climbF l n 0)) ⟨p0, 0⟩ = w at *
    obtain ⟨e, s⟩ := w
    have w7 : (Cs.es (eEx e)).len = 7 := by rw [eEx_eq]; rfl
    repeat' first | refine zzs ?_ | refine zzb ?_ | refine zzk ?_
    refine tr_region (zzx hnt rfl ?_ (call rfl rfl rfl rfl rfl rfl rfl hnt (hwd) (zzx hnt rfl ?_ (callH (us := []) [(900000, 900000)] [] [] rfl rfl rfl rfl (take_no l p0 tokM (Nat.le_of_ble_eq_true rfl) (by decide) hs) (by repeat' first | exact .nil | refine .lent rfl rfl rfl ?_ | refine .data rfl ?_) (fun _ => rfl) rfl rfl hnt rfl rfl (by repeat' first | exact trivial | rfl | apply And.intro) (by repeat' first | exact trivial | rfl | apply And.intro) (zzx hnt rfl ?_ (Lex.nil _)))))) ?_
    · exact zzt
    · exact zzt
    · exact zzt
    repeat' first | refine zzs ?_ | refine zzb ?_ | refine zzk ?_
    refine tr_cond rfl (fun hc => ?_) (fun hc => ?_)
    · exact absurd hc Bool.noConfusion
    by_cases he : s.e = 0
    · have hz := hz.1 he
      repeat' first | refine zzs ?_ | refine zzb ?_ | refine zzk ?_
      refine tr_region (zzx hnt rfl ?_ (callH (us := []) [(900000, 900000)] [] [] rfl rfl rfl rfl (hz) (by repeat' first | exact .nil | refine .lent rfl rfl rfl ?_ | refine .data rfl ?_) (fun _ => rfl) rfl rfl hnt rfl rfl (by repeat' first | exact trivial | rfl | apply And.intro) (by repeat' first | exact trivial | rfl | apply And.intro) (zzx hnt rfl ?_ (Lex.nil _)))) ?_
      · exact zzt
      · exact zzt
      exact tr_ret ⟨fun _ => ⟨.inr rfl, _, _, _, rfl, (by (repeat' first | exact trivial | exact Nat.le_of_ble_eq_true rfl | exact Nat.le_of_eq w7.symm | apply And.intro)), rfl, fun X => le_of (ad := []) ⟨(tk7 e), ⟨rfl, rfl, rfl, rfl, rfl⟩, trivial⟩ (memOk_box rfl rfl rfl trivial)⟩, fun h => absurd he h⟩
    have hz := hz.2 he
    repeat' first | refine zzs ?_ | refine zzb ?_ | refine zzk ?_
    refine tr_regionK 1 (zzx hnt rfl ?_ (Lex.nil _)) (callP (us := []) [(900000, 900000)] [] [] rfl rfl rfl rfl (hz) (by repeat' first | exact .nil | refine .lent rfl rfl rfl ?_ | refine .data rfl ?_) (fun _ => rfl) rfl rfl rfl (by repeat' first | exact trivial | rfl | apply And.intro) (by repeat' first | exact trivial | rfl | apply And.intro)) ?_
    · exact zzt
    exact ⟨fun h => absurd h he, fun _ => ⟨rfl, fun X => le_of (ad := []) ⟨⟨rfl, rfl, rfl, rfl, rfl⟩, trivial⟩ (memOk_box rfl rfl rfl trivial)⟩⟩
end Go.Proofs.YtcdifgacoleckaaDoor
namespace Go.Proofs.YtcdifgacoleckaaDoor
open Go Go.RowKit Go.Proofs.YtcdifgacoleckaaDoor.Ab
set_option linter.unusedSimpArgs false
set_option linter.unusedVariables false

theorem ops3 (i : Nat) (h : i < 6) : (opsF 3).getD i 0 = ((9 + i : Nat) : Int) := by
  rcases (by omega : i = 0 ∨ i = 1 ∨ i = 2 ∨ i = 3 ∨ i = 4 ∨ i = 5) with rfl | rfl | rfl | rfl | rfl | rfl <;> rfl
set_option maxRecDepth 10000 in
set_option maxHeartbeats 2000000 in
theorem lv3_fn (l : List Tok) (hm : l.length ≤ maxLen) (n p0 : Nat) (hp0 : p0 ≤ l.length) (hf : ∀ p, p0 ≤ p → p ≤ l.length → Rds l 53 (climbF l n 4) p) : FnR Tryd.prog 42 (gK) (msR l p0) [ptS] ((climbF l (n + 1) 3 ⟨p0, 0⟩).2.e = 0) (.agg (.es (eEx (climbF l (n + 1) 3 ⟨p0, 0⟩).1))) (msR l (climbF l (n + 1) 3 ⟨p0, 0⟩).2.p) (chS (climbF l (n + 1) 3 ⟨p0, 0⟩).2) := by
  refine fn_introR (T := tab) tOk Tryd.func42 rfl (by kernel_rfl) (by simp [Tryd.ntmps42]) rfl rfl ?_
  intro X hX
  have hnt : X.nt = 30 := hX
  clear hX
  have hE : climbF l (n + 1) 3 ⟨p0, 0⟩ = if seesF l (climbF l n 4 ⟨p0, 0⟩).2 tokIs = true then (.mk 17 val0 [] [(climbF l n 4 ⟨p0, 0⟩).1], pastF l (climbF l n 4 ⟨p0, 0⟩).2 [tokIs, tokNl]) else lpF l (climbF l n 4) 3 (l.length + 1) (climbF l n 4 ⟨p0, 0⟩).1 (climbF l n 4 ⟨p0, 0⟩).2 := by
    rw [climbF]
    simp
  rw [hE]
  clear hE
  have hfw0 := climb_fwd l n 4 ⟨p0, 0⟩
  have hz := hf p0 (Nat.le_refl _) hp0
  unfold Rds at hz
  generalize hr0 : climbF l n 4 ⟨p0, 0⟩ = r0 at *
  generalize hwh : (if seesF l r0.2 tokIs = true then (Ex.mk 17 val0 [] [r0.1], pastF l r0.2 [tokIs, tokNl]) else lpF l (climbF l n 4) 3 (l.length + 1) r0.1 r0.2) = wh at *
  obtain ⟨e0, s0⟩ := r0
  have hwh : (if seesF l s0 tokIs = true then (Ex.mk 17 val0 [] [e0], pastF l s0 [tokIs, tokNl]) else lpF l (climbF l n 4) 3 (l.length + 1) e0 s0) = wh := hwh
  have w7 : (Cs.es (eEx e0)).len = 7 := by rw [eEx_eq]; rfl
  repeat' first | refine zzs ?_ | refine zzr hnt rfl ?_ ?_ | refine zzd hnt rfl ?_ ?_ | refine zzb ?_ | refine zzk ?_
  · exact zzt
  by_cases he : s0.e = 0
  · have hz := hz.1 he
    obtain ⟨q, z⟩ := s0
    have he : z = 0 := he
    subst he
    have hq : q ≤ l.length := hfw0.2 hp0
    have hq0 : p0 ≤ q := hfw0.1
    repeat' first | refine zzs ?_ | refine zzb ?_ | refine zzk ?_
    refine tr_region (zzx hnt rfl ?_ (callH (us := []) [(900000, 900000)] [] [] rfl rfl rfl rfl (hz) (by repeat' first | exact .nil | refine .lent rfl rfl rfl ?_ | refine .data rfl ?_) (fun _ => rfl) rfl rfl hnt rfl rfl (by repeat' first | exact trivial | rfl | apply And.intro) (by repeat' first | exact trivial | rfl | apply And.intro) (zzx hnt rfl ?_ (Lex.nil _)))) ?_
    · exact zzt
    · exact zzt
    have hw1 := wordT_fn [73, 83]
    cases hs : seesF l ⟨q, 0⟩ tokIs with
    | true =>
      have hp := (sees_iff.1 hs).2.1
      have hE : pastF l ⟨q, 0⟩ [tokIs, tokNl] = pastF l ⟨q + 1, 0⟩ [tokNl] := by rw [past_cons, if_pos hs]
      rw [if_pos hs, hE] at hwh
      subst hwh
      repeat' first | refine zzs ?_ | refine zzb ?_ | refine zzk ?_
      refine tr_region (zzx hnt rfl ?_ (call rfl rfl rfl rfl rfl rfl rfl hnt (hw1) (zzx hnt rfl ?_ (callH (us := []) [(900000, 900000)] [] [] rfl rfl rfl rfl (take_yes l hm q tokIs (Nat.le_of_ble_eq_true rfl) (by decide) hs) (by repeat' first | exact .nil | refine .lent rfl rfl rfl ?_ | refine .data rfl ?_) (fun _ => rfl) rfl rfl hnt rfl rfl (by repeat' first | exact trivial | rfl | apply And.intro) (by repeat' first | exact trivial | rfl | apply And.intro) (zzx hnt rfl ?_ (Lex.nil _)))))) ?_
      · exact zzt
      · exact zzt
      · exact zzt
      repeat' first | refine zzs ?_ | refine zzb ?_ | refine zzk ?_
      refine tr_cond rfl (fun hc => ?_) (fun hc => ?_)
      · have hw2 := wordT_fn [78, 85, 76, 76]
        have hwt := want_fn l hm (q + 1) tokNl (Nat.le_of_ble_eq_true rfl) (by decide)
        generalize pastF l ⟨q + 1, 0⟩ [tokNl] = s2 at *
        by_cases he : s2.e = 0
        · repeat' first | refine zzs ?_ | refine zzb ?_ | refine zzk ?_
          refine tr_region (zzx hnt rfl ?_ (call rfl rfl rfl rfl rfl rfl rfl hnt (hw2) (zzx hnt rfl ?_ (callH (us := []) [(900000, 900000)] [] [] rfl rfl rfl rfl ((hwt.1 he)) (by repeat' first | exact .nil | refine .lent rfl rfl rfl ?_ | refine .data rfl ?_) (fun _ => rfl) rfl rfl hnt rfl rfl (by repeat' first | exact trivial | rfl | apply And.intro) (by repeat' first | exact trivial | rfl | apply And.intro) (zzx hnt rfl ?_ (Lex.nil _)))))) ?_
          · exact zzt
          · exact zzt
          · exact zzt
          have w8 : (Cs.es (List.take 7 (List.drop 0 (eEx e0)))).len = 7 := by rw [tk7]; exact w7
          repeat' first | refine zzs ?_ | refine zzb ?_ | refine zzk ?_
          first | refine zzr hnt rfl ?_ ?_ | refine zzd hnt rfl ?_ ?_
          · exact zza
          refine tr_le (le_box 2 rfl rfl rfl) ?_
          rw [tk7]
          exact tr_ret ⟨fun _ => ⟨.inr rfl, _, _, _, rfl, (by (repeat' first | exact trivial | exact Nat.le_of_ble_eq_true rfl | exact Nat.le_of_eq w7.symm | apply And.intro)), rfl, fun X => le_of (ad := []) ⟨(by rw [eEx_mk]; rfl), ⟨rfl, rfl, rfl, rfl, rfl⟩, trivial⟩ (memOk_box rfl rfl rfl trivial)⟩, fun h => absurd he h⟩
        repeat' first | refine zzs ?_ | refine zzb ?_ | refine zzk ?_
        refine tr_regionK 2 (zzx hnt rfl ?_ (call rfl rfl rfl rfl rfl rfl rfl hnt (hw2) (zzx hnt rfl ?_ (Lex.nil _)))) (callP (us := []) [(900000, 900000)] [] [] rfl rfl rfl rfl (hwt.2 he) (by repeat' first | exact .nil | refine .lent rfl rfl rfl ?_ | refine .data rfl ?_) (fun _ => rfl) rfl rfl rfl (by repeat' first | exact trivial | rfl | apply And.intro) (by repeat' first | exact trivial | rfl | apply And.intro)) ?_
        · exact zzt
        · exact zzt
        exact ⟨fun h => absurd h he, fun _ => ⟨rfl, fun X => le_of (ad := []) ⟨⟨rfl, rfl, rfl, rfl, rfl⟩, trivial⟩ (memOk_box rfl rfl rfl trivial)⟩⟩
      exact absurd hc Bool.noConfusion
    | false =>
      rw [if_neg (by rw [hs]; exact Bool.noConfusion)] at hwh
      rw [lpF, if_neg (fun h => h rfl)] at hwh
      repeat' first | refine zzs ?_ | refine zzb ?_ | refine zzk ?_
      refine tr_region (zzx hnt rfl ?_ (call rfl rfl rfl rfl rfl rfl rfl hnt (hw1) (zzx hnt rfl ?_ (callH (us := []) [(900000, 900000)] [] [] rfl rfl rfl rfl (take_no l q tokIs (Nat.le_of_ble_eq_true rfl) (by decide) hs) (by repeat' first | exact .nil | refine .lent rfl rfl rfl ?_ | refine .data rfl ?_) (fun _ => rfl) rfl rfl hnt rfl rfl (by repeat' first | exact trivial | rfl | apply And.intro) (by repeat' first | exact trivial | rfl | apply And.intro) (zzx hnt rfl ?_ (Lex.nil _)))))) ?_
      · exact zzt
      · exact zzt
      · exact zzt
      repeat' first | refine zzs ?_ | refine zzb ?_ | refine zzk ?_
      refine tr_cond rfl (fun hc => ?_) (fun hc => ?_)
      · exact absurd hc Bool.noConfusion
      repeat' first | refine zzs ?_ | refine zzr hnt rfl ?_ ?_ | refine zzd hnt rfl ?_ ?_ | refine zzb ?_ | refine zzk ?_
      · exact zzt
      repeat' first | refine zzs ?_ | refine zzb ?_ | refine zzk ?_
      refine tr_loop (σ := Nat) (fun i => St.of [(0, ptS), (2, .one (.ptr 2 0 0)), (3, .one (.ptr 3 0 0)), (4, .one (.e (eI ((9 + i : Nat) : Int)))), (900000, ptS), ((1000000 + 3), .one (.eptr fsE)), ((1000000 + 4), .one (.eptr acE))] [(2, ⟨0, .box (.ds [.e (eI 0), .e (eI 0), .e (eI 0), .e (eQ 0), .e (eT []), .e (eT []), .nil]), 0⟩), (3, ⟨0, .box (.es (eEx e0)), 0⟩), (900000, ⟨0, .box (.es (eRd l q)), 0⟩)]) (fun i => i ≤ 6 ∧ ∀ j, j < i → seesF l ⟨q, 0⟩ (mkS ((opsF 3).getD j 0)) = false) (fun i => 6 - i) (0) (le_of (ad := []) ⟨zzl, zzl, zzl, zzl, zzl, zzl, zzl, trivial⟩ (memOk_box rfl rfl ⟨rfl, rfl, rfl, rfl, rfl, rfl, trivial, trivial⟩ (memOk_box rfl rfl rfl (memOk_box rfl rfl rfl trivial)))) ⟨Nat.zero_le _, fun j hj => absurd hj (Nat.not_lt_zero _)⟩ ?_
      rintro i ⟨il, hno⟩
      repeat' first | refine zzs ?_ | refine zzr hnt rfl ?_ ?_ | refine zzd hnt rfl ?_ ?_ | refine zzb ?_ | refine zzk ?_
      · exact zzt
      repeat' first | refine zzs ?_ | refine zzb ?_ | refine zzk ?_
      refine tr_cond rfl (fun hc => ?_) (fun hc => ?_)
      · simp only [zz1, zz2, zz3, zz4, zz5, zz6, zz7, zz8] at hc
        have hlt : i < 6 := by omega
        have hop := ops3 i hlt
        have hor : (5 ≤ ((9 + i : Nat) : Int) ∧ ((9 + i : Nat) : Int) ≤ 16) ∨ ((9 + i : Nat) : Int) = 19 := by omega
        have hmk := mark_fn ((9 + i : Nat) : Int) hor
        have hm1 := mkS_len _ hor
        have hm0 := mkS_ok _ hor
        cases hs2 : seesF l ⟨q, 0⟩ (mkS ((9 + i : Nat) : Int)) with
        | true =>
          have hat : opAtF l ⟨q, 0⟩ 3 = ((9 + i : Nat) : Int) := by
            unfold opAtF
            rw [find_at (ops := opsF 3) (f := fun op => seesF l ⟨q, 0⟩ (mkS op)) (i := i) hlt hno (by rw [hop]; exact hs2), hop]
            rfl
          have hp3 : q < l.length := (sees_iff.1 hs2).2.1
          rw [hat, if_neg (by omega), if_pos rfl] at hwh
          generalize ((9 + i : Nat) : Int) = op at *
          repeat' first | refine zzs ?_ | refine zzb ?_ | refine zzk ?_
          refine tr_region (zzx hnt rfl ?_ (call rfl rfl rfl rfl rfl rfl rfl hnt (hmk) (zzx hnt rfl ?_ (callH (us := []) [(900000, 900000)] [] [] rfl rfl rfl rfl (take_yes l hm q _ hm1 hm0 hs2) (by repeat' first | exact .nil | refine .lent rfl rfl rfl ?_ | refine .data rfl ?_) (fun _ => rfl) rfl rfl hnt rfl rfl (by repeat' first | exact trivial | rfl | apply And.intro) (by repeat' first | exact trivial | rfl | apply And.intro) (zzx hnt rfl ?_ (Lex.nil _)))))) ?_
          · exact zzt
          · exact zzt
          · exact zzt
          repeat' first | refine zzs ?_ | refine zzb ?_ | refine zzk ?_
          refine tr_cond rfl (fun hc => ?_) (fun hc => ?_)
          · have hfp := hf (q + 1) (by omega) hp3
            unfold Rds at hfp
            generalize climbF l n 4 ⟨q + 1, 0⟩ = r1 at *
            obtain ⟨e1, s1⟩ := r1
            subst hwh
            by_cases he : s1.e = 0
            · have hfp := hfp.1 he
              have htwo : FnD Tryd.prog 27 [.one (.e (eI op)), .agg (.es (List.take 7 (List.drop 0 (eEx e0)))), .agg (.es (eEx e1))] (.agg (.es (eEx (.mk op val0 [] [e0, e1])))) := by
                rw [tk7]
                exact two_fn op e0 e1
              have w9 : (Cs.es (eEx (.mk op val0 [] [e0, e1]))).len = 7 := by rw [eEx_eq]; rfl
              repeat' first | refine zzs ?_ | refine zzb ?_ | refine zzk ?_
              refine tr_draw (T := tab) tOk hnt mixedR (lexD (T := tab) rfl ?_ (callHD [(900000, 900000)] [] [] rfl rfl rfl rfl (hfp) (by repeat' first | exact .nil | refine .lent rfl rfl rfl ?_ | refine .data rfl ?_) rfl rfl rfl rfl rfl (by repeat' first | exact trivial | rfl | apply And.intro) (by repeat' first | exact trivial | rfl | apply And.intro) (lexD (T := tab) rfl ?_ (callD rfl rfl rfl rfl rfl rfl rfl rfl (htwo) (lexD (T := tab) rfl ?_ (.nil _)))))) (by first | decide +kernel | kernel_rfl) ?_
              · exact zza
              · exact zza
              · exact zza
              have w7 := w9
              exact tr_ret ⟨fun _ => ⟨.inr rfl, _, _, _, rfl, (by (repeat' first | exact trivial | exact Nat.le_of_ble_eq_true rfl | exact Nat.le_of_eq w7.symm | apply And.intro)), rfl, fun X => le_of (ad := []) ⟨(tk7 _), ⟨rfl, rfl, rfl, rfl, rfl⟩, trivial⟩ (memOk_box rfl rfl rfl trivial)⟩, fun h => absurd he h⟩
            have hfp := hfp.2 he
            repeat' first | refine zzs ?_ | refine zzb ?_ | refine zzk ?_
            refine tr_drawM mixedR [24, 25] 3 [0, 1] [2] (.cons rfl (opT_step tOk hnt rfl (by dsimp only [AllP]; repeat' first | exact trivial | assumption | exact Nat.le_of_ble_eq_true rfl | apply And.intro | exact rfl | omega)) (.cons rfl (opT_any tOk hnt rfl (by dsimp only [AllP]; repeat' first | exact trivial | assumption | exact Nat.le_of_ble_eq_true rfl | apply And.intro | exact rfl | omega) rfl rfl) (.cons rfl (opT_any tOk hnt rfl (by dsimp only [AllP]; repeat' first | exact trivial | assumption | exact Nat.le_of_ble_eq_true rfl | apply And.intro | exact rfl | omega) rfl rfl) (.nil))) (.pan rfl (callP (us := []) [(900000, 900000)] [] [] rfl rfl rfl rfl (hfp) (by repeat' first | exact .nil | refine .lent rfl rfl rfl ?_ | refine .data rfl ?_) (fun _ => rfl) rfl rfl rfl (by repeat' first | exact trivial | rfl | apply And.intro) (by repeat' first | exact trivial | rfl | apply And.intro)) (.cons rfl (opT_any tOk hnt rfl (by dsimp only [AllP]; repeat' first | exact trivial | assumption | exact Nat.le_of_ble_eq_true rfl | apply And.intro | exact rfl | omega) rfl rfl) (.cons rfl (opT_any tOk hnt rfl (by dsimp only [AllP]; repeat' first | exact trivial | assumption | exact Nat.le_of_ble_eq_true rfl | apply And.intro | exact rfl | omega) rfl rfl) (.nil))))) (by decide +kernel) ?_
            exact ⟨fun h => absurd h he, fun _ => ⟨rfl, fun X => le_of (ad := []) ⟨⟨rfl, rfl, rfl, rfl, rfl⟩, trivial⟩ (memOk_box rfl rfl rfl trivial)⟩⟩
          exact absurd hc Bool.noConfusion
        | false =>
          repeat' first | refine zzs ?_ | refine zzb ?_ | refine zzk ?_
          refine tr_region (zzx hnt rfl ?_ (call rfl rfl rfl rfl rfl rfl rfl hnt (hmk) (zzx hnt rfl ?_ (callH (us := []) [(900000, 900000)] [] [] rfl rfl rfl rfl (take_no l q _ hm1 hm0 hs2) (by repeat' first | exact .nil | refine .lent rfl rfl rfl ?_ | refine .data rfl ?_) (fun _ => rfl) rfl rfl hnt rfl rfl (by repeat' first | exact trivial | rfl | apply And.intro) (by repeat' first | exact trivial | rfl | apply And.intro) (zzx hnt rfl ?_ (Lex.nil _)))))) ?_
          · exact zzt
          · exact zzt
          · exact zzt
          repeat' first | refine zzs ?_ | refine zzb ?_ | refine zzk ?_
          refine tr_cond rfl (fun hc => ?_) (fun hc => ?_)
          · exact absurd hc Bool.noConfusion
          repeat' first | refine zzs ?_ | refine zzr hnt rfl ?_ ?_ | refine zzd hnt rfl ?_ ?_ | refine zzb ?_ | refine zzk ?_
          · exact zzt
          refine ⟨i + 1, ⟨hlt, fun j hj => by rcases Nat.lt_succ_iff_lt_or_eq.1 hj with h | h; exact hno j h; rw [h, hop]; exact hs2⟩, by omega, le_of (ad := []) ⟨zzl, zzl, zzl, zzl, zzl, zzl, zzl, trivial⟩ (memOk_box rfl rfl ⟨rfl, rfl, rfl, rfl, rfl, rfl, trivial, trivial⟩ (memOk_box rfl rfl rfl (memOk_box rfl rfl rfl trivial)))⟩
      simp only [zz1, zz2, zz3, zz4, zz5, zz6, zz7, zz8] at hc
      have hi : i = 6 := by omega
      subst hi
      have hat : opAtF l ⟨q, 0⟩ 3 = 0 := by
        unfold opAtF
        rw [find_none (ops := opsF 3) (f := fun op => seesF l ⟨q, 0⟩ (mkS op)) hno]
        rfl
      rw [if_pos hat] at hwh
      subst hwh
      refine tr_exit ?_
      have w8 : (Cs.es (List.take 7 (List.drop 0 (eEx e0)))).len = 7 := by rw [tk7]; exact w7
      repeat' first | refine zzs ?_ | refine zzb ?_ | refine zzk ?_
      first | refine zzr hnt rfl ?_ ?_ | refine zzd hnt rfl ?_ ?_
      · exact zza
      rw [tk7]
      exact tr_ret ⟨fun _ => ⟨.inr rfl, _, _, _, rfl, (by (repeat' first | exact trivial | exact Nat.le_of_ble_eq_true rfl | exact Nat.le_of_eq w7.symm | apply And.intro)), rfl, fun X => le_of (ad := []) ⟨(tk7 _), ⟨rfl, rfl, rfl, rfl, rfl⟩, trivial⟩ (memOk_box rfl rfl rfl trivial)⟩, fun h => absurd rfl h⟩
  have hz := hz.2 he
  have hs : seesF l s0 tokIs = false := sees_bad he
  rw [if_neg (by rw [hs]; exact Bool.noConfusion), lp_bad he] at hwh
  subst hwh
  repeat' first | refine zzs ?_ | refine zzb ?_ | refine zzk ?_
  refine tr_regionK 1 (zzx hnt rfl ?_ (Lex.nil _)) (callP (us := []) [(900000, 900000)] [] [] rfl rfl rfl rfl (hz) (by repeat' first | exact .nil | refine .lent rfl rfl rfl ?_ | refine .data rfl ?_) (fun _ => rfl) rfl rfl rfl (by repeat' first | exact trivial | rfl | apply And.intro) (by repeat' first | exact trivial | rfl | apply And.intro)) ?_
  · exact zzt
  exact ⟨fun h => absurd h he, fun _ => ⟨rfl, fun X => le_of (ad := []) ⟨⟨rfl, rfl, rfl, rfl, rfl⟩, trivial⟩ (memOk_box rfl rfl rfl trivial)⟩⟩
end Go.Proofs.YtcdifgacoleckaaDoor
namespace Go.Proofs.YtcdifgacoleckaaDoor
open Go Go.RowKit Go.Proofs.YtcdifgacoleckaaDoor.Ab
set_option linter.unusedSimpArgs false
set_option linter.unusedVariables false

set_option maxRecDepth 10000 in
set_option maxHeartbeats 2000000 in
theorem first_fn (l : List Tok) (ho : tksOk l) (p : Nat) (hp : p ≤ l.length) (c0 : Spot → Ex × Spot) (hcb : ∀ s, s.e ≠ 0 → c0 s = (ex0, s)) (hcf : Fwd l c0) (hf : ∀ q, p < q → q ≤ l.length → Rds l 11 c0 q) : FnR Tryd.prog 73 (gK) (msR l p) [ptS] ((groundF l c0 ⟨p, 0⟩).2.e = 0) (.agg (.es (eEx (groundF l c0 ⟨p, 0⟩).1))) (msR l (groundF l c0 ⟨p, 0⟩).2.p) (chS (groundF l c0 ⟨p, 0⟩).2) := by
  refine fn_introR (T := tab) tOk Tryd.func73 rfl (by kernel_rfl) (by simp [Tryd.ntmps73]) rfl rfl ?_
  intro X hX
  have hnt : X.nt = 143 := hX
  clear hX
  have hm := ho.1
  have hm' : l.length ≤ 9223372036854775807 := Nat.le_trans hm (by decide)
  have h1 : ((eRd l p).getD (0 + 0) E.dflt).xs.length = l.length := List.length_map ..
  have h2 : ((eRd l p).getD (0 + 1) E.dflt).int = (p : Int) := rfl
  have hg : p < l.length → ((eRd l p).getD (0 + 0) E.dflt).xs.getD ((eRd l p).getD (0 + 1) E.dflt).int.toNat [] = eTok (l.getD p tok0) := fun h => tksGet l h
  generalize hgr : groundF l c0 ⟨p, 0⟩ = g at *
  unfold groundF at hgr
  repeat' first | refine zzs ?_ | refine zzr hnt rfl ?_ ?_ | refine zzd hnt rfl ?_ ?_ | refine zzb ?_ | refine zzk ?_
  · exact zzt
  cases hs1 : seesF l ⟨p, 0⟩ tokNl with
  | true =>
    rw [if_pos hs1] at hgr
    subst hgr
    repeat' first | refine zzs ?_ | refine zzb ?_ | refine zzk ?_
    refine tr_region (zzx hnt rfl ?_ (call rfl rfl rfl rfl rfl rfl rfl hnt ((wordT_fn ([78, 85, 76, 76]))) (zzx hnt rfl ?_ (callH (us := []) [(900000, 900000)] [] [] rfl rfl rfl rfl (take_yes l hm p tokNl (Nat.le_of_ble_eq_true rfl) (by decide) hs1) (by repeat' first | exact .nil | refine .lent rfl rfl rfl ?_ | refine .data rfl ?_) (fun _ => rfl) rfl rfl hnt rfl rfl (by repeat' first | exact trivial | rfl | apply And.intro) (by repeat' first | exact trivial | rfl | apply And.intro) (zzx hnt rfl ?_ (Lex.nil _)))))) ?_
    · exact zzt
    · exact zzt
    · exact zzt
    repeat' first | refine zzs ?_ | refine zzb ?_ | refine zzk ?_
    refine tr_cond rfl (fun hc => ?_) (fun hc => ?_)
    · have w7 : (Cs.es (eEx (litE val0))).len = 7 := by rw [eEx_eq]; rfl
      have hl := litP_fn val0
      repeat' first | refine zzs ?_ | refine zzb ?_ | refine zzk ?_
      refine tr_region (zzx hnt rfl ?_ (call rfl rfl rfl rfl rfl rfl rfl hnt (hl) (zzx hnt rfl ?_ (Lex.nil _)))) ?_
      · exact zzt
      · exact zzt
      exact tr_ret ⟨fun _ => ⟨.inr rfl, _, _, _, rfl, (by (repeat' first | exact trivial | exact Nat.le_of_ble_eq_true rfl | exact Nat.le_of_eq w7.symm | apply And.intro)), rfl, fun X => le_of (ad := []) ⟨(tk7 _), ⟨rfl, rfl, rfl, rfl, rfl⟩, trivial⟩ (memOk_box rfl rfl rfl trivial)⟩, fun h => absurd rfl h⟩
    exact absurd hc Bool.noConfusion
  | false =>
  rw [if_neg (by rw [hs1]; exact Bool.noConfusion)] at hgr
  repeat' first | refine zzs ?_ | refine zzb ?_ | refine zzk ?_
  refine tr_region (zzx hnt rfl ?_ (call rfl rfl rfl rfl rfl rfl rfl hnt ((wordT_fn ([78, 85, 76, 76]))) (zzx hnt rfl ?_ (callH (us := []) [(900000, 900000)] [] [] rfl rfl rfl rfl (take_no l p tokNl (Nat.le_of_ble_eq_true rfl) (by decide) hs1) (by repeat' first | exact .nil | refine .lent rfl rfl rfl ?_ | refine .data rfl ?_) (fun _ => rfl) rfl rfl hnt rfl rfl (by repeat' first | exact trivial | rfl | apply And.intro) (by repeat' first | exact trivial | rfl | apply And.intro) (zzx hnt rfl ?_ (Lex.nil _)))))) ?_
  · exact zzt
  · exact zzt
  · exact zzt
  repeat' first | refine zzs ?_ | refine zzb ?_ | refine zzk ?_
  refine tr_cond rfl (fun hc => ?_) (fun hc => ?_)
  · exact absurd hc Bool.noConfusion
  refine tr_le (s' := St.of [(0, ptS), (2, .one (.ptr 2 0 0)), (900000, ptS), ((1000000 + 3), .one (.eptr fsE)), ((1000000 + 4), .one (.eptr acE))] [(2, ⟨0, .box (.ds [.e (eI 0), .e (eI 0), .e (eI 0), .e (eQ 0), .e (eT []), .e (eT []), .nil]), 0⟩), (900000, ⟨0, .box (.es (eRd l p)), 0⟩)]) (le_of (ad := []) ⟨zzl, zzl, zzl, zzl, zzl, trivial⟩ (memOk_box rfl rfl ⟨rfl, rfl, rfl, rfl, rfl, rfl, trivial, trivial⟩ (memOk_box rfl rfl rfl trivial))) ?_
  cases hs2 : seesF l ⟨p, 0⟩ tokT with
  | true =>
    rw [if_pos hs2] at hgr
    subst hgr
    repeat' first | refine zzs ?_ | refine zzb ?_ | refine zzk ?_
    refine tr_region (zzx hnt rfl ?_ (call rfl rfl rfl rfl rfl rfl rfl hnt ((wordT_fn ([84, 82, 85, 69]))) (zzx hnt rfl ?_ (callH (us := []) [(900000, 900000)] [] [] rfl rfl rfl rfl (take_yes l hm p tokT (Nat.le_of_ble_eq_true rfl) (by decide) hs2) (by repeat' first | exact .nil | refine .lent rfl rfl rfl ?_ | refine .data rfl ?_) (fun _ => rfl) rfl rfl hnt rfl rfl (by repeat' first | exact trivial | rfl | apply And.intro) (by repeat' first | exact trivial | rfl | apply And.intro) (zzx hnt rfl ?_ (Lex.nil _)))))) ?_
    · exact zzt
    · exact zzt
    · exact zzt
    repeat' first | refine zzs ?_ | refine zzb ?_ | refine zzk ?_
    refine tr_cond rfl (fun hc => ?_) (fun hc => ?_)
    · have w7 : (Cs.es (eEx (litE (⟨1, 1, 0, []⟩)))).len = 7 := by rw [eEx_eq]; rfl
      have hl := litP_fn (⟨1, 1, 0, []⟩)
      repeat' first | refine zzs ?_ | refine zzb ?_ | refine zzk ?_
      refine tr_region (zzx hnt rfl ?_ (call rfl rfl rfl rfl rfl rfl rfl hnt (hl) (zzx hnt rfl ?_ (Lex.nil _)))) ?_
      · exact zzt
      · exact zzt
      exact tr_ret ⟨fun _ => ⟨.inr rfl, _, _, _, rfl, (by (repeat' first | exact trivial | exact Nat.le_of_ble_eq_true rfl | exact Nat.le_of_eq w7.symm | apply And.intro)), rfl, fun X => le_of (ad := []) ⟨(tk7 _), ⟨rfl, rfl, rfl, rfl, rfl⟩, trivial⟩ (memOk_box rfl rfl rfl trivial)⟩, fun h => absurd rfl h⟩
    exact absurd hc Bool.noConfusion
  | false =>
  rw [if_neg (by rw [hs2]; exact Bool.noConfusion)] at hgr
  repeat' first | refine zzs ?_ | refine zzb ?_ | refine zzk ?_
  refine tr_region (zzx hnt rfl ?_ (call rfl rfl rfl rfl rfl rfl rfl hnt ((wordT_fn ([84, 82, 85, 69]))) (zzx hnt rfl ?_ (callH (us := []) [(900000, 900000)] [] [] rfl rfl rfl rfl (take_no l p tokT (Nat.le_of_ble_eq_true rfl) (by decide) hs2) (by repeat' first | exact .nil | refine .lent rfl rfl rfl ?_ | refine .data rfl ?_) (fun _ => rfl) rfl rfl hnt rfl rfl (by repeat' first | exact trivial | rfl | apply And.intro) (by repeat' first | exact trivial | rfl | apply And.intro) (zzx hnt rfl ?_ (Lex.nil _)))))) ?_
  · exact zzt
  · exact zzt
  · exact zzt
  repeat' first | refine zzs ?_ | refine zzb ?_ | refine zzk ?_
  refine tr_cond rfl (fun hc => ?_) (fun hc => ?_)
  · exact absurd hc Bool.noConfusion
  refine tr_le (s' := St.of [(0, ptS), (2, .one (.ptr 2 0 0)), (900000, ptS), ((1000000 + 3), .one (.eptr fsE)), ((1000000 + 4), .one (.eptr acE))] [(2, ⟨0, .box (.ds [.e (eI 0), .e (eI 0), .e (eI 0), .e (eQ 0), .e (eT []), .e (eT []), .nil]), 0⟩), (900000, ⟨0, .box (.es (eRd l p)), 0⟩)]) (le_of (ad := []) ⟨zzl, zzl, zzl, zzl, zzl, trivial⟩ (memOk_box rfl rfl ⟨rfl, rfl, rfl, rfl, rfl, rfl, trivial, trivial⟩ (memOk_box rfl rfl rfl trivial))) ?_
  cases hs3 : seesF l ⟨p, 0⟩ tokF with
  | true =>
    rw [if_pos hs3] at hgr
    subst hgr
    repeat' first | refine zzs ?_ | refine zzb ?_ | refine zzk ?_
    refine tr_region (zzx hnt rfl ?_ (call rfl rfl rfl rfl rfl rfl rfl hnt ((wordT_fn ([70, 65, 76, 83, 69]))) (zzx hnt rfl ?_ (callH (us := []) [(900000, 900000)] [] [] rfl rfl rfl rfl (take_yes l hm p tokF (Nat.le_of_ble_eq_true rfl) (by decide) hs3) (by repeat' first | exact .nil | refine .lent rfl rfl rfl ?_ | refine .data rfl ?_) (fun _ => rfl) rfl rfl hnt rfl rfl (by repeat' first | exact trivial | rfl | apply And.intro) (by repeat' first | exact trivial | rfl | apply And.intro) (zzx hnt rfl ?_ (Lex.nil _)))))) ?_
    · exact zzt
    · exact zzt
    · exact zzt
    repeat' first | refine zzs ?_ | refine zzb ?_ | refine zzk ?_
    refine tr_cond rfl (fun hc => ?_) (fun hc => ?_)
    · have w7 : (Cs.es (eEx (litE (⟨1, 0, 0, []⟩)))).len = 7 := by rw [eEx_eq]; rfl
      have hl := litP_fn (⟨1, 0, 0, []⟩)
      repeat' first | refine zzs ?_ | refine zzb ?_ | refine zzk ?_
      refine tr_region (zzx hnt rfl ?_ (call rfl rfl rfl rfl rfl rfl rfl hnt (hl) (zzx hnt rfl ?_ (Lex.nil _)))) ?_
      · exact zzt
      · exact zzt
      exact tr_ret ⟨fun _ => ⟨.inr rfl, _, _, _, rfl, (by (repeat' first | exact trivial | exact Nat.le_of_ble_eq_true rfl | exact Nat.le_of_eq w7.symm | apply And.intro)), rfl, fun X => le_of (ad := []) ⟨(tk7 _), ⟨rfl, rfl, rfl, rfl, rfl⟩, trivial⟩ (memOk_box rfl rfl rfl trivial)⟩, fun h => absurd rfl h⟩
    exact absurd hc Bool.noConfusion
  | false =>
  rw [if_neg (by rw [hs3]; exact Bool.noConfusion)] at hgr
  repeat' first | refine zzs ?_ | refine zzb ?_ | refine zzk ?_
  refine tr_region (zzx hnt rfl ?_ (call rfl rfl rfl rfl rfl rfl rfl hnt ((wordT_fn ([70, 65, 76, 83, 69]))) (zzx hnt rfl ?_ (callH (us := []) [(900000, 900000)] [] [] rfl rfl rfl rfl (take_no l p tokF (Nat.le_of_ble_eq_true rfl) (by decide) hs3) (by repeat' first | exact .nil | refine .lent rfl rfl rfl ?_ | refine .data rfl ?_) (fun _ => rfl) rfl rfl hnt rfl rfl (by repeat' first | exact trivial | rfl | apply And.intro) (by repeat' first | exact trivial | rfl | apply And.intro) (zzx hnt rfl ?_ (Lex.nil _)))))) ?_
  · exact zzt
  · exact zzt
  · exact zzt
  repeat' first | refine zzs ?_ | refine zzb ?_ | refine zzk ?_
  refine tr_cond rfl (fun hc => ?_) (fun hc => ?_)
  · exact absurd hc Bool.noConfusion
  refine tr_le (s' := St.of [(0, ptS), (2, .one (.ptr 2 0 0)), (900000, ptS), ((1000000 + 3), .one (.eptr fsE)), ((1000000 + 4), .one (.eptr acE))] [(2, ⟨0, .box (.ds [.e (eI 0), .e (eI 0), .e (eI 0), .e (eQ 0), .e (eT []), .e (eT []), .nil]), 0⟩), (900000, ⟨0, .box (.es (eRd l p)), 0⟩)]) (le_of (ad := []) ⟨zzl, zzl, zzl, zzl, zzl, trivial⟩ (memOk_box rfl rfl ⟨rfl, rfl, rfl, rfl, rfl, rfl, trivial, trivial⟩ (memOk_box rfl rfl rfl trivial))) ?_
  cases hs4 : seesF l ⟨p, 0⟩ tokL with
  | true =>
    rw [if_pos hs4, past_yes hs4] at hgr
    have hlt := (sees_iff.1 hs4).2.1
    have hz := hf (p + 1) (Nat.lt_succ_self _) hlt
    unfold Rds at hz
    generalize hr : c0 ⟨p + 1, 0⟩ = r at *
    obtain ⟨e1, s1⟩ := r
    have hgr : (e1, pastF l s1 [tokR]) = g := hgr
    subst hgr
    have w7 : (Cs.es (eEx e1)).len = 7 := by rw [eEx_eq]; rfl
    have w8 : (Cs.es (List.take 7 (List.drop 0 (eEx e1)))).len = 7 := by rw [tk7]; exact w7
    repeat' first | refine zzs ?_ | refine zzb ?_ | refine zzk ?_
    refine tr_region (zzx hnt rfl ?_ (call rfl rfl rfl rfl rfl rfl rfl hnt ((signT_fn ([40]))) (zzx hnt rfl ?_ (callH (us := []) [(900000, 900000)] [] [] rfl rfl rfl rfl (take_yes l hm p tokL (Nat.le_of_ble_eq_true rfl) (by decide) hs4) (by repeat' first | exact .nil | refine .lent rfl rfl rfl ?_ | refine .data rfl ?_) (fun _ => rfl) rfl rfl hnt rfl rfl (by repeat' first | exact trivial | rfl | apply And.intro) (by repeat' first | exact trivial | rfl | apply And.intro) (zzx hnt rfl ?_ (Lex.nil _)))))) ?_
    · exact zzt
    · exact zzt
    · exact zzt
    repeat' first | refine zzs ?_ | refine zzb ?_ | refine zzk ?_
    refine tr_cond rfl (fun hc => ?_) (fun hc => ?_)
    · by_cases he : s1.e = 0
      · have hz := hz.1 he
        obtain ⟨q, z⟩ := s1
        have he : z = 0 := he
        subst he
        repeat' first | refine zzs ?_ | refine zzb ?_ | refine zzk ?_
        refine tr_region (zzx hnt rfl ?_ (callH (us := []) [(900000, 900000)] [] [] rfl rfl rfl rfl (hz) (by repeat' first | exact .nil | refine .lent rfl rfl rfl ?_ | refine .data rfl ?_) (fun _ => rfl) rfl rfl hnt rfl rfl (by repeat' first | exact trivial | rfl | apply And.intro) (by repeat' first | exact trivial | rfl | apply And.intro) (zzx hnt rfl ?_ (Lex.nil _)))) ?_
        · exact zzt
        · exact zzt
        have hwt := want_fn l hm q tokR (Nat.le_of_ble_eq_true rfl) (by decide)
        generalize pastF l ⟨q, 0⟩ [tokR] = s2 at *
        by_cases he : s2.e = 0
        · repeat' first | refine zzs ?_ | refine zzb ?_ | refine zzk ?_
          refine tr_region (zzx hnt rfl ?_ (call rfl rfl rfl rfl rfl rfl rfl hnt ((signT_fn [41])) (zzx hnt rfl ?_ (callH (us := []) [(900000, 900000)] [] [] rfl rfl rfl rfl ((hwt.1 he)) (by repeat' first | exact .nil | refine .lent rfl rfl rfl ?_ | refine .data rfl ?_) (fun _ => rfl) rfl rfl hnt rfl rfl (by repeat' first | exact trivial | rfl | apply And.intro) (by repeat' first | exact trivial | rfl | apply And.intro) (zzx hnt rfl ?_ (Lex.nil _)))))) ?_
          · exact zzt
          · exact zzt
          · exact zzt
          repeat' first | refine zzs ?_ | refine zzb ?_ | refine zzk ?_
          first | refine zzr hnt rfl ?_ ?_ | refine zzd hnt rfl ?_ ?_
          · exact zza
          rw [tk7]
          exact tr_ret ⟨fun _ => ⟨.inr rfl, _, _, _, rfl, (by (repeat' first | exact trivial | exact Nat.le_of_ble_eq_true rfl | exact Nat.le_of_eq w7.symm | apply And.intro)), rfl, fun X => le_of (ad := []) ⟨(tk7 _), ⟨rfl, rfl, rfl, rfl, rfl⟩, trivial⟩ (memOk_box rfl rfl rfl trivial)⟩, fun h => absurd he h⟩
        repeat' first | refine zzs ?_ | refine zzb ?_ | refine zzk ?_
        refine tr_regionK 2 (zzx hnt rfl ?_ (call rfl rfl rfl rfl rfl rfl rfl hnt ((signT_fn [41])) (zzx hnt rfl ?_ (Lex.nil _)))) (callP (us := []) [(900000, 900000)] [] [] rfl rfl rfl rfl (hwt.2 he) (by repeat' first | exact .nil | refine .lent rfl rfl rfl ?_ | refine .data rfl ?_) (fun _ => rfl) rfl rfl rfl (by repeat' first | exact trivial | rfl | apply And.intro) (by repeat' first | exact trivial | rfl | apply And.intro)) ?_
        · exact zzt
        · exact zzt
        exact ⟨fun h => absurd h he, fun _ => ⟨rfl, fun X => le_of (ad := []) ⟨⟨rfl, rfl, rfl, rfl, rfl⟩, trivial⟩ (memOk_box rfl rfl rfl trivial)⟩⟩
      have hz := hz.2 he
      rw [past_bad he]
      repeat' first | refine zzs ?_ | refine zzb ?_ | refine zzk ?_
      refine tr_regionK 1 (zzx hnt rfl ?_ (Lex.nil _)) (callP (us := []) [(900000, 900000)] [] [] rfl rfl rfl rfl (hz) (by repeat' first | exact .nil | refine .lent rfl rfl rfl ?_ | refine .data rfl ?_) (fun _ => rfl) rfl rfl rfl (by repeat' first | exact trivial | rfl | apply And.intro) (by repeat' first | exact trivial | rfl | apply And.intro)) ?_
      · exact zzt
      exact ⟨fun h => absurd h he, fun _ => ⟨rfl, fun X => le_of (ad := []) ⟨⟨rfl, rfl, rfl, rfl, rfl⟩, trivial⟩ (memOk_box rfl rfl rfl trivial)⟩⟩
    exact absurd hc Bool.noConfusion
  | false =>
  rw [if_neg (by rw [hs4]; exact Bool.noConfusion)] at hgr
  repeat' first | refine zzs ?_ | refine zzb ?_ | refine zzk ?_
  refine tr_region (zzx hnt rfl ?_ (call rfl rfl rfl rfl rfl rfl rfl hnt ((signT_fn ([40]))) (zzx hnt rfl ?_ (callH (us := []) [(900000, 900000)] [] [] rfl rfl rfl rfl (take_no l p tokL (Nat.le_of_ble_eq_true rfl) (by decide) hs4) (by repeat' first | exact .nil | refine .lent rfl rfl rfl ?_ | refine .data rfl ?_) (fun _ => rfl) rfl rfl hnt rfl rfl (by repeat' first | exact trivial | rfl | apply And.intro) (by repeat' first | exact trivial | rfl | apply And.intro) (zzx hnt rfl ?_ (Lex.nil _)))))) ?_
  · exact zzt
  · exact zzt
  · exact zzt
  repeat' first | refine zzs ?_ | refine zzb ?_ | refine zzk ?_
  refine tr_cond rfl (fun hc => ?_) (fun hc => ?_)
  · exact absurd hc Bool.noConfusion
  refine tr_le (s' := St.of [(0, ptS), (2, .one (.ptr 2 0 0)), (900000, ptS), ((1000000 + 3), .one (.eptr fsE)), ((1000000 + 4), .one (.eptr acE))] [(2, ⟨0, .box (.ds [.e (eI 0), .e (eI 0), .e (eI 0), .e (eQ 0), .e (eT []), .e (eT []), .nil]), 0⟩), (900000, ⟨0, .box (.es (eRd l p)), 0⟩)]) (le_of (ad := []) ⟨zzl, zzl, zzl, zzl, zzl, trivial⟩ (memOk_box rfl rfl ⟨rfl, rfl, rfl, rfl, rfl, rfl, trivial, trivial⟩ (memOk_box rfl rfl rfl trivial))) ?_
  cases hs5 : seesF l ⟨p, 0⟩ tokLn with
  | true =>
    have hE : pastF l ⟨p, 0⟩ [tokLn, tokL] = pastF l ⟨p + 1, 0⟩ [tokL] := by rw [past_cons, if_pos hs5]
    rw [if_pos hs5, hE] at hgr
    have hlt := (sees_iff.1 hs5).2.1
    have hwl := want_fn l hm (p + 1) tokL (Nat.le_of_ble_eq_true rfl) (by decide)
    repeat' first | refine zzs ?_ | refine zzb ?_ | refine zzk ?_
    refine tr_region (zzx hnt rfl ?_ (call rfl rfl rfl rfl rfl rfl rfl hnt ((wordT_fn ([76, 69, 78, 71, 84, 72]))) (zzx hnt rfl ?_ (callH (us := []) [(900000, 900000)] [] [] rfl rfl rfl rfl (take_yes l hm p tokLn (Nat.le_of_ble_eq_true rfl) (by decide) hs5) (by repeat' first | exact .nil | refine .lent rfl rfl rfl ?_ | refine .data rfl ?_) (fun _ => rfl) rfl rfl hnt rfl rfl (by repeat' first | exact trivial | rfl | apply And.intro) (by repeat' first | exact trivial | rfl | apply And.intro) (zzx hnt rfl ?_ (Lex.nil _)))))) ?_
    · exact zzt
    · exact zzt
    · exact zzt
    repeat' first | refine zzs ?_ | refine zzb ?_ | refine zzk ?_
    refine tr_cond rfl (fun hc => ?_) (fun hc => ?_)
    · cases hs6 : seesF l ⟨p + 1, 0⟩ tokL with
      | false =>
        rw [past_no hs6, hcb _ bad_e, past_bad bad_e] at hgr
        rw [past_no hs6] at hwl
        subst hgr
        have he := bad_e (l := l) (p := p + 1)
        repeat' first | refine zzs ?_ | refine zzb ?_ | refine zzk ?_
        refine tr_regionK 2 (zzx hnt rfl ?_ (call rfl rfl rfl rfl rfl rfl rfl hnt ((signT_fn [40])) (zzx hnt rfl ?_ (Lex.nil _)))) (callP (us := []) [(900000, 900000)] [] [] rfl rfl rfl rfl (hwl.2 he) (by repeat' first | exact .nil | refine .lent rfl rfl rfl ?_ | refine .data rfl ?_) (fun _ => rfl) rfl rfl rfl (by repeat' first | exact trivial | rfl | apply And.intro) (by repeat' first | exact trivial | rfl | apply And.intro)) ?_
        · exact zzt
        · exact zzt
        exact ⟨fun h => absurd h he, fun _ => ⟨rfl, fun X => le_of (ad := []) ⟨⟨rfl, rfl, rfl, rfl, rfl⟩, trivial⟩ (memOk_box rfl rfl rfl trivial)⟩⟩
      | true =>
        have hlt2 : p + 2 ≤ l.length := (sees_iff.1 hs6).2.1
        rw [past_yes hs6] at hgr hwl
        repeat' first | refine zzs ?_ | refine zzb ?_ | refine zzk ?_
        refine tr_region (zzx hnt rfl ?_ (call rfl rfl rfl rfl rfl rfl rfl hnt ((signT_fn [40])) (zzx hnt rfl ?_ (callH (us := []) [(900000, 900000)] [] [] rfl rfl rfl rfl ((hwl.1 rfl)) (by repeat' first | exact .nil | refine .lent rfl rfl rfl ?_ | refine .data rfl ?_) (fun _ => rfl) rfl rfl hnt rfl rfl (by repeat' first | exact trivial | rfl | apply And.intro) (by repeat' first | exact trivial | rfl | apply And.intro) (zzx hnt rfl ?_ (Lex.nil _)))))) ?_
        · exact zzt
        · exact zzt
        · exact zzt
        have hz := hf (p + 2) (by omega) hlt2
        unfold Rds at hz
        have hgr : (.mk 18 val0 [] [(c0 ⟨p + 2, 0⟩).1], pastF l (c0 ⟨p + 2, 0⟩).2 [tokR]) = g := hgr
        generalize hr : c0 ⟨p + 2, 0⟩ = r at *
        obtain ⟨e1, s1⟩ := r
        have hgr : (.mk 18 val0 [] [e1], pastF l s1 [tokR]) = g := hgr
        subst hgr
        have w7 : (Cs.es (eEx e1)).len = 7 := by rw [eEx_eq]; rfl
        have w8 : (Cs.es (List.take 7 (List.drop 0 (eEx e1)))).len = 7 := by rw [tk7]; exact w7
        by_cases he : s1.e = 0
        · have hz := hz.1 he
          obtain ⟨q, z⟩ := s1
          have he : z = 0 := he
          subst he
          repeat' first | refine zzs ?_ | refine zzb ?_ | refine zzk ?_
          refine tr_region (zzx hnt rfl ?_ (callH (us := []) [(900000, 900000)] [] [] rfl rfl rfl rfl (hz) (by repeat' first | exact .nil | refine .lent rfl rfl rfl ?_ | refine .data rfl ?_) (fun _ => rfl) rfl rfl hnt rfl rfl (by repeat' first | exact trivial | rfl | apply And.intro) (by repeat' first | exact trivial | rfl | apply And.intro) (zzx hnt rfl ?_ (Lex.nil _)))) ?_
          · exact zzt
          · exact zzt
          have hwt := want_fn l hm q tokR (Nat.le_of_ble_eq_true rfl) (by decide)
          generalize pastF l ⟨q, 0⟩ [tokR] = s2 at *
          by_cases he : s2.e = 0
          · repeat' first | refine zzs ?_ | refine zzb ?_ | refine zzk ?_
            refine tr_region (zzx hnt rfl ?_ (call rfl rfl rfl rfl rfl rfl rfl hnt ((signT_fn [41])) (zzx hnt rfl ?_ (callH (us := []) [(900000, 900000)] [] [] rfl rfl rfl rfl ((hwt.1 he)) (by repeat' first | exact .nil | refine .lent rfl rfl rfl ?_ | refine .data rfl ?_) (fun _ => rfl) rfl rfl hnt rfl rfl (by repeat' first | exact trivial | rfl | apply And.intro) (by repeat' first | exact trivial | rfl | apply And.intro) (zzx hnt rfl ?_ (Lex.nil _)))))) ?_
            · exact zzt
            · exact zzt
            · exact zzt
            repeat' first | refine zzs ?_ | refine zzb ?_ | refine zzk ?_
            first | refine zzr hnt rfl ?_ ?_ | refine zzd hnt rfl ?_ ?_
            · exact zza
            refine tr_le (le_box 2 rfl rfl rfl) ?_
            rw [tk7]
            exact tr_ret ⟨fun _ => ⟨.inr rfl, _, _, _, rfl, (by (repeat' first | exact trivial | exact Nat.le_of_ble_eq_true rfl | exact Nat.le_of_eq w7.symm | apply And.intro)), rfl, fun X => le_of (ad := []) ⟨(by rw [eEx_mk]; rfl), ⟨rfl, rfl, rfl, rfl, rfl⟩, trivial⟩ (memOk_box rfl rfl rfl trivial)⟩, fun h => absurd he h⟩
          repeat' first | refine zzs ?_ | refine zzb ?_ | refine zzk ?_
          refine tr_regionK 2 (zzx hnt rfl ?_ (call rfl rfl rfl rfl rfl rfl rfl hnt ((signT_fn [41])) (zzx hnt rfl ?_ (Lex.nil _)))) (callP (us := []) [(900000, 900000)] [] [] rfl rfl rfl rfl (hwt.2 he) (by repeat' first | exact .nil | refine .lent rfl rfl rfl ?_ | refine .data rfl ?_) (fun _ => rfl) rfl rfl rfl (by repeat' first | exact trivial | rfl | apply And.intro) (by repeat' first | exact trivial | rfl | apply And.intro)) ?_
          · exact zzt
          · exact zzt
          exact ⟨fun h => absurd h he, fun _ => ⟨rfl, fun X => le_of (ad := []) ⟨⟨rfl, rfl, rfl, rfl, rfl⟩, trivial⟩ (memOk_box rfl rfl rfl trivial)⟩⟩
        have hz := hz.2 he
        rw [past_bad he]
        repeat' first | refine zzs ?_ | refine zzb ?_ | refine zzk ?_
        refine tr_regionK 1 (zzx hnt rfl ?_ (Lex.nil _)) (callP (us := []) [(900000, 900000)] [] [] rfl rfl rfl rfl (hz) (by repeat' first | exact .nil | refine .lent rfl rfl rfl ?_ | refine .data rfl ?_) (fun _ => rfl) rfl rfl rfl (by repeat' first | exact trivial | rfl | apply And.intro) (by repeat' first | exact trivial | rfl | apply And.intro)) ?_
        · exact zzt
        exact ⟨fun h => absurd h he, fun _ => ⟨rfl, fun X => le_of (ad := []) ⟨⟨rfl, rfl, rfl, rfl, rfl⟩, trivial⟩ (memOk_box rfl rfl rfl trivial)⟩⟩
    exact absurd hc Bool.noConfusion
  | false =>
  rw [if_neg (by rw [hs5]; exact Bool.noConfusion)] at hgr
  repeat' first | refine zzs ?_ | refine zzb ?_ | refine zzk ?_
  refine tr_region (zzx hnt rfl ?_ (call rfl rfl rfl rfl rfl rfl rfl hnt ((wordT_fn ([76, 69, 78, 71, 84, 72]))) (zzx hnt rfl ?_ (callH (us := []) [(900000, 900000)] [] [] rfl rfl rfl rfl (take_no l p tokLn (Nat.le_of_ble_eq_true rfl) (by decide) hs5) (by repeat' first | exact .nil | refine .lent rfl rfl rfl ?_ | refine .data rfl ?_) (fun _ => rfl) rfl rfl hnt rfl rfl (by repeat' first | exact trivial | rfl | apply And.intro) (by repeat' first | exact trivial | rfl | apply And.intro) (zzx hnt rfl ?_ (Lex.nil _)))))) ?_
  · exact zzt
  · exact zzt
  · exact zzt
  repeat' first | refine zzs ?_ | refine zzb ?_ | refine zzk ?_
  refine tr_cond rfl (fun hc => ?_) (fun hc => ?_)
  · exact absurd hc Bool.noConfusion
  refine tr_le (s' := St.of [(0, ptS), (2, .one (.ptr 2 0 0)), (900000, ptS), ((1000000 + 3), .one (.eptr fsE)), ((1000000 + 4), .one (.eptr acE))] [(2, ⟨0, .box (.ds [.e (eI 0), .e (eI 0), .e (eI 0), .e (eQ 0), .e (eT []), .e (eT []), .nil]), 0⟩), (900000, ⟨0, .box (.es (eRd l p)), 0⟩)]) (le_of (ad := []) ⟨zzl, zzl, zzl, zzl, zzl, trivial⟩ (memOk_box rfl rfl ⟨rfl, rfl, rfl, rfl, rfl, rfl, trivial, trivial⟩ (memOk_box rfl rfl rfl trivial))) ?_
  cases hs5' : seesF l ⟨p, 0⟩ tokCo with
  | true =>
    have hE : pastF l ⟨p, 0⟩ [tokCo, tokL] = pastF l ⟨p + 1, 0⟩ [tokL] := by rw [past_cons, if_pos hs5']
    rw [if_pos hs5', hE] at hgr
    have hlt := (sees_iff.1 hs5').2.1
    have hwl := want_fn l hm (p + 1) tokL (Nat.le_of_ble_eq_true rfl) (by decide)
    repeat' first | refine zzs ?_ | refine zzb ?_ | refine zzk ?_
    refine tr_region (zzx hnt rfl ?_ (call rfl rfl rfl rfl rfl rfl rfl hnt ((wordT_fn ([67, 79, 65, 76, 69, 83, 67, 69]))) (zzx hnt rfl ?_ (callH (us := []) [(900000, 900000)] [] [] rfl rfl rfl rfl (take_yes l hm p tokCo (Nat.le_of_ble_eq_true rfl) (by decide) hs5') (by repeat' first | exact .nil | refine .lent rfl rfl rfl ?_ | refine .data rfl ?_) (fun _ => rfl) rfl rfl hnt rfl rfl (by repeat' first | exact trivial | rfl | apply And.intro) (by repeat' first | exact trivial | rfl | apply And.intro) (zzx hnt rfl ?_ (Lex.nil _)))))) ?_
    · exact zzt
    · exact zzt
    · exact zzt
    repeat' first | refine zzs ?_ | refine zzb ?_ | refine zzk ?_
    refine tr_cond rfl (fun hc => ?_) (fun hc => ?_)
    · cases hs6 : seesF l ⟨p + 1, 0⟩ tokL with
      | false =>
        rw [past_no hs6, hcb _ bad_e, past_bad bad_e, hcb _ bad_e, past_bad bad_e] at hgr
        rw [past_no hs6] at hwl
        subst hgr
        have he := bad_e (l := l) (p := p + 1)
        repeat' first | refine zzs ?_ | refine zzb ?_ | refine zzk ?_
        refine tr_regionK 2 (zzx hnt rfl ?_ (call rfl rfl rfl rfl rfl rfl rfl hnt ((signT_fn [40])) (zzx hnt rfl ?_ (Lex.nil _)))) (callP (us := []) [(900000, 900000)] [] [] rfl rfl rfl rfl (hwl.2 he) (by repeat' first | exact .nil | refine .lent rfl rfl rfl ?_ | refine .data rfl ?_) (fun _ => rfl) rfl rfl rfl (by repeat' first | exact trivial | rfl | apply And.intro) (by repeat' first | exact trivial | rfl | apply And.intro)) ?_
        · exact zzt
        · exact zzt
        exact ⟨fun h => absurd h he, fun _ => ⟨rfl, fun X => le_of (ad := []) ⟨⟨rfl, rfl, rfl, rfl, rfl⟩, trivial⟩ (memOk_box rfl rfl rfl trivial)⟩⟩
      | true =>
        have hlt2 : p + 2 ≤ l.length := (sees_iff.1 hs6).2.1
        rw [past_yes hs6] at hgr hwl
        repeat' first | refine zzs ?_ | refine zzb ?_ | refine zzk ?_
        refine tr_region (zzx hnt rfl ?_ (call rfl rfl rfl rfl rfl rfl rfl hnt ((signT_fn [40])) (zzx hnt rfl ?_ (callH (us := []) [(900000, 900000)] [] [] rfl rfl rfl rfl ((hwl.1 rfl)) (by repeat' first | exact .nil | refine .lent rfl rfl rfl ?_ | refine .data rfl ?_) (fun _ => rfl) rfl rfl hnt rfl rfl (by repeat' first | exact trivial | rfl | apply And.intro) (by repeat' first | exact trivial | rfl | apply And.intro) (zzx hnt rfl ?_ (Lex.nil _)))))) ?_
        · exact zzt
        · exact zzt
        · exact zzt
        have hz := hf (p + 2) (by omega) hlt2
        have hfw := hcf ⟨p + 2, 0⟩
        unfold Rds at hz
        have hgr : (.mk 20 val0 [] [(c0 ⟨p + 2, 0⟩).1, (c0 (pastF l (c0 ⟨p + 2, 0⟩).2 [tokC])).1], pastF l (c0 (pastF l (c0 ⟨p + 2, 0⟩).2 [tokC])).2 [tokR]) = g := hgr
        generalize hr : c0 ⟨p + 2, 0⟩ = r at *
        obtain ⟨e1, s1⟩ := r
        have hgr : (.mk 20 val0 [] [e1, (c0 (pastF l s1 [tokC])).1], pastF l (c0 (pastF l s1 [tokC])).2 [tokR]) = g := hgr
        have w7 : (Cs.es (eEx e1)).len = 7 := by rw [eEx_eq]; rfl
        have w8 : (Cs.es (List.take 7 (List.drop 0 (eEx e1)))).len = 7 := by rw [tk7]; exact w7
        by_cases he : s1.e = 0
        · have hz := hz.1 he
          obtain ⟨q, z⟩ := s1
          have he : z = 0 := he
          subst he
          have hq1 : p + 2 ≤ q := hfw.1
          have hq2 : q ≤ l.length := hfw.2 hlt2
          repeat' first | refine zzs ?_ | refine zzb ?_ | refine zzk ?_
          refine tr_region (zzx hnt rfl ?_ (callH (us := []) [(900000, 900000)] [] [] rfl rfl rfl rfl (hz) (by repeat' first | exact .nil | refine .lent rfl rfl rfl ?_ | refine .data rfl ?_) (fun _ => rfl) rfl rfl hnt rfl rfl (by repeat' first | exact trivial | rfl | apply And.intro) (by repeat' first | exact trivial | rfl | apply And.intro) (zzx hnt rfl ?_ (Lex.nil _)))) ?_
          · exact zzt
          · exact zzt
          have hwc := want_fn l hm q tokC (Nat.le_of_ble_eq_true rfl) (by decide)
          cases hs7 : seesF l ⟨q, 0⟩ tokC with
          | false =>
            rw [past_no hs7, hcb _ bad_e, past_bad bad_e] at hgr
            rw [past_no hs7] at hwc
            subst hgr
            have he := bad_e (l := l) (p := q)
            repeat' first | refine zzs ?_ | refine zzb ?_ | refine zzk ?_
            refine tr_regionK 2 (zzx hnt rfl ?_ (call rfl rfl rfl rfl rfl rfl rfl hnt ((signT_fn [44])) (zzx hnt rfl ?_ (Lex.nil _)))) (callP (us := []) [(900000, 900000)] [] [] rfl rfl rfl rfl (hwc.2 he) (by repeat' first | exact .nil | refine .lent rfl rfl rfl ?_ | refine .data rfl ?_) (fun _ => rfl) rfl rfl rfl (by repeat' first | exact trivial | rfl | apply And.intro) (by repeat' first | exact trivial | rfl | apply And.intro)) ?_
            · exact zzt
            · exact zzt
            exact ⟨fun h => absurd h he, fun _ => ⟨rfl, fun X => le_of (ad := []) ⟨⟨rfl, rfl, rfl, rfl, rfl⟩, trivial⟩ (memOk_box rfl rfl rfl trivial)⟩⟩
          | true =>
            have hlt3 : q + 1 ≤ l.length := (sees_iff.1 hs7).2.1
            rw [past_yes hs7] at hgr hwc
            repeat' first | refine zzs ?_ | refine zzb ?_ | refine zzk ?_
            refine tr_region (zzx hnt rfl ?_ (call rfl rfl rfl rfl rfl rfl rfl hnt ((signT_fn [44])) (zzx hnt rfl ?_ (callH (us := []) [(900000, 900000)] [] [] rfl rfl rfl rfl ((hwc.1 rfl)) (by repeat' first | exact .nil | refine .lent rfl rfl rfl ?_ | refine .data rfl ?_) (fun _ => rfl) rfl rfl hnt rfl rfl (by repeat' first | exact trivial | rfl | apply And.intro) (by repeat' first | exact trivial | rfl | apply And.intro) (zzx hnt rfl ?_ (Lex.nil _)))))) ?_
            · exact zzt
            · exact zzt
            · exact zzt
            have hz := hf (q + 1) (by omega) hlt3
            unfold Rds at hz
            have hgr : (.mk 20 val0 [] [e1, (c0 ⟨q + 1, 0⟩).1], pastF l (c0 ⟨q + 1, 0⟩).2 [tokR]) = g := hgr
            generalize hr2 : c0 ⟨q + 1, 0⟩ = r2 at *
            obtain ⟨e2, s2⟩ := r2
            have hgr : (.mk 20 val0 [] [e1, e2], pastF l s2 [tokR]) = g := hgr
            subst hgr
            have v7 : (Cs.es (eEx e2)).len = 7 := by rw [eEx_eq]; rfl
            have v8 : (Cs.es (List.take 7 (List.drop 0 (eEx e2)))).len = 7 := by rw [tk7]; exact v7
            by_cases he : s2.e = 0
            · have hz := hz.1 he
              obtain ⟨q3, z3⟩ := s2
              have he : z3 = 0 := he
              subst he
              repeat' first | refine zzs ?_ | refine zzb ?_ | refine zzk ?_
              refine tr_region (zzx hnt rfl ?_ (callH (us := []) [(900000, 900000)] [] [] rfl rfl rfl rfl (hz) (by repeat' first | exact .nil | refine .lent rfl rfl rfl ?_ | refine .data rfl ?_) (fun _ => rfl) rfl rfl hnt rfl rfl (by repeat' first | exact trivial | rfl | apply And.intro) (by repeat' first | exact trivial | rfl | apply And.intro) (zzx hnt rfl ?_ (Lex.nil _)))) ?_
              · exact zzt
              · exact zzt
              have hwt := want_fn l hm q3 tokR (Nat.le_of_ble_eq_true rfl) (by decide)
              generalize pastF l ⟨q3, 0⟩ [tokR] = s2 at *
              by_cases he : s2.e = 0
              · repeat' first | refine zzs ?_ | refine zzb ?_ | refine zzk ?_
                refine tr_region (zzx hnt rfl ?_ (call rfl rfl rfl rfl rfl rfl rfl hnt ((signT_fn [41])) (zzx hnt rfl ?_ (callH (us := []) [(900000, 900000)] [] [] rfl rfl rfl rfl ((hwt.1 he)) (by repeat' first | exact .nil | refine .lent rfl rfl rfl ?_ | refine .data rfl ?_) (fun _ => rfl) rfl rfl hnt rfl rfl (by repeat' first | exact trivial | rfl | apply And.intro) (by repeat' first | exact trivial | rfl | apply And.intro) (zzx hnt rfl ?_ (Lex.nil _)))))) ?_
                · exact zzt
                · exact zzt
                · exact zzt
                have htwo : FnD Tryd.prog 27 [.one (.e (eI 20)), .agg (.es (List.take 7 (List.drop 0 (eEx e1)))), .agg (.es (List.take 7 (List.drop 0 (eEx e2))))] (.agg (.es (eEx (.mk 20 val0 [] [e1, e2])))) := by
                  rw [tk7, tk7]
                  exact two_fn 20 e1 e2
                have u7 : (Cs.es (eEx (.mk 20 val0 [] [e1, e2]))).len = 7 := by rw [eEx_eq]; rfl
                repeat' first | refine zzs ?_ | refine zzb ?_ | refine zzk ?_
                refine tr_region (zzx hnt rfl ?_ (call rfl rfl rfl rfl rfl rfl rfl hnt (htwo) (zzx hnt rfl ?_ (Lex.nil _)))) ?_
                · exact zza
                · exact zza
                have w7 := u7
                exact tr_ret ⟨fun _ => ⟨.inr rfl, _, _, _, rfl, (by (repeat' first | exact trivial | exact Nat.le_of_ble_eq_true rfl | exact Nat.le_of_eq w7.symm | apply And.intro)), rfl, fun X => le_of (ad := []) ⟨(tk7 _), ⟨rfl, rfl, rfl, rfl, rfl⟩, trivial⟩ (memOk_box rfl rfl rfl trivial)⟩, fun h => absurd he h⟩
              repeat' first | refine zzs ?_ | refine zzb ?_ | refine zzk ?_
              refine tr_regionK 2 (zzx hnt rfl ?_ (call rfl rfl rfl rfl rfl rfl rfl hnt ((signT_fn [41])) (zzx hnt rfl ?_ (Lex.nil _)))) (callP (us := []) [(900000, 900000)] [] [] rfl rfl rfl rfl (hwt.2 he) (by repeat' first | exact .nil | refine .lent rfl rfl rfl ?_ | refine .data rfl ?_) (fun _ => rfl) rfl rfl rfl (by repeat' first | exact trivial | rfl | apply And.intro) (by repeat' first | exact trivial | rfl | apply And.intro)) ?_
              · exact zzt
              · exact zzt
              exact ⟨fun h => absurd h he, fun _ => ⟨rfl, fun X => le_of (ad := []) ⟨⟨rfl, rfl, rfl, rfl, rfl⟩, trivial⟩ (memOk_box rfl rfl rfl trivial)⟩⟩
            have hz := hz.2 he
            rw [past_bad he]
            repeat' first | refine zzs ?_ | refine zzb ?_ | refine zzk ?_
            refine tr_regionK 1 (zzx hnt rfl ?_ (Lex.nil _)) (callP (us := []) [(900000, 900000)] [] [] rfl rfl rfl rfl (hz) (by repeat' first | exact .nil | refine .lent rfl rfl rfl ?_ | refine .data rfl ?_) (fun _ => rfl) rfl rfl rfl (by repeat' first | exact trivial | rfl | apply And.intro) (by repeat' first | exact trivial | rfl | apply And.intro)) ?_
            · exact zzt
            exact ⟨fun h => absurd h he, fun _ => ⟨rfl, fun X => le_of (ad := []) ⟨⟨rfl, rfl, rfl, rfl, rfl⟩, trivial⟩ (memOk_box rfl rfl rfl trivial)⟩⟩
        have hz := hz.2 he
        rw [past_bad he, hcb _ he, past_bad he] at hgr
        subst hgr
        repeat' first | refine zzs ?_ | refine zzb ?_ | refine zzk ?_
        refine tr_regionK 1 (zzx hnt rfl ?_ (Lex.nil _)) (callP (us := []) [(900000, 900000)] [] [] rfl rfl rfl rfl (hz) (by repeat' first | exact .nil | refine .lent rfl rfl rfl ?_ | refine .data rfl ?_) (fun _ => rfl) rfl rfl rfl (by repeat' first | exact trivial | rfl | apply And.intro) (by repeat' first | exact trivial | rfl | apply And.intro)) ?_
        · exact zzt
        exact ⟨fun h => absurd h he, fun _ => ⟨rfl, fun X => le_of (ad := []) ⟨⟨rfl, rfl, rfl, rfl, rfl⟩, trivial⟩ (memOk_box rfl rfl rfl trivial)⟩⟩
    exact absurd hc Bool.noConfusion
  | false =>
  rw [if_neg (by rw [hs5']; exact Bool.noConfusion)] at hgr
  repeat' first | refine zzs ?_ | refine zzb ?_ | refine zzk ?_
  refine tr_region (zzx hnt rfl ?_ (call rfl rfl rfl rfl rfl rfl rfl hnt ((wordT_fn ([67, 79, 65, 76, 69, 83, 67, 69]))) (zzx hnt rfl ?_ (callH (us := []) [(900000, 900000)] [] [] rfl rfl rfl rfl (take_no l p tokCo (Nat.le_of_ble_eq_true rfl) (by decide) hs5') (by repeat' first | exact .nil | refine .lent rfl rfl rfl ?_ | refine .data rfl ?_) (fun _ => rfl) rfl rfl hnt rfl rfl (by repeat' first | exact trivial | rfl | apply And.intro) (by repeat' first | exact trivial | rfl | apply And.intro) (zzx hnt rfl ?_ (Lex.nil _)))))) ?_
  · exact zzt
  · exact zzt
  · exact zzt
  repeat' first | refine zzs ?_ | refine zzb ?_ | refine zzk ?_
  refine tr_cond rfl (fun hc => ?_) (fun hc => ?_)
  · exact absurd hc Bool.noConfusion
  refine tr_le (s' := St.of [(0, ptS), (2, .one (.ptr 2 0 0)), (900000, ptS), ((1000000 + 3), .one (.eptr fsE)), ((1000000 + 4), .one (.eptr acE))] [(2, ⟨0, .box (.ds [.e (eI 0), .e (eI 0), .e (eI 0), .e (eQ 0), .e (eT []), .e (eT []), .nil]), 0⟩), (900000, ⟨0, .box (.es (eRd l p)), 0⟩)]) (le_of (ad := []) ⟨zzl, zzl, zzl, zzl, zzl, trivial⟩ (memOk_box rfl rfl ⟨rfl, rfl, rfl, rfl, rfl, rfl, trivial, trivial⟩ (memOk_box rfl rfl rfl trivial))) ?_
  have hk : p < l.length → FnG Tryd.prog 48 gK [.agg (.es (List.take 4 (List.drop 0 (((eRd l p).getD (0 + 0) E.dflt).xs.getD ((eRd l p).getD (0 + 1) E.dflt).int.toNat []))))] (.one (.e (eI (tkF (l.getD p tok0))))) := fun h => by
    rw [hg h]
    exact lexCheck_fn _ (ho.at h)
  repeat' first | refine zzs ?_ | refine zzb ?_ | refine zzk ?_
  refine tr_draw (T := tab) tOk hnt mixedR (lexD (T := tab) rfl ?_ (callVGD rfl rfl rfl rfl rfl rfl rfl rfl (fun hq => ?_) rfl (fun hq => (hk (by have hq2 := hq; simp only [zz1, zz2, zz3, zz4, zz5, zz6, zz7, zz8] at hq2; (try simp only [h1, h2] at hq2); (try simp only [zz1, zz2, zz3, zz4, zz5, zz6, zz7, zz8] at hq2); omega))) (lexD (T := tab) rfl ?_ (.nil _)))) (by first | decide +kernel | kernel_rfl) ?_
  · (dsimp only [AllP]; (repeat' first | exact trivial | assumption | exact Nat.le_of_ble_eq_true rfl | apply And.intro | exact eCells_len1 _ _ ‹_› | exact eCells_isByte _ _ ‹_› | (intro hh_; have hg_ := hh_; (try simp only [condT_ff, condF_tt, notE_t, notE_f, Bool.and_eq_true, ne_eq, decide_eq_true_eq, decide_eq_false_iff_not] at hg_)) | intro _ | exact rfl | omega))
    all_goals (rw [hg (by omega)]; first | exact rfl | exact Nat.le_of_ble_eq_true rfl)
  · exact zza
  · exact zza
  repeat' first | refine zzs ?_ | refine zzb ?_ | refine zzk ?_
  refine tr_cond rfl (fun hc => ?_) (fun hc => ?_)
  · simp only [zz1, zz2, zz3, zz4, zz5, zz6, zz7, zz8] at hc
    (try simp only [h1, h2] at hc)
    (try simp only [zz1, zz2, zz3, zz4, zz5, zz6, zz7, zz8] at hc)
    have hkd : kindF l ⟨p, 0⟩ = 0 := by
      unfold kindF
      rw [if_pos (by rcases hc with hc | hc; exact .inr (.inl (by show l.length ≤ p; omega)); exact .inr (.inr hc))]
    have hgr : (ex0, badF l ⟨p, 0⟩) = g := by
      rw [← hgr, hkd]
      rfl
    subst hgr
    have he := bad_e (l := l) (p := p)
    have hpp : (badF l ⟨p, 0⟩).p = p := bad_p l _
    repeat' first | refine zzs ?_ | refine zzb ?_ | refine zzk ?_
    refine tr_regionK 1 (zzx hnt rfl ?_ (Lex.nil _)) (callP (us := []) [(900000, 900000)] [] [] rfl rfl rfl rfl (fail_fn l p) (by repeat' first | exact .nil | refine .lent rfl rfl rfl ?_ | refine .data rfl ?_) (fun _ => rfl) rfl rfl rfl (by repeat' first | exact trivial | rfl | apply And.intro) (by repeat' first | exact trivial | rfl | apply And.intro)) ?_
    · exact zzt
    exact ⟨fun h => absurd h he, fun _ => ⟨rfl, fun X => le_of (ad := []) ⟨⟨rfl, rfl, rfl, rfl, rfl⟩, trivial⟩ (memOk_box rfl rfl (by rw [hpp]; rfl) trivial)⟩⟩
  simp only [zz1, zz2, zz3, zz4, zz5, zz6, zz7, zz8] at hc
  (try simp only [h1, h2] at hc)
  (try simp only [zz1, zz2, zz3, zz4, zz5, zz6, zz7, zz8] at hc)
  have hlt : p < l.length := by omega
  have hkd : kindF l ⟨p, 0⟩ = (l.getD p tok0).k := by
    unfold kindF
    rw [if_neg (by show ¬ ((0 : Int) ≠ 0 ∨ l.length ≤ p ∨ tkF (l.getD p tok0) ≠ 0); omega)]
  rw [hkd] at hgr
  refine tr_le (s' := St.of [(0, ptS), (2, .one (.ptr 2 0 0)), (900000, ptS), ((1000000 + 3), .one (.eptr fsE)), ((1000000 + 4), .one (.eptr acE))] [(2, ⟨0, .box (.ds [.e (eI 0), .e (eI 0), .e (eI 0), .e (eQ 0), .e (eT []), .e (eT []), .nil]), 0⟩), (900000, ⟨0, .box (.es (eRd l p)), 0⟩)]) (le_of (ad := []) ⟨zzl, zzl, zzl, zzl, zzl, trivial⟩ (memOk_box rfl rfl ⟨rfl, rfl, rfl, rfl, rfl, rfl, trivial, trivial⟩ (memOk_box rfl rfl rfl trivial))) ?_
  repeat' first | refine zzs ?_ | refine zzb ?_ | refine zzk ?_
  first | refine zzr hnt rfl ?_ ?_ | refine zzd hnt rfl ?_ ?_
  · rw [hg hlt, h1, h2]
    exact zza
  rw [hg hlt]
  have hgr : (if (l.getD p tok0).k = 1 then (Ex.mk 2 val0 (l.getD p tok0).t [], (⟨p + 1, 0⟩ : Spot)) else if (l.getD p tok0).k = 3 then (litE ⟨2, (l.getD p tok0).i, 0, []⟩, ⟨p + 1, 0⟩) else if (l.getD p tok0).k = 5 then (litE ⟨3, 0, (l.getD p tok0).b, []⟩, ⟨p + 1, 0⟩) else if (l.getD p tok0).k = 4 then (litE ⟨4, 0, 0, (l.getD p tok0).t⟩, ⟨p + 1, 0⟩) else (ex0, badF l ⟨p, 0⟩)) = g := hgr
  generalize l.getD p tok0 = t at *
  have hinc := rdInc l (p := p) (by omega)
  repeat' first | refine zzs ?_ | refine zzr hnt rfl ?_ ?_ | refine zzd hnt rfl ?_ ?_ | refine zzb ?_ | refine zzk ?_
  · exact zzt
  · exact zzt
  · exact zzt
  repeat' first | refine zzs ?_ | refine zzb ?_ | refine zzk ?_
  refine tr_cond rfl (fun hc => ?_) (fun hc => ?_)
  · have hc : t.k = 1 := of_decide_eq_true hc
    rw [if_pos hc] at hgr
    subst hgr
    repeat' first | refine zzs ?_ | refine zzr hnt rfl ?_ ?_ | refine zzd hnt rfl ?_ ?_ | refine zzb ?_ | refine zzk ?_
    · exact zzt
    · exact zzt
    · exact zzt
    exact tr_ret ⟨fun _ => ⟨.inr rfl, _, _, _, rfl, (zzp), rfl, fun X => le_of (ad := []) ⟨(by rw [eEx_mk]; exact ⟨rfl, rfl, rfl, rfl, rfl, rfl, rfl, trivial⟩), ⟨rfl, rfl, rfl, rfl, rfl⟩, trivial⟩ (memOk_box rfl rfl hinc trivial)⟩, fun h => absurd rfl h⟩
  have hc : ¬ t.k = 1 := of_decide_eq_false hc
  rw [if_neg hc] at hgr
  repeat' first | refine zzs ?_ | refine zzr hnt rfl ?_ ?_ | refine zzd hnt rfl ?_ ?_ | refine zzb ?_ | refine zzk ?_
  · exact zzt
  repeat' first | refine zzs ?_ | refine zzb ?_ | refine zzk ?_
  refine tr_cond rfl (fun hc => ?_) (fun hc => ?_)
  · have hc : t.k = 3 := of_decide_eq_true hc
    rw [if_pos hc] at hgr
    subst hgr
    have w7 : (Cs.es (eEx (litE (⟨2, t.i, 0, []⟩)))).len = 7 := by rw [eEx_eq]; rfl
    have w8 : (Cs.es (List.take 7 (List.drop 0 (eEx (litE (⟨2, t.i, 0, []⟩)))))).len = 7 := by rw [tk7]; exact w7
    have hl := litP_fn (⟨2, t.i, 0, []⟩)
    repeat' first | refine zzs ?_ | refine zzb ?_ | refine zzk ?_
    refine tr_region (zzx hnt rfl ?_ (call rfl rfl rfl rfl rfl rfl rfl hnt (hl) (zzx hnt rfl ?_ (Lex.nil _)))) ?_
    · exact zza
    · exact zza
    repeat' first | refine zzs ?_ | refine zzb ?_ | refine zzk ?_
    first | refine zzr hnt rfl ?_ ?_ | refine zzd hnt rfl ?_ ?_
    · exact zza
    repeat' first | refine zzs ?_ | refine zzb ?_ | refine zzk ?_
    first | refine zzr hnt rfl ?_ ?_ | refine zzd hnt rfl ?_ ?_
    · exact zza
    exact tr_ret ⟨fun _ => ⟨.inr rfl, _, _, _, rfl, (by (repeat' first | exact trivial | exact Nat.le_of_ble_eq_true rfl | exact Nat.le_of_eq w7.symm | apply And.intro)), rfl, fun X => le_of (ad := []) ⟨(tk77 _), ⟨rfl, rfl, rfl, rfl, rfl⟩, trivial⟩ (memOk_box rfl rfl hinc trivial)⟩, fun h => absurd rfl h⟩
  have hc : ¬ t.k = 3 := of_decide_eq_false hc
  rw [if_neg hc] at hgr
  repeat' first | refine zzs ?_ | refine zzr hnt rfl ?_ ?_ | refine zzd hnt rfl ?_ ?_ | refine zzb ?_ | refine zzk ?_
  · exact zzt
  repeat' first | refine zzs ?_ | refine zzb ?_ | refine zzk ?_
  refine tr_cond rfl (fun hc => ?_) (fun hc => ?_)
  · have hc : t.k = 5 := of_decide_eq_true hc
    rw [if_pos hc] at hgr
    subst hgr
    have w7 : (Cs.es (eEx (litE (⟨3, 0, t.b, []⟩)))).len = 7 := by rw [eEx_eq]; rfl
    have w8 : (Cs.es (List.take 7 (List.drop 0 (eEx (litE (⟨3, 0, t.b, []⟩)))))).len = 7 := by rw [tk7]; exact w7
    have hl := litP_fn (⟨3, 0, t.b, []⟩)
    repeat' first | refine zzs ?_ | refine zzb ?_ | refine zzk ?_
    refine tr_region (zzx hnt rfl ?_ (call rfl rfl rfl rfl rfl rfl rfl hnt (hl) (zzx hnt rfl ?_ (Lex.nil _)))) ?_
    · exact zza
    · exact zza
    repeat' first | refine zzs ?_ | refine zzb ?_ | refine zzk ?_
    first | refine zzr hnt rfl ?_ ?_ | refine zzd hnt rfl ?_ ?_
    · exact zza
    repeat' first | refine zzs ?_ | refine zzb ?_ | refine zzk ?_
    first | refine zzr hnt rfl ?_ ?_ | refine zzd hnt rfl ?_ ?_
    · exact zza
    exact tr_ret ⟨fun _ => ⟨.inr rfl, _, _, _, rfl, (by (repeat' first | exact trivial | exact Nat.le_of_ble_eq_true rfl | exact Nat.le_of_eq w7.symm | apply And.intro)), rfl, fun X => le_of (ad := []) ⟨(tk77 _), ⟨rfl, rfl, rfl, rfl, rfl⟩, trivial⟩ (memOk_box rfl rfl hinc trivial)⟩, fun h => absurd rfl h⟩
  have hc : ¬ t.k = 5 := of_decide_eq_false hc
  rw [if_neg hc] at hgr
  repeat' first | refine zzs ?_ | refine zzr hnt rfl ?_ ?_ | refine zzd hnt rfl ?_ ?_ | refine zzb ?_ | refine zzk ?_
  · exact zzt
  repeat' first | refine zzs ?_ | refine zzb ?_ | refine zzk ?_
  refine tr_cond rfl (fun hc => ?_) (fun hc => ?_)
  · have hc : t.k = 4 := of_decide_eq_true hc
    rw [if_pos hc] at hgr
    subst hgr
    have w7 : (Cs.es (eEx (litE (⟨4, 0, 0, t.t⟩)))).len = 7 := by rw [eEx_eq]; rfl
    have w8 : (Cs.es (List.take 7 (List.drop 0 (eEx (litE (⟨4, 0, 0, t.t⟩)))))).len = 7 := by rw [tk7]; exact w7
    have hl := litP_fn (⟨4, 0, 0, t.t⟩)
    repeat' first | refine zzs ?_ | refine zzb ?_ | refine zzk ?_
    refine tr_region (zzx hnt rfl ?_ (call rfl rfl rfl rfl rfl rfl rfl hnt (hl) (zzx hnt rfl ?_ (Lex.nil _)))) ?_
    · exact zza
    · exact zza
    repeat' first | refine zzs ?_ | refine zzb ?_ | refine zzk ?_
    first | refine zzr hnt rfl ?_ ?_ | refine zzd hnt rfl ?_ ?_
    · exact zza
    repeat' first | refine zzs ?_ | refine zzb ?_ | refine zzk ?_
    first | refine zzr hnt rfl ?_ ?_ | refine zzd hnt rfl ?_ ?_
    · exact zza
    exact tr_ret ⟨fun _ => ⟨.inr rfl, _, _, _, rfl, (by (repeat' first | exact trivial | exact Nat.le_of_ble_eq_true rfl | exact Nat.le_of_eq w7.symm | apply And.intro)), rfl, fun X => le_of (ad := []) ⟨(tk77 _), ⟨rfl, rfl, rfl, rfl, rfl⟩, trivial⟩ (memOk_box rfl rfl hinc trivial)⟩, fun h => absurd rfl h⟩
  have hc : ¬ t.k = 4 := of_decide_eq_false hc
  rw [if_neg hc] at hgr
  subst hgr
  have he := bad_e (l := l) (p := p)
  have hpp : (badF l ⟨p, 0⟩).p = p := bad_p l _
  repeat' first | refine zzs ?_ | refine zzb ?_ | refine zzk ?_
  refine tr_regionK 1 (zzx hnt rfl ?_ (Lex.nil _)) (callP (us := []) [(900000, 900000)] [] [] rfl rfl rfl rfl (fail_fn l p) (by repeat' first | exact .nil | refine .lent rfl rfl rfl ?_ | refine .data rfl ?_) (fun _ => rfl) rfl rfl rfl (by repeat' first | exact trivial | rfl | apply And.intro) (by repeat' first | exact trivial | rfl | apply And.intro)) ?_
  · exact zzt
  exact ⟨fun h => absurd h he, fun _ => ⟨rfl, fun X => le_of (ad := []) ⟨⟨rfl, rfl, rfl, rfl, rfl⟩, trivial⟩ (memOk_box rfl rfl (by rw [hpp]; rfl) trivial)⟩⟩
end Go.Proofs.YtcdifgacoleckaaDoor
