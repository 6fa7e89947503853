/- sameExpr at equal data. No condition. -/
import Derived.Test.YtcdifgacoleckaaDoorTExA
namespace Go.Proofs.YtcdifgacoleckaaDoor
open Go Go.RowKit Go.Proofs.YtcdifgacoleckaaDoor.Ab
set_option linter.unusedSimpArgs false
set_option linter.unusedVariables false

theorem eqV_same (v : Val) : (eqD tab 9 25 (.agg (.es (List.take 4 (List.drop 0 (eVal v))))) (.agg (.es (List.take 4 (List.drop 0 (eVal v)))))).2 = true := by
  rw [eqV2]
  exact decide_eq_true ⟨rfl, rfl, rfl, rfl⟩
set_option maxRecDepth 10000 in
set_option maxHeartbeats 2000000 in
theorem sameExpr_step (x : Ex) (hL : x.ar.length ≤ maxLen) (ih : ∀ a ∈ x.ar, FnD Tryd.prog 7 [.agg (.es (eEx a)), .agg (.es (eEx a))] (.v (.bool true))) : FnD Tryd.prog 7 [.agg (.es (eEx x)), .agg (.es (eEx x))] (.v (.bool true)) := by
  refine fn_intro (T := tab) tOk Tryd.func7 rfl (by kernel_rfl) (by simp [Tryd.ntmps7]) ?_
  intro X hX
  have hnt : X.nt = 53 := hX
  clear hX
  have hml := exsLen x.ar
  have e1 := eqV1 x.v x.v
  have e2 := eqV_same x.v
  have hLm := hL
  unfold maxLen at hLm
  rw [eEx_eq]
  repeat' first | refine zzs ?_ | refine zzb ?_ | refine zzk ?_
  first | refine zzr hnt rfl ?_ ?_ | refine zzd hnt rfl ?_ ?_
  · exact zzt
  repeat' first | refine zzs ?_ | refine zzb ?_ | refine zzk ?_
  first | refine zzr hnt rfl ?_ ?_ | refine zzd hnt rfl ?_ ?_
  · (dsimp only [AllP]; (repeat' first | exact trivial | assumption | exact Nat.le_of_ble_eq_true rfl | apply And.intro | exact eCells_len1 _ _ ‹_› | exact eCells_isByte _ _ ‹_› | (intro hh_; have hg_ := hh_; (try simp only [condT_ff, condF_tt, notE_t, notE_f, Bool.and_eq_true, ne_eq, decide_eq_true_eq, decide_eq_false_iff_not] at hg_)) | intro _ | exact rfl | omega))
    all_goals trace_state
  repeat' first | refine zzs ?_ | refine zzb ?_ | refine zzk ?_
  refine tr_cond rfl (fun hc => ?_) (fun hc => ?_)
  · have hc : (bif (bif (bif !decide (x.op = x.op) then true else !(eqD tab 9 25 (.agg (.es (List.take 4 (List.drop 0 (eVal x.v))))) (.agg (.es (List.take 4 (List.drop 0 (eVal x.v)))))).2) then true else !strEq (strB x.n) (strB x.n)) then true else !decide ((((eExs x.ar).length : Nat) : Int) = (((eExs x.ar).length : Nat) : Int))) = true := hc
    rw [e2, decide_eq_true rfl, decide_eq_true rfl, strEq_B, decide_eq_true rfl] at hc
    exact absurd hc (by decide)
  repeat' first | refine zzs ?_ | refine zzb ?_ | refine zzk ?_
  first | refine zzr hnt rfl ?_ ?_ | refine zzd hnt rfl ?_ ?_
  · exact zzt
  repeat' first | refine zzs ?_ | refine zzb ?_ | refine zzk ?_
  refine tr_loop (σ := Nat) (fun i => St.of [(2, .one (.ptr 2 0 0)), (3, .one (.ptr 3 0 0)), (36, .one (.e (eI ((eExs x.ar).length : Int)))), (37, .one (.e (eI (i : Int))))] [(2, ⟨0, .box (.es [eI x.op, eI x.v.k, eI x.v.i, eQ x.v.b, eT x.v.t, eT x.n, .sl (eExs x.ar)]), 0⟩), (3, ⟨0, .box (.es [eI x.op, eI x.v.k, eI x.v.i, eQ x.v.b, eT x.v.t, eT x.n, .sl (eExs x.ar)]), 0⟩)]) (fun i => i ≤ x.ar.length) (fun i => x.ar.length - i) (0) (le_of (ad := []) ⟨zzl, zzl, zzl, zzl, trivial⟩ (memOk_box rfl rfl rfl (memOk_box rfl rfl rfl trivial))) (Nat.zero_le _) ?_
  rintro i il
  repeat' first | refine zzs ?_ | refine zzr hnt rfl ?_ ?_ | refine zzd hnt rfl ?_ ?_ | refine zzb ?_ | refine zzk ?_
  · exact zzt
  repeat' first | refine zzs ?_ | refine zzb ?_ | refine zzk ?_
  refine tr_cond rfl (fun hc => ?_) (fun hc => ?_)
  · simp only [zz1, zz2, zz3, zz4, zz5, zz6, zz7, zz8] at hc
    (try simp only [hml] at hc)
    (try simp only [zz1, zz2, zz3, zz4, zz5, zz6, zz7, zz8] at hc)
    have hlt : i < x.ar.length := by omega
    have hg := exsGet x.ar i hlt
    have hmem := getD_mem (d := ex0) hlt
    have hf := ih _ hmem
    rw [← hg] at hf
    have h7 := (congrArg List.length hg).trans (ex7 _)
    have k7 : ((eExs x.ar).getD i []).length = 7 := h7
    have f7 : 0 + 7 ≤ (Cs.es ((eExs x.ar).getD i [])).len := by show 0 + 7 ≤ ((eExs x.ar).getD i []).length; omega
    have hall : List.take 7 (List.drop 0 ((eExs x.ar).getD i [])) = (eExs x.ar).getD i [] := by rw [List.drop_zero, List.take_of_length_le (by omega)]
    have hlt2 : (i : Int) < (((eExs x.ar).length : Nat) : Int) := by omega
    rw [← hall] at hf
    repeat' first | refine zzs ?_ | refine zzb ?_ | refine zzk ?_
    first | refine zzr hnt rfl ?_ ?_ | refine zzd hnt rfl ?_ ?_
    · exact zzt
    rw [show (eExs x.ar).getD i [] = (eExs x.ar).getD (Int.toNat (i : Int)) [] by rw [Int.toNat_natCast]] at hf k7 f7
    repeat' first | refine zzs ?_ | refine zzb ?_ | refine zzk ?_
    refine tr_draw (T := tab) tOk hnt mixedR (lexD (T := tab) rfl ?_ (callD rfl rfl rfl rfl rfl rfl rfl rfl (hf) (lexD (T := tab) rfl ?_ (.nil _)))) (by first | decide +kernel | kernel_rfl) ?_
    · (dsimp only [AllP]; (repeat' first | exact trivial | assumption | exact Nat.le_of_ble_eq_true rfl | apply And.intro | exact eCells_len1 _ _ ‹_› | exact eCells_isByte _ _ ‹_› | (intro hh_; have hg_ := hh_; (try simp only [condT_ff, condF_tt, notE_t, notE_f, Bool.and_eq_true, ne_eq, decide_eq_true_eq, decide_eq_false_iff_not] at hg_)) | intro _ | exact rfl | omega))
      all_goals trace_state
    · (dsimp only [AllP]; (repeat' first | exact trivial | assumption | exact Nat.le_of_ble_eq_true rfl | apply And.intro | exact eCells_len1 _ _ ‹_› | exact eCells_isByte _ _ ‹_› | (intro hh_; have hg_ := hh_; (try simp only [condT_ff, condF_tt, notE_t, notE_f, Bool.and_eq_true, ne_eq, decide_eq_true_eq, decide_eq_false_iff_not] at hg_)) | intro _ | exact rfl | omega))
      all_goals trace_state
    repeat' first | refine zzs ?_ | refine zzb ?_ | refine zzk ?_
    refine tr_cond rfl (fun hc => ?_) (fun hc => ?_)
    · exact absurd (show false = true from hc) Bool.noConfusion
    repeat' first | refine zzs ?_ | refine zzr hnt rfl ?_ ?_ | refine zzd hnt rfl ?_ ?_ | refine zzb ?_ | refine zzk ?_
    · exact zzt
    refine ⟨i + 1, hlt, by omega, le_of (ad := []) ⟨zzl, zzl, zzl, zzl, trivial⟩ (memOk_box rfl rfl rfl (memOk_box rfl rfl rfl trivial))⟩
  refine tr_exit ?_
  repeat' first | refine zzs ?_ | refine zzr hnt rfl ?_ ?_ | refine zzd hnt rfl ?_ ?_ | refine zzb ?_ | refine zzk ?_
  · exact zzt
  exact tr_ret ⟨.inr rfl, _, _, rfl, trivial, rfl⟩
theorem sameExpr_all : ∀ (m : Nat) (x : Ex), nodes x ≤ m → exOk x → FnD Tryd.prog 7 [.agg (.es (eEx x)), .agg (.es (eEx x))] (.v (.bool true))
  | 0, x, h, _ => absurd h (by have := nodes_pos x; omega)
  | m + 1, x, h, ho => sameExpr_step x (exOk_kids ho).1 fun a ha => sameExpr_all m a (kid_nodes h ha) ((exOk_kids ho).2 a ha)
theorem sameExpr_fn (x : Ex) (ho : exOk x) : FnD Tryd.prog 7 [.agg (.es (eEx x)), .agg (.es (eEx x))] (.v (.bool true)) := sameExpr_all (nodes x) x (Nat.le_refl _) ho
end Go.Proofs.YtcdifgacoleckaaDoor
