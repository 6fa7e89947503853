/- The document's expression shown. No condition. -/
import Derived.Test.YthnadkafegmacaaDoorTXsF
namespace Go.Proofs.YthnadkafegmacaaDoor
open Go Go.RowKit Go.Proofs.YthnadkafegmacaaDoor.Ab
set_option linter.unusedSimpArgs false
set_option linter.unusedVariables false

def Shown (x : Ex) : Prop := FnG Tryd.prog 35 [(6, spE), (2, mkE)] [.agg (.es (eEx x))] (.one (.e (eTks (shX x))))
set_option maxRecDepth 10000 in
set_option maxHeartbeats 2000000 in
theorem inside_fn (l : Int) (x : Ex) (h1 : 1 ≤ x.op) (h2 : x.op ≤ 20) (ih : Shown x) (hb : (shX x).length ≤ 1000) : FnG Tryd.prog 76 ([(6, spE), (2, mkE)]) [.agg (.es (eEx x)), .one (.e (eI l))] (.one (.e (eTks (shF x (l + 1))))) := by
  refine fn_introG (T := tab) tOk Tryd.func76 rfl (by kernel_rfl) (by simp [Tryd.ntmps76]) ?_
  intro X hX
  have hnt : X.nt = 19 := hX
  clear hX
  have hbi := binds_fn x.op h1 h2
  unfold shF brk
  dsimp only
  unfold Shown at ih
  rw [eEx_eq] at ih ⊢
  generalize shX x = p at *
  repeat' first | refine zzs ?_ | refine zzb ?_ | refine zzk ?_
  first | refine zzr hnt rfl ?_ ?_ | refine zzd hnt rfl ?_ ?_
  · exact zzt
  repeat' first | refine zzs ?_ | refine zzb ?_ | refine zzk ?_
  refine tr_region (zzx hnt rfl ?_ (callV rfl rfl rfl rfl rfl rfl rfl hnt rfl (ih) (zzx hnt rfl ?_ (Lex.nil _)))) ?_
  · exact zzt
  · exact zzt
  repeat' first | refine zzs ?_ | refine zzb ?_ | refine zzk ?_
  refine tr_region (zzx hnt rfl ?_ (call rfl rfl rfl rfl rfl rfl rfl hnt (hbi) (zzx hnt rfl ?_ (Lex.nil _)))) ?_
  · exact zza
  · exact zza
  repeat' first | refine zzs ?_ | refine zzb ?_ | refine zzk ?_
  refine tr_cond rfl (fun hc => ?_) (fun hc => ?_)
  · simp only [zz1, zz2, zz3, zz4, zz5, zz6, zz7, zz8] at hc
    rw [if_pos (by omega)]
    have h1 := tokens_c
    have h2 := tokens_d
    have h3 := cat_fn [[sgT [40]], p, [sgT [41]]] (Nat.le_of_ble_eq_true rfl) (by simp; omega)
    have h4 : ([[sgT [40]], p, [sgT [41]]] : List (List Tok)).flatten = sgT [40] :: p ++ [sgT [41]] := by simp
    rw [h4] at h3
    repeat' first | refine zzs ?_ | refine zzb ?_ | refine zzk ?_
    refine tr_region (zzx hnt rfl ?_ (callV rfl rfl rfl rfl rfl rfl rfl hnt rfl (h1) (zzx hnt rfl ?_ (callV rfl rfl rfl rfl rfl rfl rfl hnt rfl (h2) (zzx hnt rfl ?_ (callU rfl rfl rfl rfl rfl rfl rfl hnt (h3) (zzx hnt rfl ?_ (Lex.nil _)))))))) ?_
    · exact zzt
    · exact zzt
    · exact zzt
    · exact zzt
    exact tr_ret ⟨.inr rfl, _, _, rfl, zzp, rfl⟩
  simp only [zz1, zz2, zz3, zz4, zz5, zz6, zz7, zz8] at hc
  rw [if_neg (by omega)]
  repeat' first | refine zzs ?_ | refine zzr hnt rfl ?_ ?_ | refine zzd hnt rfl ?_ ?_ | refine zzb ?_ | refine zzk ?_
  · exact zzt
  exact tr_ret ⟨.inr rfl, _, _, rfl, zzp, rfl⟩
end Go.Proofs.YthnadkafegmacaaDoor
