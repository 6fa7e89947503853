/- Expressions as tokens: the brackets, all cases, expr.Show. No condition. -/
import Derived.Test.YtjabmeffgbaglaaDoorTXsB
namespace Go.Proofs.YtjabmeffgbaglaaDoor
open Go Go.RowKit Go.Proofs.YtjabmeffgbaglaaDoor.Ab
set_option linter.unusedSimpArgs false
set_option linter.unusedVariables false
set_option maxRecDepth 10000 in
set_option maxHeartbeats 2000000 in
theorem show_par (least op : Int) (v : Val) (n : Byt) (ar : List Ex) (p : List Tok) (h1 : 1 ≤ op) (h2 : op ≤ 20) (self : FnD Tryd.prog 78 [.agg (.es (eEx (.mk op v n ar))), .one (.e (eI 1))] (.one (.e (eTks p)))) (hp : p.length ≤ 5000) (hl : lvF op < least) : FnD Tryd.prog 78 [.agg (.es (eEx (.mk op v n ar))), .one (.e (eI least))] (.one (.e (eTks ([sgT [40]] ++ p ++ [sgT [41]])))) := by
 refine fn_intro (T := tab) tOk Tryd.func78 rfl (by kernel_rfl) (by simp [Tryd.ntmps78]) ?_
 intro X hX
 have hnt : X.nt = 167 := hX
 clear hX
 rw [eEx_mk] at self ⊢
 have hlv := level_fn op h1 h2
 repeat' first | refine zzs ?_ | refine zzb ?_ | refine zzk ?_
 first | refine zzr hnt rfl ?_ ?_ | refine zzd hnt rfl ?_ ?_
 ·exact zzt
 repeat' first | refine zzs ?_ | refine zzb ?_ | refine zzk ?_
 first | refine zzr hnt rfl ?_ ?_ | refine zzd hnt rfl ?_ ?_
 ·exact zzt
 repeat' first | refine zzs ?_ | refine zzb ?_ | refine zzk ?_
 first | refine zzr hnt rfl ?_ ?_ | refine zzd hnt rfl ?_ ?_
 ·exact zzt
 refine tr_le (s' := St.of [(1, .one (.e (eI least))), (2, .one (.ptr 2 0 0)), (5, .one (.ptr 5 0 0)), (6, .one (.clo 89 [(5, 0, 0)]))] [(2, ⟨0, .box (.es [eI op, eI v.k, eI v.i, eQ v.b, eT v.t, eT n, .sl (ar.map eEx)]), 0⟩), (5, ⟨0, .box (.ds [.own 3000 0]), 0⟩), (3000, ⟨0, .row 4 ([].map eTok), 0⟩)]) (le_of (ad := [3000]) ⟨zzl, zzl, zzl, zzl, trivial⟩ (memOk_box rfl rfl rfl (memOk_box rfl rfl zzi (memOk_new rfl (by decide) trivial)))) ?_
 repeat' first | refine zzs ?_ | refine zzb ?_ | refine zzk ?_
 refine tr_region (zzx hnt rfl ?_ (call rfl rfl rfl rfl rfl rfl rfl hnt (hlv) (zzx hnt rfl ?_ (Lex.nil _)))) ?_
 ·exact zza
 ·exact zza
 repeat' first | refine zzs ?_ | refine zzb ?_ | refine zzk ?_
 refine tr_cond rfl (fun hc => ?_) (fun hc => ?_)
 ·have h1 := signT_fn [40]
  have hpu := put_fn [] ([sgT [40]]) (by simp)
  repeat' first | refine zzs ?_ | refine zzb ?_ | refine zzk ?_
  refine tr_region (zzx hnt rfl ?_ (call rfl rfl rfl rfl rfl rfl rfl hnt (h1) (zzx hnt rfl ?_ (callH [(900000, 5)] [(900001, 3000)] [(900001, 3000)] rfl rfl rfl rfl (hpu) (by repeat' first | exact .nil | refine .lent rfl rfl rfl ?_ | refine argsData1 rfl ?_ | refine .data rfl ?_) (ver_upd1 rfl) rfl rfl hnt rfl rfl zzi zzi (zzx hnt rfl ?_ (Lex.nil _)))))) ?_
  ·exact zza
  ·exact zza
  ·exact zza
  refine tr_le (s' := St.of [(2, .one (.ptr 2 0 0)), (5, .one (.ptr 5 0 0)), (6, .one (.clo 89 [(5, 0, 0)]))] [(2, ⟨0, .box (.es [eI op, eI v.k, eI v.i, eQ v.b, eT v.t, eT n, .sl (ar.map eEx)]), 0⟩), (5, ⟨0, .box (.ds [.own 3000 0]), 0⟩), (3000, ⟨0, .row 4 ((([sgT [40]])).map eTok), 0⟩)]) (le_of (ad := []) ⟨zzl, zzl, zzl, trivial⟩ (memOk_box rfl rfl rfl (memOk_box rfl rfl zzi (memOk_row rfl rfl rfl trivial)))) ?_
  have hpu := put_fn ([sgT [40]]) p (by simp; omega)
  repeat' first | refine zzs ?_ | refine zzb ?_ | refine zzk ?_
  refine tr_region (zzx hnt rfl ?_ (call rfl rfl rfl rfl rfl rfl rfl hnt (self) (zzx hnt rfl ?_ (callH (us := []) [(900000, 5)] [(900001, 3000)] [(900001, 3000)] rfl rfl rfl rfl (hpu) (by repeat' first | exact .nil | refine .lent rfl rfl rfl ?_ | refine .data rfl ?_) (fun _ => rfl) rfl rfl hnt rfl rfl zzi zzi (zzx hnt rfl ?_ (Lex.nil _)))))) ?_
  ·exact zza
  ·exact zza
  ·exact zza
  refine tr_le (s' := St.of [(2, .one (.ptr 2 0 0)), (5, .one (.ptr 5 0 0)), (6, .one (.clo 89 [(5, 0, 0)]))] [(2, ⟨0, .box (.es [eI op, eI v.k, eI v.i, eQ v.b, eT v.t, eT n, .sl (ar.map eEx)]), 0⟩), (5, ⟨0, .box (.ds [.own 3000 0]), 0⟩), (3000, ⟨0, .row 4 ((([sgT [40]] ++ p)).map eTok), 0⟩)]) (le_of (ad := []) ⟨zzl, zzl, zzl, trivial⟩ (memOk_box rfl rfl rfl (memOk_box rfl rfl zzi (memOk_row rfl rfl rfl trivial)))) ?_
  have h1 := signT_fn [41]
  have hpu := put_fn ([sgT [40]] ++ p) ([sgT [41]]) (by simp; omega)
  repeat' first | refine zzs ?_ | refine zzb ?_ | refine zzk ?_
  refine tr_region (zzx hnt rfl ?_ (call rfl rfl rfl rfl rfl rfl rfl hnt (h1) (zzx hnt rfl ?_ (callH [(900000, 5)] [(900001, 3000)] [(900001, 3000)] rfl rfl rfl rfl (hpu) (by repeat' first | exact .nil | refine .lent rfl rfl rfl ?_ | refine argsData1 rfl ?_ | refine .data rfl ?_) (ver_upd1 rfl) rfl rfl hnt rfl rfl zzi zzi (zzx hnt rfl ?_ (Lex.nil _)))))) ?_
  ·exact zza
  ·exact zza
  ·exact zza
  repeat' first | refine zzs ?_ | refine zzr hnt rfl ?_ ?_ | refine zzd hnt rfl ?_ ?_ | refine zzb ?_ | refine zzk ?_
  ·exact zzt
  exact tr_ret ⟨.inr rfl, _, _, rfl, trivial, rfl⟩
 ·exact absurd hl (of_decide_eq_false hc)
end Go.Proofs.YtjabmeffgbaglaaDoor
