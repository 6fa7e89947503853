/- The law TableHolds's own function. No condition. -/
import Derived.Test.YthnadkafegmacaaDoorTTha
namespace Go.Proofs.YthnadkafegmacaaDoor
open Go Go.RowKit Go.Proofs.YthnadkafegmacaaDoor.Ab
set_option linter.unusedSimpArgs false
set_option linter.unusedVariables false

set_option maxRecDepth 10000 in
set_option maxHeartbeats 2000000 in
theorem tableHolds_fn (x : Ex) (cols : List Colm) (row : List Val) (hx : exOk x) (hn : ∀ c ∈ cols, c.n.length ≤ maxLen) (hv : ∀ v ∈ row, v.ok) : FnG Tryd.prog 10 gK [.agg (.es (eEx x)), .one (.e (eCols cols)), .one (.e (eRow row))] (.v (.bool true)) := by
  refine fn_introG (T := tab) tOk Tryd.func10 rfl (by kernel_rfl) (by simp [Tryd.ntmps10]) ?_
  intro X hX
  have hnt : X.nt = 33 := hX
  clear hX
  have h7 : 0 + 7 ≤ (Cs.es (eEx x)).len := by have := ex7 x; show 0 + 7 ≤ (eEx x).length; omega
  have e7 : (Cs.es (eEx x)).len = 7 := ex7 x
  have h1 := Holds_fn x cols row hx hn hv
  have h2 := True_fn x cols row hx hn hv
  rw [← exAll x] at h1 h2
  generalize hdF x cols row = A at *
  obtain ⟨b, e⟩ := A
  repeat' first | refine zzs ?_ | refine zzb ?_ | refine zzk ?_
  first | refine zzr hnt rfl ?_ ?_ | refine zzd hnt rfl ?_ ?_
  · exact zza
  repeat' first | refine zzs ?_ | refine zzb ?_ | refine zzk ?_
  refine tr_region (zzx hnt rfl ?_ (callV rfl rfl rfl rfl rfl rfl rfl hnt rfl (h1) (zzx hnt rfl ?_ (Lex.nil _)))) ?_
  · exact zza
  · exact zza
  repeat' first | refine zzs ?_ | refine zzb ?_ | refine zzk ?_
  refine tr_region (zzx hnt rfl ?_ (callV rfl rfl rfl rfl rfl rfl rfl hnt rfl (h2) (zzx hnt rfl ?_ (Lex.nil _)))) ?_
  · exact zza
  · exact zza
  repeat' first | refine zzs ?_ | refine zzb ?_ | refine zzk ?_
  first | refine zzr hnt rfl ?_ ?_ | refine zzd hnt rfl ?_ ?_
  · exact zza
  refine tr_ret ⟨.inr rfl, _, _, rfl, by trivial, ?_⟩
  simp
  rfl
end Go.Proofs.YthnadkafegmacaaDoor
