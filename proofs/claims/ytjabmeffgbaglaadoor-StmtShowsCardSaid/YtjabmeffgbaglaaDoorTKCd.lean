/- table.Condition and the document's ConditionFault. No condition. -/
import Derived.Test.YtjabmeffgbaglaaDoorTKoA
namespace Go.Proofs.YtjabmeffgbaglaaDoor
open Go Go.RowKit Go.Proofs.YtjabmeffgbaglaaDoor.Ab
set_option linter.unusedSimpArgs false
set_option linter.unusedVariables false
def noC (x : Ex) : Prop := x.op = 0 ∧ x.n.length = 0 ∧ zv x.v ∧ x.ar.length = 0
instance (x : Ex) : Decidable (noC x) := inferInstanceAs (Decidable (_ ∧ _ ∧ _ ∧ _))
set_option maxRecDepth 10000 in
set_option maxHeartbeats 2000000 in
theorem noExpr_fn (x : Ex) : FnD Tryd.prog 36 [.agg (.es (eEx x))] (.v (.bool (decide (noC x)))) := by
 refine fn_intro (T := tab) tOk Tryd.func36 rfl (by kernel_rfl) (by simp [Tryd.ntmps36]) ?_
 intro X hX
 have hnt : X.nt = 23 := hX
 clear hX
 have hml := exsLen x.ar
 have e1 := eqV1 x.v val0
 rw [eEx_eq]
 repeat' first | refine zzs ?_ | refine zzr hnt rfl ?_ ?_ | refine zzd hnt rfl ?_ ?_ | refine zzb ?_ | refine zzk ?_
 ·exact zzt
 ·exact zzt
 repeat' first | refine zzs ?_ | refine zzb ?_ | refine zzk ?_
 refine tr_ret ⟨.inr rfl, _, _, rfl, trivial, ?_⟩
 show D.v (.bool (bif bif bif decide (x.op = 0) then zvB x.v else false then strEq (strB x.n) ⟨#[]⟩ else false then decide (((eExs x.ar).length : Int) = 0) else false)) = D.v (.bool (decide (noC x)))
 rw [strEq_nil, zvB_eq, hml]
 congr 2
 refine dec_iff ?_
 simp only [zz1, zz2, zz3, zz4, zz5, zz6, zz7, zz8]
 unfold noC
 constructor
 ·rintro ⟨⟨⟨k1, k2⟩, k3⟩, k4⟩
  exact ⟨k1, by first | exact k2 | exact k3, by first | exact k3 | exact k2, by omega⟩
 ·rintro ⟨k1, k2, k3, k4⟩
  exact ⟨⟨⟨k1, by first | exact k2 | exact k3⟩, by first | exact k3 | exact k2⟩, by omega⟩
end Go.Proofs.YtjabmeffgbaglaaDoor
