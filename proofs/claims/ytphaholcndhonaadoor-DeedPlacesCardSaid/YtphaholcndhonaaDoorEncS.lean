/- States as arguments. No condition. -/
import Derived.Test.YtphaholcndhonaaDoorEncB
import Derived.Test.YtphaholcndhonaaDoorTDd2
namespace Go.Proofs.YtphaholcndhonaaDoor
open Go Go.RowKit Go.Proofs.YtphaholcndhonaaDoor.Ab

theorem encGra : Enc (cStruct (cCons (cInt .i64) (cCons (cInt .i64) (cCons (cInt .i64) (cCons (cInt .i64) (cCons cBool cEnd)))))) eGr :=
  enc_struct (enc_cons (enc_int .i64) (enc_cons (enc_int .i64) (enc_cons (enc_int .i64) (enc_cons (enc_int .i64) (enc_cons enc_bool enc_end)))))
abbrev XSta := List (List XTab) × List Gr × List Int × Unit
def saOf (x : XSta) : Sta := ⟨x.1.map fun l => l.map tbOf, x.2.1, x.2.2.1⟩
abbrev cSta : Cd XSta := cStruct (cCons (cArr 3 (cArr 2 cTab)) (cCons (cSlice (cStruct (cCons (cInt .i64) (cCons (cInt .i64) (cCons (cInt .i64) (cCons (cInt .i64) (cCons cBool cEnd))))))) (cCons (cArr 3 (cInt .i64)) cEnd)))
theorem encSta : Enc cSta (fun x => eSta (saOf x)) :=
  (enc_struct (enc_cons (enc_arr 3 (enc_arr 2 encTab)) (enc_cons (enc_slice encGra) (enc_cons (enc_arr 3 (enc_int .i64)) enc_end)))).of fun {w S cs x} _ => by
    unfold eSta saOf eTs eLst eGrs
    simp only [List.map_map, List.append_nil, List.singleton_append, Function.comp_def]
    have : ∀ l : List Int, (l.map fun x => [E.v (.int .i64 x)]).flatten = l.map eI := fun l => by
      induction l with
      | nil => rfl
      | cons a l ih => rw [List.map_cons, List.flatten_cons, ih]; rfl
    simp only [this]
theorem okSta {w : World} {S : Nat → Prop} {cs : List Value} {x : XSta} (h : cSta.rel w S cs x) : (saOf x).ok := by
  obtain ⟨_, _, rfl, h1, _, _, rfl, _, _, _, rfl, h3, _⟩ := h
  have ha := arr_all (c := cArr 2 cTab) (Q := fun l => l.length = 2 ∧ ∀ y ∈ l, (tbOf y).ok) (fun hd => arr_all (Q := fun y => (tbOf y).ok) okTab hd) h1
  have hb := arr_all (c := cInt .i64) (Q := fun _ => True) (fun _ => trivial) h3
  refine ⟨?_, ?_, ?_, hb.1⟩
  · show (x.1.map _).length = 3
    rw [List.length_map, ha.1]
  · intro l hl
    obtain ⟨l', hl', rfl⟩ := List.mem_map.1 hl
    rw [List.length_map]
    exact (ha.2 l' hl').1
  · intro l hl t ht
    obtain ⟨l', hl', rfl⟩ := List.mem_map.1 hl
    obtain ⟨t', ht', rfl⟩ := List.mem_map.1 ht
    exact (ha.2 l' hl').2 t' ht'
end Go.Proofs.YtphaholcndhonaaDoor
