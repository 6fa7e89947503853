/- Queries as arguments. No condition. -/
import Derived.Test.YtjabmeffgbaglaaDoorEncX
import Derived.Test.YtjabmeffgbaglaaDoorEncC
import Derived.Test.YtjabmeffgbaglaaDoorTQuA
namespace Go.Proofs.YtjabmeffgbaglaaDoor
open Go Go.RowKit Go.Proofs.YtjabmeffgbaglaaDoor.Ab
abbrev XItm := Int × Ex × Unit
def itOf (x : XItm) : Itm := ⟨x.1, x.2.1⟩
abbrev cItm : Cd XItm := cStruct (cCons (cInt .i64) (cCons cEx cEnd))
theorem eItm_eq (t : Itm) : eItm t = [E.v (.int .i64 t.a)] ++ (eEx t.x ++ []) := by rw [eEx_eq]; rfl
theorem encItm : Enc cItm (fun x => eItm (itOf x)) :=
 (enc_struct (enc_cons (enc_int .i64) (enc_cons encExpr enc_end))).of fun {_ _ _ x} _ => (eItm_eq (itOf x)).symm
theorem okItm {w : World} {S : Nat → Prop} {cs : List Value} {x : XItm} (h : cItm.rel w S cs x) : exOk (itOf x).x := by
 obtain ⟨_, _, rfl, _, _, _, rfl, h1, _⟩ := h
 exact okEx h1
abbrev XSo := Int × Bool × Unit
def soOf (x : XSo) : QSo := ⟨x.1, x.2.1⟩
abbrev cSo : Cd XSo := cStruct (cCons (cInt .i64) (cCons cBool cEnd))
theorem encSo : Enc cSo (fun x => eSrt (soOf x)) := enc_struct (enc_cons (enc_int .i64) (enc_cons enc_bool enc_end))
abbrev XQry := List XItm × Ex × ByteArray × List XSo × Bool × Int × Unit
def quOf (x : XQry) : Qry := ⟨x.1.map itOf, x.2.1, x.2.2.1.data.toList, x.2.2.2.1.map soOf, x.2.2.2.2.1, x.2.2.2.2.2.1⟩
abbrev cQry : Cd XQry := cStruct (cCons (cSlice cItm) (cCons cEx (cCons cStr (cCons (cSlice cSo) (cCons cBool (cCons (cInt .i64) cEnd))))))
theorem encQry : Enc cQry (fun x => eQry (quOf x)) :=
 (enc_struct (enc_cons (enc_slice encItm) (enc_cons encExpr (enc_cons enc_str (enc_cons (enc_slice encSo) (enc_cons enc_bool (enc_cons (enc_int .i64) enc_end))))))).of fun {_ _ _ x} _ => by
  show [E.sl (x.1.map fun x => eItm (itOf x))] ++ (eEx x.2.1 ++ _) = eQry (quOf x)
  unfold eQry quOf
  rw [eEx_eq, List.map_map, List.map_map]
  rfl
theorem okQry {w : World} {S : Nat → Prop} {cs : List Value} {x : XQry} (h : cQry.rel w S cs x) : (quOf x).ok := by
 obtain ⟨_, _, rfl, h1, _, _, rfl, h2, _, _, rfl, h3, _, _, rfl, h4, _⟩ := h
 refine ⟨okEx h2, ?_, ?_, ?_⟩
 ·intro t ht
  obtain ⟨y, hy, rfl⟩ := List.mem_map.1 ht
  exact slice_all okItm h1 y hy
 ·show (x.1.map _).length ≤ _
  rw [List.length_map]
  exact slice_len h1
 ·show (x.2.2.2.1.map _).length ≤ _
  rw [List.length_map]
  exact slice_len h4
end Go.Proofs.YtjabmeffgbaglaaDoor
