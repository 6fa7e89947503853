/- Trees as arguments. No condition. -/
import Derived.Test.YtphaholcndhonaaDoorAbEnc
import Derived.Test.YtphaholcndhonaaDoorRZA
namespace Go.Proofs.YtphaholcndhonaaDoor.Tr
open Go Go.RowKit Go.Proofs.YtphaholcndhonaaDoor.Ab

abbrev XNd := List ByteArray × List Int × List Int × Unit
def ndOf (x : XNd) : Nd := ⟨x.1.map fun b => b.data.toList, x.2.1, x.2.2.1⟩
abbrev cNd : Cd XNd := cStruct (cCons (cSlice cStr) (cCons (cSlice (cInt .i64)) (cCons (cSlice (cInt .i64)) cEnd)))
theorem encNd : Enc cNd (fun x => eNd (ndOf x)) :=
  (enc_struct (enc_cons (enc_slice enc_str) (enc_cons (enc_slice (enc_int .i64)) (enc_cons (enc_slice (enc_int .i64)) enc_end)))).of fun {_ _ _ x} _ => by
    unfold eNd ndOf eKs
    rw [List.map_map]
    rfl
abbrev XTree := List XNd × Unit
def trOf (x : XTree) : List Nd := x.1.map ndOf
abbrev cTree : Cd XTree := cStruct (cCons (cSlice cNd) cEnd)
theorem encTree : Enc cTree (fun x => eTr (trOf x)) :=
  (enc_struct (enc_cons (enc_slice encNd) enc_end)).of fun {_ _ _ x} _ => by
    unfold eTr trOf
    rw [List.map_map]
    rfl
theorem lenNd {w : World} {S : Nat → Prop} {cs : List Value} {x : XNd} (h : cNd.rel w S cs x) : (ndOf x).k.length ≤ maxLen := by
  obtain ⟨_, _, rfl, h1, _⟩ := h
  show (x.1.map _).length ≤ _
  rw [List.length_map]
  exact slice_len h1
theorem lenTree {w : World} {S : Nat → Prop} {cs : List Value} {x : XTree} (h : cTree.rel w S cs x) : ∀ i, ((trOf x).getD i nd0).k.length ≤ maxLen := by
  obtain ⟨_, _, rfl, h1, _⟩ := h
  intro i
  have hall : ∀ n ∈ trOf x, n.k.length ≤ maxLen := fun n hn => by
    obtain ⟨y, hy, rfl⟩ := List.mem_map.1 hn
    exact slice_all lenNd h1 y hy
  by_cases hi : i < (trOf x).length
  · rw [List.getD_eq_getElem?_getD, List.getElem?_eq_getElem hi]
    exact hall _ (List.getElem_mem hi)
  · rw [List.getD_eq_getElem?_getD, List.getElem?_eq_none (Nat.le_of_not_lt hi)]
    exact Nat.zero_le _
theorem encKy : Enc cStr (fun x => [eKy x.data.toList]) := enc_str
theorem lenKy {w : World} {S : Nat → Prop} {cs : List Value} {x : ByteArray} (h : cStr.rel w S cs x) : x.data.toList.length ≤ maxLen := by
  obtain ⟨_, h1⟩ := h
  exact h1
end Go.Proofs.YtphaholcndhonaaDoor.Tr
