/- Literals of wide parts: a slice literal of elements of whatever cells, a struct literal with all its fields. No condition. -/
import Derived.Test.YtbpibblidokhfaaRowW
import Derived.Great.BuildSlice
namespace Go.Proofs.Ytbpibblidokhfaa
open Go.ChangeShapes Go.WideShapes Go.ChangeAt Go.RowKit Go.Deep

section
variable {P : Program}
/-- a slice literal of parts of s cells each, every place written -/
theorem wpList_lit {ops : Array Oper} {rest : List Oper} {o : Oper} {a : Act} {w : World} {Q : Exit → Act → World → Prop} (hg : o.guard = none) (t : TypeId) (len : Nat) (parts : Array (Nat × Operand)) (ho : o.op = .buildSlice t len parts)
    (e : TypeId) (vs : List Value) (hp : (parts.map fun (i, x) => (i, a.eval x)).toList = (vs.zipIdx 0).map fun x => (x.2, x.1)) (i : TypeInfo) (z : Value) (s : Nat) (hu : P.underlying t = some (.slice e)) (hi : P.info? e = some i) (hz : i.zero = some z) (hsize : i.size = s)
    (hs : 0 < s) (h1 : ∀ v ∈ vs, v.cells.size = s) (hl : vs.length = len) (hpos : 0 < len) (hsmall : len * s ≤ 16777216)
    (h : wpList P ops Q rest (a.put o.dst (.slice (some ⟨w.heap.size, 0, none⟩) len len)) (w.alloc (.cells (vs.flatMap fun v => v.cells.toList).toArray e))) : wpList P ops Q (o :: rest) a w := by
  subst hsize
  refine wpList_buildSlice hg t e len parts ho _ i z hu hi hz (by omega) (Nat.ne_of_gt (Nat.mul_pos hpos hs)) ?_ h
  rw [hp]
  refine Great.fill_whole hs vs _ h1 ?_
  rw [hl]
  simp

/-- a slice literal of one wide part -/
theorem wpList_lit1 {ops : Array Oper} {rest : List Oper} {o : Oper} {a : Act} {w : World} {Q : Exit → Act → World → Prop} (hg : o.guard = none) (t : TypeId) (x : Operand) (ho : o.op = .buildSlice t 1 #[(0, x)])
    (e : TypeId) (cells : Array Value) (hx : a.eval x = .agg cells) (i : TypeInfo) (z : Value) (s : Nat) (hu : P.underlying t = some (.slice e)) (hi : P.info? e = some i) (hz : i.zero = some z) (hsize : i.size = s)
    (hs : 0 < s) (h1 : cells.size = s) (hsmall : s ≤ 16777216)
    (h : wpList P ops Q rest (a.put o.dst (.slice (some ⟨w.heap.size, 0, none⟩) 1 1)) (w.alloc (.cells cells e))) : wpList P ops Q (o :: rest) a w := by
  refine wpList_lit hg t 1 _ ho e [.agg cells] (by simp [hx]) i z s hu hi hz hsize hs (fun v hv => ?_) rfl (by omega) (by omega) ?_
  · simp at hv
    subst hv
    exact h1
  · simpa [Value.cells] using h

/-- parts one behind the other, from place off on -/
def Lies (place : Nat → Option (Nat × Nat)) : Nat → Nat → List Value → Prop
  | _, _, [] => True
  | i, off, v :: vs => place i = some (off, v.cells.size) ∧ Lies place (i + 1) (off + v.cells.size) vs
theorem splice (off : Nat) (l : List Value) (cs : Array Value) (h : off + l.length ≤ cs.size) :
    ((l.zipIdx 0).foldl (fun cs (x : Value × Nat) => cs.setIfInBounds (off + x.2) x.1) cs) = (cs.toList.take off ++ l ++ cs.toList.drop (off + l.length)).toArray := by
  obtain ⟨h1, h2⟩ := Great.foldl_set off l 0 cs
  apply Array.ext_getElem?
  intro k
  rw [h2 k]
  simp only [Nat.add_zero, List.getElem?_toArray]
  have hlen : (cs.toList.take off).length = off := by simp; omega
  by_cases hk : k < off
  · rw [if_neg (by omega), List.append_assoc, List.getElem?_append_left (by omega), List.getElem?_take, if_pos hk]
    simp
  · by_cases hk2 : k < off + l.length
    · rw [if_pos (by omega), List.append_assoc, List.getElem?_append_right (by omega), hlen, List.getElem?_append_left (by omega)]
    · rw [if_neg (by omega), List.getElem?_append_right (by rw [List.length_append]; omega), List.length_append, hlen, List.getElem?_drop]
      rw [show off + l.length + (k - (off + l.length)) = k by omega]
      simp
theorem fill_cat (place : Nat → Option (Nat × Nat)) : ∀ (vs : List Value) (i off : Nat) (pre post : List Value), pre.length = off → Lies place i off vs → post.length = (vs.flatMap fun v => v.cells.toList).length →
    Instr.fill place (pre ++ post).toArray ((vs.zipIdx i).map fun x => (x.2, x.1)) = some (pre ++ vs.flatMap fun v => v.cells.toList).toArray
  | [], i, off, pre, post, hp, _, hl => by
    obtain rfl : post = [] := List.eq_nil_of_length_eq_zero (by simpa using hl)
    simp [Instr.fill]
  | v :: vs, i, off, pre, post, hp, hlies, hl => by
    subst hp
    obtain ⟨h1, h2⟩ := hlies
    simp only [List.flatMap_cons, List.length_append, Array.length_toList] at hl
    simp only [List.zipIdx_cons, List.map_cons]
    unfold Instr.fill
    simp only [h1]
    rw [if_neg (by simp; omega)]
    have hs := splice pre.length v.cells.toList (pre ++ post).toArray (by simp; omega)
    have e : v.cells.zipIdx.foldl (fun cs (x : Value × Nat) => cs.setIfInBounds (pre.length + x.2) x.1) (pre ++ post).toArray = (pre ++ v.cells.toList ++ post.drop v.cells.size).toArray := by
      rw [← Array.foldl_toList, Array.toList_zipIdx, hs]
      congr 1
      show List.take pre.length (pre ++ post) ++ _ ++ List.drop (pre.length + v.cells.toList.length) (pre ++ post) = _
      rw [List.take_left, List.drop_append, List.drop_of_length_le (by omega), List.nil_append, Nat.add_sub_cancel_left]
      rfl
    have hfin := fill_cat place vs (i + 1) (pre.length + v.cells.size) (pre ++ v.cells.toList) (post.drop v.cells.size) (by simp) h2 (by rw [List.length_drop]; omega)
    rw [e, hfin]
    simp

/-- a struct literal with all its fields, one behind the other -/
theorem built_cat {t : TypeId} {fs : Array Field} (hu : P.underlying t = some (.struct fs)) (i : TypeInfo) (z : Value) (hi : P.info? t = some i) (hz : i.zero = some z) (pl : List (Nat × Nat)) (hpl : fs.toList.mapM (fun f => (P.info? f.type).map fun i => (f.offset, i.size)) = some pl)
    (vs : List Value) (hlies : Lies (pl.toArray[·]?) 0 0 vs) (hsz : z.cells.size = (vs.flatMap fun v => v.cells.toList).length) :
    P.built t ((vs.zipIdx 0).map fun x => (x.2, x.1)) = some (vs.flatMap fun v => v.cells.toList).toArray := by
  have hf := fill_cat (pl.toArray[·]?) vs 0 0 [] z.cells.toList rfl hlies (by simpa using hsz)
  simp only [List.nil_append, Array.toArray_toList] at hf
  unfold Program.built
  simp only [hi, hu, hz, hpl]
  exact hf
theorem wpList_struct {ops : Array Oper} {rest : List Oper} {o : Oper} {a : Act} {w : World} {Q : Exit → Act → World → Prop} (hg : o.guard = none) (t : TypeId) (parts : Array (Nat × Operand)) (ho : o.op = .build t parts)
    (vs : List Value) (hp : (parts.map fun (i, x) => (i, a.eval x)).toList = (vs.zipIdx 0).map fun x => (x.2, x.1)) (cells : Array Value) (hb : P.built t ((vs.zipIdx 0).map fun x => (x.2, x.1)) = some cells)
    (h : wpList P ops Q rest (a.put o.dst (.agg cells)) w) : wpList P ops Q (o :: rest) a w := by
  refine wpList_build hg t parts ho (by rw [hp, hb]; rfl) ?_
  rw [hp, hb]
  exact h
end
end Go.Proofs.Ytbpibblidokhfaa
