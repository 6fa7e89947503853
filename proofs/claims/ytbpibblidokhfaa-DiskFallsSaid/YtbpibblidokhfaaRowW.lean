/- Structs and arrays by value, of whatever number of cells: out of a slice, into a variable of the call's own. No condition. -/
import Derived.Test.YtbpibblidokhfaaMem
import Derived.Deep.MidRow
import Derived.Deep.WholeRow
import Derived.Handy
namespace Go.Proofs.Ytbpibblidokhfaa
open Go.ChangeShapes Go.WideShapes Go.ChangeAt Go.RowKit Go.Deep

theorem SlR.elemAt {α : Type} {c : Cd α} {w : World} {S : Nat → Prop} {A : Option Addr} {n : Nat} {xs : List α} (h : SlR c w S A n xs) {i : Nat} (hi : i < n) :
    ∃ b o, A = some ⟨b, o, none⟩ ∧ S b ∧ ∃ x cs, xs[i]? = some x ∧ w.rangeAt b (o + i * c.size) cs ∧ cs.length = c.size ∧ c.rel w S cs x := by
  obtain ⟨b, o, e, hb, hx⟩ := h.2 (by omega)
  have hl : i < xs.length := by have := h.1; omega
  obtain ⟨cs, hat, hr⟩ := hx i xs[i] (List.getElem?_eq_getElem hl)
  exact ⟨b, o, e, hb, xs[i], cs, List.getElem?_eq_getElem hl, hat, c.len hr, hr⟩

theorem rangeAt_below {w w' : World} {B b o : Nat} {cs : List Value} (h : w.rangeAt b o cs) (hb : Below B w w') (hlt : b < B) : w'.rangeAt b o cs :=
  fun j v hv => (hb.cell (p := ⟨b, o + j, none⟩) hlt).trans (h j v hv)

theorem cell_keep {w w' : World} {b i : Nat} {v : Value} (h : w.cell? ⟨b, i, none⟩ = some v) (hb : Below w.heap.size w w') : w'.cell? ⟨b, i, none⟩ = some v :=
  (hb.cell (p := ⟨b, i, none⟩) (block_lt_of_cell h)).trans h

/-- a whole value into the variable that was made last -/
theorem wpList_store_new {P : Program} {w : World} {ops : Array Oper} {rest : List Oper} {o : Oper} {a : Act} {Q : Exit → Act → World → Prop} (hgd : o.guard = none) (ty : TypeId) (x y : Operand) (ho : o.op = .store ty x y)
    (zs cells : Array Value) (hx : a.eval x = .pointer (some ⟨w.heap.size, 0, none⟩)) (hy : a.eval y = .agg cells) (hi : (P.info? ty).map (·.size) = some cells.size) (hold : zs.size = cells.size) (h1 : ∀ v ∈ cells, v.oneCell' = true)
    (h : wpList P ops Q rest (a.put o.dst undef) (w.alloc (.cells cells ty))) : wpList P ops Q (o :: rest) a (w.alloc (.cells zs ty)) :=
  wpList_store_row hgd ty x y ho w.heap.size cells hx hy ty zs (heap_alloc_last w _) hi hold (Array.all_eq_true_iff_forall_mem.2 h1) (by rw [World.setRow_alloc_new]; exact h)

/-- each cell that a codec reads is one cell -/
def OneC {α : Type} (c : Cd α) : Prop := ∀ (w : World) (S : Nat → Prop) (cs : List Value) (x : α), c.rel w S cs x → ∀ v ∈ cs, v.oneCell' = true
theorem one_int (k : IntKind) : OneC (cInt k) := fun _ _ cs x h v hv => by obtain ⟨rfl, _⟩ := h; simp at hv; subst hv; rfl
theorem one_byte : OneC cByte := fun _ _ cs x h v hv => by
  have h : cs = _ := h
  subst h; simp at hv; subst hv; rfl
theorem one_bool : OneC cBool := fun _ _ cs x h v hv => by
  have h : cs = _ := h
  subst h; simp at hv; subst hv; rfl
theorem one_str : OneC cStr := fun _ _ cs x h v hv => by obtain ⟨rfl, _⟩ := h; simp at hv; subst hv; rfl
theorem one_slice {α : Type} (c : Cd α) : OneC (cSlice c) := fun _ _ cs x h v hv => by obtain ⟨A, n, cap, rfl, _⟩ := h; simp at hv; subst hv; rfl
theorem one_end : OneC cEnd := fun _ _ cs x h v hv => by
  have h : cs = [] := h
  subst h; cases hv
theorem one_cons {α β : Type} {c : Cd α} {d : Cd β} (hc : OneC c) (hd : OneC d) : OneC (cCons c d) := fun w S cs x h v hv => by
  obtain ⟨l, r, rfl, h1, h2⟩ := h
  rcases List.mem_append.1 hv with hv | hv
  · exact hc w S l _ h1 v hv
  · exact hd w S r _ h2 v hv
theorem one_struct {α : Type} {c : Cd α} (hc : OneC c) : OneC (cStruct c) := hc
theorem one_arr {α : Type} {c : Cd α} (n : Nat) (hc : OneC c) : OneC (cArr n c) := fun w S cs x h v hv => by
  obtain ⟨hl, hxl, hx⟩ := h
  obtain ⟨j, hj, rfl⟩ := List.getElem_of_mem hv
  have hs : 0 < c.size := by
    rcases Nat.eq_zero_or_pos c.size with h0 | h0
    · rw [h0] at hl; simp at hl; subst hl; simp at hj
    · exact h0
  have hi : j / c.size < n := by
    rw [Nat.div_lt_iff_lt_mul hs]
    omega
  have h1 := hx (j / c.size) (x[j / c.size]'(by omega)) (List.getElem?_eq_getElem _)
  refine hc w S _ _ h1 _ ?_
  have hm : j % c.size < c.size := Nat.mod_lt _ hs
  have he : j / c.size * c.size + j % c.size = j := Nat.div_add_mod' _ _
  refine List.mem_of_getElem? (i := j % c.size) ?_
  rw [List.getElem?_take, if_pos hm, List.getElem?_drop, he, List.getElem?_eq_getElem hj]
end Go.Proofs.Ytbpibblidokhfaa
