/- Append of elements of whatever number of cells, onto a row of the call's own; a store into the midst of such a row. No condition. -/
import Derived.Test.YtbpibblidokhfaaRowW
import Derived.Laws.CopyOwn
namespace Go.Proofs.Ytbpibblidokhfaa
open Go.ChangeShapes Go.WideShapes Go.ChangeAt Go.RowKit Go.Deep

section
variable {α : Type} {P : Program}
/-- the cells cs, one element's behind the other's -/
def Chunks (c : Cd α) (w : World) (S : Nat → Prop) (cs : List Value) (xs : List α) : Prop :=
  cs.length = xs.length * c.size ∧ ∀ i x, xs[i]? = some x → c.rel w S ((cs.drop (i * c.size)).take c.size) x
theorem Chunks.nil (c : Cd α) (w : World) (S : Nat → Prop) : Chunks c w S [] [] := ⟨by simp, fun i x h => by simp at h⟩
theorem Chunks.one {c : Cd α} {w : World} {S : Nat → Prop} {cs : List Value} {x : α} (h : c.rel w S cs x) : Chunks c w S cs [x] := by
  have hl := c.len h
  refine ⟨by simp [hl], fun i y hi => ?_⟩
  cases i with
  | zero =>
    simp only [List.getElem?_cons_zero, Option.some.injEq] at hi
    subst hi
    rw [Nat.zero_mul, List.drop_zero, List.take_of_length_le (by omega)]
    exact h
  | succ i => simp at hi
theorem Chunks.app {c : Cd α} {w : World} {S : Nat → Prop} {cs ds : List Value} {xs ys : List α} (h : Chunks c w S cs xs) (k : Chunks c w S ds ys) : Chunks c w S (cs ++ ds) (xs ++ ys) := by
  refine ⟨by rw [List.length_append, List.length_append, h.1, k.1, Nat.add_mul], fun i x hi => ?_⟩
  by_cases hlt : i < xs.length
  · rw [List.getElem?_append_left hlt] at hi
    have hle : i * c.size + c.size ≤ cs.length := by rw [h.1, ← Nat.succ_mul]; exact Nat.mul_le_mul_right _ hlt
    rw [List.drop_append_of_le_length (by omega), List.take_append_of_le_length (by rw [List.length_drop]; omega)]
    exact h.2 i x hi
  · rw [List.getElem?_append_right (by omega)] at hi
    have he : i * c.size = cs.length + (i - xs.length) * c.size := by rw [h.1, ← Nat.add_mul]; congr 1; omega
    rw [he, List.drop_append, List.drop_of_length_le (by omega), List.nil_append, Nat.add_sub_cancel_left]
    exact k.2 _ x hi
theorem Chunks.keep {c : Cd α} {w w' : World} {S : Nat → Prop} {cs : List Value} {xs : List α} (h : Chunks c w S cs xs) (hk : ∀ p : Addr, S p.block → w'.cell? p = w.cell? p) : Chunks c w' S cs xs := ⟨h.1, fun i x hi => c.keep (h.2 i x hi) hk⟩
theorem Chunks.more {c : Cd α} {w : World} {S S' : Nat → Prop} {cs : List Value} {xs : List α} (h : Chunks c w S cs xs) (hS : ∀ b, S b → S' b) : Chunks c w S' cs xs := ⟨h.1, fun i x hi => c.more (h.2 i x hi) hS⟩
theorem Chunks.below {c : Cd α} {w w' : World} {B : Nat} {cs : List Value} {xs : List α} (h : Chunks c w (lt B) cs xs) (hb : Below B w w') : Chunks c w' (lt B) cs xs := h.keep fun _ hp => hb.cell hp

/-- the cells of the elements of a slice -/
theorem SlR.cells {c : Cd α} {w : World} {S : Nat → Prop} {A : Option Addr} {n : Nat} {xs : List α} (h : SlR c w S A n xs) : ∃ cs, Chunks c w S cs xs ∧ (0 < n → ∃ b o, A = some ⟨b, o, none⟩ ∧ S b ∧ w.rangeAt b o cs) := by
  rcases Nat.eq_zero_or_pos n with h0 | h0
  · subst h0
    obtain rfl : xs = [] := List.eq_nil_of_length_eq_zero h.1
    exact ⟨[], Chunks.nil _ _ _, fun h => absurd h (by omega)⟩
  · obtain ⟨b, o, rfl, hb, hx⟩ := h.2 h0
    have key : ∀ k, k ≤ xs.length → ∃ cs, Chunks c w S cs (xs.take k) ∧ w.rangeAt b o cs := by
      intro k
      induction k with
      | zero => exact fun _ => ⟨[], Chunks.nil _ _ _, fun j u hu => by simp at hu⟩
      | succ k ih =>
        intro hk
        obtain ⟨cs, h1, h2⟩ := ih (by omega)
        obtain ⟨ds, h3, h4⟩ := hx k xs[k] (List.getElem?_eq_getElem (by omega))
        refine ⟨cs ++ ds, ?_, fun j u hu => ?_⟩
        · rw [List.take_add_one, List.getElem?_eq_getElem (by omega)]
          exact h1.app (Chunks.one h4)
        · have hl : cs.length = k * c.size := by rw [h1.1, List.length_take, Nat.min_eq_left (by omega)]
          by_cases hj : j < cs.length
          · rw [List.getElem?_append_left hj] at hu
            exact h2 j u hu
          · rw [List.getElem?_append_right (by omega)] at hu
            have := h3 _ u hu
            rw [← this]
            congr 2
            omega
    obtain ⟨cs, h1, h2⟩ := key xs.length (Nat.le_refl _)
    rw [List.take_length] at h1
    exact ⟨cs, h1, fun _ => ⟨b, o, rfl, hb, h2⟩⟩

theorem Chunks.oneC {c : Cd α} {w : World} {S : Nat → Prop} {cs : List Value} {xs : List α} (h : Chunks c w S cs xs) (h1 : OneC c) : ∀ v ∈ cs, v.oneCell' = true := fun v hv => by
  obtain ⟨j, hj, rfl⟩ := List.getElem_of_mem hv
  have hs : 0 < c.size := by
    rcases Nat.eq_zero_or_pos c.size with h0 | h0
    · have := h.1; rw [h0] at this; omega
    · exact h0
  have hi : j / c.size < xs.length := by
    rw [Nat.div_lt_iff_lt_mul hs, ← h.1]
    exact hj
  refine h1 w S _ _ (h.2 (j / c.size) (xs[j / c.size]) (List.getElem?_eq_getElem _)) _ ?_
  have hm : j % c.size < c.size := Nat.mod_lt _ hs
  have he : j / c.size * c.size + j % c.size = j := Nat.div_add_mod' _ _
  refine List.mem_of_getElem? (i := j % c.size) ?_
  rw [List.getElem?_take, if_pos hm, List.getElem?_drop, he, List.getElem?_eq_getElem hj]

/-- a slice as what is appended -/
theorem src_slr {tx e' : TypeId} (hk : P.underlying tx = some (.slice e')) {c : Cd α} (h1 : OneC c) {w : World} {S : Nat → Prop} {A : Option Addr} {m cap : Nat} {xs : List α} (h : SlR c w S A m xs) :
    ∃ news, Src P c.size tx (.slice A m cap) m news w ∧ Chunks c w S news xs := by
  obtain ⟨cs, hc, hat⟩ := h.cells
  refine ⟨cs, ?_, hc⟩
  rcases Nat.eq_zero_or_pos m with h0 | h0
  · subst h0
    obtain rfl : xs = [] := List.eq_nil_of_length_eq_zero h.1
    obtain rfl : cs = [] := List.eq_nil_of_length_eq_zero (by rw [hc.1]; simp)
    rcases A with _ | ad
    · exact Src.ofNil w hk cap
    · exact Src.ofSlice w hk ad 0 cap [] (by simp) (fun j u hu => by simp at hu) (fun u hu => by cases hu)
  · obtain ⟨b, o, rfl, hb, hat⟩ := hat h0
    exact Src.ofSlice w hk _ m cap cs (by rw [hc.1, h.1]) (fun j u hu => by rw [Addr.add_lit]; exact hat j u hu) (hc.oneC h1)

/-- a row of the call's own, its elements read beside its own block -/
def OwnC (c : Cd α) (w : World) (base : Nat) (e : TypeId) (v : Value) (cs : List Value) (xs : List α) : Prop :=
  w.ownsRow base e c.size v xs.length cs ∧ Chunks c w (fun b => b < w.heap.size ∧ v.ownBlock ≠ some b) cs xs
theorem OwnC.ownR {c : Cd α} {w : World} {base : Nat} {e : TypeId} {v : Value} {cs : List Value} {xs : List α} (h : OwnC c w base e v cs xs) : OwnR c w base e v xs := ⟨xs.length, cs, h.1, rfl, h.2.2⟩
theorem OwnC.nil (c : Cd α) {w : World} {base : Nat} {e : TypeId} {v : Value} (h : w.ownsRow base e c.size v 0 []) : OwnC c w base e v [] [] := ⟨h, Chunks.nil _ _ _⟩
/-- onto such a row other elements have been appended, that lie below the base -/
theorem OwnC.app {c : Cd α} {w w' : World} {base : Nat} {e : TypeId} {v v' : Value} {cs news : List Value} {xs ys : List α} {m : Nat} (h : OwnC c w base e v cs xs) (hn : Chunks c w (fun b => b < w.heap.size ∧ v.ownBlock ≠ some b) news ys) (hm : m = ys.length)
    (hown : w'.ownsRow base e c.size v' (xs.length + m) (cs ++ news)) (hg : w.grownBy w' v.ownBlock) (hat : v'.ownBlock = v.ownBlock ∨ v'.ownBlock = some w.heap.size) : OwnC c w' base e v' (cs ++ news) (xs ++ ys) := by
  refine ⟨by rw [List.length_append, ← hm]; exact hown, ?_⟩
  have hk : ∀ p : Addr, (p.block < w.heap.size ∧ v.ownBlock ≠ some p.block) → w'.cell? p = w.cell? p := fun p hp => World.cell?_of_block (w := w) (hg.block p.block hp.1 (fun e => hp.2 e.symm))
  have hS : ∀ b, (b < w.heap.size ∧ v.ownBlock ≠ some b) → (b < w'.heap.size ∧ v'.ownBlock ≠ some b) := fun b hb => by
    refine ⟨Nat.lt_of_lt_of_le hb.1 hg.size, ?_⟩
    rcases hat with h1 | h1
    · rw [h1]; exact hb.2
    · rw [h1]
      intro he
      have := Option.some.inj he
      omega
  exact ((h.2.app hn).keep hk).more hS
/-- elements that lie below the base lie beside the row's own block -/
theorem Chunks.own {c : Cd α} {w : World} {base : Nat} {v : Value} {cs : List Value} {xs : List α} (h : Chunks c w (lt base) cs xs) (hb : base ≤ w.heap.size) (hv : ∀ q, v.ownBlock = some q → base ≤ q) : Chunks c w (fun b => b < w.heap.size ∧ v.ownBlock ≠ some b) cs xs :=
  h.more fun b hl => ⟨Nat.lt_of_lt_of_le hl hb, fun e => by have := hv b e; unfold lt at hl; omega⟩
end
end Go.Proofs.Ytbpibblidokhfaa
