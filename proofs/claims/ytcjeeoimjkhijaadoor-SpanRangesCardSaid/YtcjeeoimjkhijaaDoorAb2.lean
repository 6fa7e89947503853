/- The operations that only read: what each yields of abstract values, proved of the model. No condition. -/
import Derived.Test.YtcjeeoimjkhijaaDoorAb1
import Derived.Laws.StructEq
namespace Go.Proofs.YtcjeeoimjkhijaaDoor.Ab
open Go Go.RowKit

/-! ### The types, as a table -/
inductive K where
  | slice (e : Nat)
  | arr (n e : Nat)
  | struct (fs : List (Nat × Nat))
  | str
  | int (k : IntKind)
  | bool
  | ptr (e : Nat)
  | other
structure TI where
  size : Nat
  bytes : Nat
  k : K
  zero : List Value

def K.agg : K → Bool
  | .arr .. | .struct _ => true
  | _ => false

def KOk : K → TypeDesc → Prop
  | .slice e, d => d = .slice e
  | .arr n e, d => d = .array n e
  | .struct fs, d => ∃ F : Array Field, d = .struct F ∧ F.toList.map (fun f => (f.offset, f.type)) = fs
  | .str, d => d = .string
  | .int k, d => d = .int k
  | .bool, d => d = .bool
  | .ptr e, d => d = .pointer e
  | .other, d => (∀ F, d ≠ .struct F) ∧ (∀ n e, d ≠ .array n e) ∧ (∀ e, d ≠ .slice e) ∧ d ≠ .string

/-- a wide type whose parts are compared one by one -/
def EqTy (P : Program) (t : Nat) (d : TypeDesc) : Prop :=
  P.stoodInHeld t = false ∧ P.eqGuardType P.depth t = false ∧ ∀ F, d = .struct F → ∀ f ∈ F.toList, f.name ≠ "_"
structure TIOk (P : Program) (t : Nat) (ti : TI) : Prop where
  out : ∃ i d z, P.info? t = some i ∧ P.underlying t = some d ∧ i.size = ti.size ∧ i.bytes = ti.bytes ∧ KOk ti.k d ∧ i.zero = some z ∧ z.cells.toList = ti.zero ∧ ∀ u ∈ ti.zero, u.oneCell' = true
  len : ti.zero.length = ti.size
  wide : ti.k.agg = true → ∀ d, P.underlying t = some d → EqTy P t d

def TOk (P : Program) (T : Nat → Option TI) : Prop := ∀ t ti, T t = some ti → TIOk P t ti

section
variable {P : Program} {t : Nat} {ti : TI} (w : World)
theorem TIOk.size (h : TIOk P t ti) : (sizeOf t).run P w = .ok ti.size w := by
  obtain ⟨i, d, z, h1, _, h3, _⟩ := h.out
  simp [sizeOf, typeInfo, h1, h3]
theorem TIOk.isAgg (h : TIOk P t ti) : (isAgg t).run P w = .ok ti.k.agg w := by
  obtain ⟨i, d, z, _, h2, _, _, h5, _⟩ := h.out
  have hu := run_underlying h2 (w := w)
  unfold Go.isAgg
  simp only [Sem.run_bind, hu, Result.andThen_ok]
  cases hk : ti.k with
  | struct fs => rw [hk] at h5; obtain ⟨F, rfl, _⟩ := h5; rfl
  | arr n e => rw [hk] at h5; rw [show d = .array n e from h5]; rfl
  | slice e => rw [hk] at h5; rw [show d = .slice e from h5]; rfl
  | str => rw [hk] at h5; rw [show d = .string from h5]; rfl
  | int k => rw [hk] at h5; rw [show d = .int k from h5]; rfl
  | bool => rw [hk] at h5; rw [show d = .bool from h5]; rfl
  | ptr e => rw [hk] at h5; rw [show d = .pointer e from h5]; rfl
  | other =>
    rw [hk] at h5
    obtain ⟨h6, h7, _⟩ := h5
    cases d with
    | struct F => exact absurd rfl (h6 F)
    | array n e => exact absurd rfl (h7 n e)
    | _ => rfl
end

/-! ### What is behind an address -/
def cellsAt (w : World) (b o : Nat) (vs : List Value) : Prop := ∀ (j : Nat) u, vs[j]? = some u → w.cell? ⟨b, o + j, none⟩ = some u

theorem add_at (b o j : Nat) : (⟨b, o, none⟩ : Addr).add j = ⟨b, o + j, none⟩ := by
  unfold Addr.add
  split <;> simp_all

section
variable {P : Program} {t : Nat} {ti : TI} {w : World}
theorem run_load_agg (h : TIOk P t ti) (ha : ti.k.agg = true) {b o : Nat} {vs : List Value} (hl : vs.length = ti.size) (hc : cellsAt w b o vs) :
    (Instr.loadAt t (.pointer (some ⟨b, o, none⟩))).run P w = .ok (.agg vs.toArray) w := by
  have hcl := run_loadCells_list (P := P) w ⟨b, o, none⟩ vs (fun j v hv => by rw [add_at]; exact hc j v hv)
  rw [hl] at hcl
  simp [Instr.loadAt, Instr.sureAddr, loadVar, h.isAgg, h.size, ha, hcl]
theorem run_load_one (h : TIOk P t ti) (ha : ti.k.agg = false) {b o : Nat} {u : Value} (hc : w.cell? ⟨b, o, none⟩ = some u) :
    (Instr.loadAt t (.pointer (some ⟨b, o, none⟩))).run P w = .ok u w := by
  simp [Instr.loadAt, Instr.sureAddr, loadVar, h.isAgg, ha, hc]
end

/-! ### A cell, read at its type -/
def E.int : E → Int
  | .v (.int _ n) => n
  | _ => 0
def E.str : E → ByteArray
  | .v (.string s) => s
  | _ => .empty
def E.bool : E → Bool
  | .v (.bool b) => b
  | _ => false
def E.xs : E → List (List E)
  | .sl xs => xs
  | _ => []
def E.dflt : E := .sl []
def E.as (k : K) (x : E) : E :=
  match k with
  | .int k => .v (.int k x.int)
  | .str => .v (.string x.str)
  | .bool => .v (.bool x.bool)
  | .slice _ => .sl x.xs
  | _ => x
def D0.as (k : K) : D0 → D0
  | .e x => .e (x.as k)
  | x => x
/-- what is asked for: the cell is of its type -/
def D0.isA (k : K) : D0 → Prop
  | .e x => x.as k = x
  | _ => True
theorem D0.as_eq {k : K} {x : D0} (h : x.isA k) : x.as k = x := by
  cases x with
  | e x => exact congrArg D0.e h
  | _ => rfl

def Cs.len : Cs → Nat
  | .es xs => xs.length
  | .ds xs => xs.length
theorem Cs.len_eq (c : Cs) : c.d0.length = c.len := by cases c <;> simp [Cs.d0, Cs.len]
def Cs.sub (c : Cs) (o n : Nat) : Cs :=
  match c with
  | .es xs => .es ((xs.drop o).take n)
  | .ds xs => .ds ((xs.drop o).take n)
theorem Cs.sub_d0 (c : Cs) (o n : Nat) : (c.sub o n).d0 = (c.d0.drop o).take n := by
  cases c with
  | es xs => simp only [Cs.sub, Cs.d0, List.map_drop, List.map_take]
  | ds xs => rfl
def Cs.at (c : Cs) (o : Nat) : D0 :=
  match c with
  | .es xs => .e (xs.getD o E.dflt)
  | .ds xs => xs.getD o .nil
theorem Cs.at_eq {c : Cs} {o : Nat} (h : o < c.len) : c.d0[o]? = some (c.at o) := by
  cases c with
  | es xs => simp only [Cs.len] at h; simp [Cs.d0, Cs.at, h]
  | ds xs => simp only [Cs.len] at h; simp [Cs.d0, Cs.at, h]

/-- a variable of type ti that begins at cell o -/
def Cs.load (c : Cs) (ti : TI) (o : Nat) : Prop × D :=
  bif ti.k.agg then (o + ti.size ≤ c.len, .agg (c.sub o ti.size))
  else (o < c.len ∧ (c.at o).isA ti.k, .one ((c.at o).as ti.k))

section
variable {P : Program} {t : Nat} {ti : TI} {w : World} {p : Rho} {C : Nat → Nat → Value → Prop}
/-- cells in memory, and what they read as -/
def MemAt (p : Rho) (C : Nat → Nat → Value → Prop) (w : World) (b o : Nat) (xs : List D0) : Prop :=
  ∀ (j : Nat) x, xs[j]? = some x → ∃ u, w.cell? ⟨b, o + j, none⟩ = some u ∧ Rep0 p C w x u

theorem MemAt.list {b o : Nat} {xs : List D0} (h : MemAt p C w b o xs) : ∃ vs, Rep2 p C w xs vs ∧ cellsAt w b o vs := by
  induction xs generalizing o with
  | nil => exact ⟨[], ⟨rfl, fun i x u h => by cases h⟩, fun j u h => by cases h⟩
  | cons x xs ih =>
    obtain ⟨u, h1, h2⟩ := h 0 x rfl
    obtain ⟨vs, h3, h4⟩ := ih (o := o + 1) (fun j y hy => by
      obtain ⟨u, k1, k2⟩ := h (j + 1) y (by simpa using hy)
      exact ⟨u, by rw [show o + 1 + j = o + (j + 1) by omega]; exact k1, k2⟩)
    refine ⟨u :: vs, ⟨by simp [h3.1], fun i y v hy hv => ?_⟩, fun j v hv => ?_⟩
    · cases i with
      | zero => simp at hy hv; subst hy; subst hv; exact h2
      | succ i => exact h3.2 i y v (by simpa using hy) (by simpa using hv)
    · cases j with
      | zero => simp at hv; subst hv; exact h1
      | succ j => rw [show o + (j + 1) = o + 1 + j by omega]; exact h4 j v (by simpa using hv)
theorem MemAt.sub {b o : Nat} {xs : List D0} (h : MemAt p C w b o xs) (k n : Nat) : MemAt p C w b (o + k) ((xs.drop k).take n) := fun j x hx => by
  rw [List.getElem?_take] at hx
  split at hx
  · rw [List.getElem?_drop] at hx
    rw [show o + k + j = o + (k + j) by omega]
    exact h _ x hx
  · cases hx

theorem load_goes (hT : TIOk P t ti) {c : Cs} {b o k : Nat} (hm : MemAt p C w b o c.d0) (hφ : (c.load ti k).1) :
    ∃ v, (Instr.loadAt t (.pointer (some ⟨b, o + k, none⟩))).run P w = .ok v w ∧ RepD p C w (c.load ti k).2 v := by
  unfold Cs.load at *
  cases ha : ti.k.agg with
  | true =>
    simp only [ha, cond_true] at hφ ⊢
    have h1 := hm.sub k ti.size
    rw [← Cs.sub_d0] at h1
    obtain ⟨vs, h2, h3⟩ := h1.list
    refine ⟨_, run_load_agg hT ha ?_ h3, vs, rfl, h2⟩
    rw [← h2.1, Cs.sub_d0, List.length_take, List.length_drop, Cs.len_eq]
    omega
  | false =>
    simp only [ha, cond_false] at hφ ⊢
    obtain ⟨u, h1, h2⟩ := hm k _ (Cs.at_eq hφ.1)
    exact ⟨u, run_load_one hT ha h1, by rw [D0.as_eq hφ.2]; exact h2⟩
end
end Go.Proofs.YtcjeeoimjkhijaaDoor.Ab
