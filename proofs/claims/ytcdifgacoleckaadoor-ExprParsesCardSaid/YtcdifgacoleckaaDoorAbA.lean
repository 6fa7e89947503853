/- A calculus of abstract states: what slots and own blocks hold is data ('E': scalars; slices as lists of cells); a step of the program is one of abstract states; each rule is proved of the model. No condition. -/
import Derived.WalkKit
import Derived.ProofKit
import Derived.Below
import Derived.Deep.Draws
import Derived.Deep.Quiet
import Derived.Laws.Cells
import Derived.Laws.StructEq
import Derived.MapKept
namespace Go.Proofs.YtcdifgacoleckaaDoor.Ab
open Go Go.RowKit

/-! ### Data, abstract values, states -/
inductive E where
  | v (x : Value)
  | sl (xs : List (List E))
  /-- a pointer to cells that are never written again -/
  | pt (cs : List E)

inductive RepE (C : Nat → Nat → Value → Prop) : E → Value → Prop
  | v (x : Value) (h1 : x.oneCell' = true) : RepE C (.v x) x
  | sl (A : Option Addr) (n cap z b o : Nat) (U : Nat → Nat → Value) (xs : List (List E))
      (hn : xs.length = n) (hc : n ≤ cap) (hm : cap ≤ maxLen) (hA : 0 < n → A = some ⟨b, o, none⟩)
      (hz : ∀ cs ∈ xs, cs.length = z)
      (hC : ∀ i cs j e, xs[i]? = some cs → cs[j]? = some e → C b (o + i * z + j) (U i j))
      (hr : ∀ i cs j e, xs[i]? = some cs → cs[j]? = some e → RepE C e (U i j)) :
      RepE C (.sl xs) (.slice A n cap)
  | pt (b o : Nat) (U : Nat → Value) (cs : List E) (hC : ∀ j e, cs[j]? = some e → C b (o + j) (U j)) (hr : ∀ j e, cs[j]? = some e → RepE C e (U j)) :
      RepE C (.pt cs) (.pointer (some ⟨b, o, none⟩))

theorem RepE.mono {C C' : Nat → Nat → Value → Prop} (h : ∀ b o u, C b o u → C' b o u) {x : E} {v : Value} (hr : RepE C x v) : RepE C' x v := by
  induction hr with
  | v x h1 => exact .v x h1
  | sl A n cap z b o U xs hn hc hm hA hz hC hr ih =>
    exact .sl A n cap z b o U xs hn hc hm hA hz (fun i cs j e h1 h2 => h _ _ _ (hC i cs j e h1 h2)) ih
  | pt b o U cs hC hr ih => exact .pt b o U cs (fun j e h1 => h _ _ _ (hC j e h1)) ih

theorem RepE.one {C : Nat → Nat → Value → Prop} {x : E} {v : Value} (hr : RepE C x v) : v.oneCell' = true := by
  cases hr with
  | v x h1 => exact h1
  | sl => rfl
  | pt => rfl

inductive D0 where
  | e (x : E)
  | nil
  | ptr (id ver off : Nat)
  | rptr (id ver i j : Nat)
  | eptr (cs : List E)
  | own (id ver : Nat)
  | clo (f : Nat) (caps : List (Nat × Nat × Nat))
  | bsl (id ver off z n : Nat)
  | hnd (id ver : Nat)

/-- cells: all of them data, or any -/
inductive Cs where
  | es (xs : List E)
  | ds (xs : List D0)
def Cs.d0 : Cs → List D0
  | .es xs => xs.map .e
  | .ds xs => xs

inductive D where
  | any
  | one (x : D0)
  | agg (c : Cs)
  | tup (xs : List (Bool × Cs))
  | gd (p : Prop) (d : D)

/-- the runes of a text from a place on, each with its width -/
def Runes (s : ByteArray) : Nat → List (Nat × Nat) → Prop
  | pos, [] => s.size ≤ pos
  | pos, x :: r => pos < s.size ∧ Utf8.decode s pos = x ∧ Runes s (pos + x.2) r
/-- an object that is no memory: a walk along a text; a table of numbers by texts -/
inductive Raw where
  | iter (s : ByteArray) (pos : Nat) (l : List (Nat × Nat))
  | smap (l : List (ByteArray × Int))
def mapEnts : Nat → List (ByteArray × Int) → List MapEntry
  | _, [] => []
  | i, (k, v) :: r => { key := .string k, val := .int .i64 v, born := i } :: mapEnts (i + 1) r
def Raw.obj : Raw → Obj
  | .iter s pos _ => .stringIter s pos
  | .smap l => .map (mapEnts 0 l).toArray l.length
def Raw.ok : Raw → Prop
  | .iter s pos l => Runes s pos l
  | .smap _ => True
theorem Raw.obj_ne (o : Raw) : ∀ c e f, o.obj ≠ .cells c e f := by
  cases o with
  | iter s pos l => exact fun c e f h => nomatch h
  | smap l => exact fun c e f h => nomatch h

/-- what an own block holds: a variable, or a row of elements of z cells -/
inductive Body where
  | box (c : Cs)
  | row (z : Nat) (xs : List (List E))
  | raw (o : Raw)
def Body.cells : Body → List D0
  | .box c => c.d0
  | .row _ xs => xs.flatten.map .e
  | .raw _ => []
def Body.shape : Body → Nat × Nat
  | .box c => (0, c.d0.length)
  | .row z xs => (z, xs.length)
  | .raw _ => (0, 0)
def Body.ok : Body → Prop
  | .box _ => True
  | .row z xs => 0 < z ∧ ∀ cs ∈ xs, cs.length = z
  | .raw o => o.ok
/-- what a block holds that stands nowhere yet -/
def Body.okN : Body → Prop
  | .raw _ => False
  | b => b.ok
theorem Body.okN_ok {b : Body} (h : b.okN) : b.ok := by
  cases b with
  | raw o => exact h.elim
  | box c => exact h
  | row z xs => exact h
/-- the object that a block is -/
def Body.obj (b : Body) (cur : Array Value) (e : TypeId) (lo hi : Nat) : Obj := match b with
  | .raw o => o.obj
  | _ => .cells cur e (lo, hi)

structure Blk where
  ver : Nat
  body : Body
  pub : Nat
def Blk.cells (b : Blk) : List D0 := b.body.cells

structure St where
  tm : Nat → D
  mem : Nat → Option Blk

structure Ctx where
  W : World
  I : Nat → Nat → Prop
  nt : Nat
  big : nt ≤ 900000
  /-- a variable of the caller's that may be written -/
  ex : Nat → Prop
  /-- where those stand: what slots from 900000 on point to -/
  xg : Nat → Nat
  /-- what is deferred -/
  df : List Deferred
/-- a block that may be written -/
def Ctx.own (X : Ctx) (b : Nat) : Prop := X.W.heap.size ≤ b ∨ X.ex b
structure BelS (W : World) (ex : Nat → Prop) (w : World) : Prop where
  os : w.os = W.os
  tape : w.tape = W.tape
  output : w.output = W.output
  size : W.heap.size ≤ w.heap.size
  block : ∀ k, k < W.heap.size → ¬ ex k → w.heap[k]? = W.heap[k]?
def Bel (X : Ctx) (w : World) : Prop := BelS X.W X.ex w
theorem Bel.refl (X : Ctx) : Bel X X.W := (⟨rfl, rfl, rfl, Nat.le_refl _, fun _ _ _ => rfl⟩ : BelS X.W X.ex X.W)
theorem Bel.below {X : Ctx} {w w' : World} (h : Bel X w) (k : Below w.heap.size w w') : Bel X w' :=
  (⟨k.os.trans h.os, k.tape.trans h.tape, k.output.trans h.output, Nat.le_trans h.size k.size, fun i hi hx => (k.block i (Nat.lt_of_lt_of_le hi h.size)).trans (h.block i hi hx)⟩ : BelS X.W X.ex w')
theorem Bel.toBelow {X : Ctx} {w : World} (h : Bel X w) (hx : ∀ k, ¬ X.ex k) : Below X.W.heap.size X.W w := ⟨h.os, h.tape, h.output, h.size, fun k hk => h.block k hk (hx k)⟩

/-- what a slot holds; slot 1000000 + g: where variable g of the package stands -/
def slotV (x : Nat → Nat) (tmps : Array Value) (t : Nat) : Value := bif Nat.ble 1000000 t then .pointer (some ⟨t - 1000000, 0, none⟩) else bif Nat.ble 900000 t then .pointer (some ⟨x t, 0, none⟩) else tmps.getD t undef
theorem slotV_lt {x : Nat → Nat} {tmps : Array Value} {t : Nat} (h : t < 900000) : slotV x tmps t = tmps.getD t undef := by
  have e : Nat.ble 1000000 t = false := by
    cases hb : Nat.ble 1000000 t with
    | false => rfl
    | true => have := Nat.le_of_ble_eq_true hb; omega
  have e2 : Nat.ble 900000 t = false := by
    cases hb : Nat.ble 900000 t with
    | false => rfl
    | true => have := Nat.le_of_ble_eq_true hb; omega
  unfold slotV
  rw [e, e2]
  rfl
theorem slotV_glob {x : Nat → Nat} {tmps : Array Value} (g : Nat) : slotV x tmps (1000000 + g) = .pointer (some ⟨g, 0, none⟩) := by
  have e : Nat.ble 1000000 (1000000 + g) = true := Nat.ble_eq_true_of_le (by omega)
  unfold slotV
  rw [e, Nat.add_sub_cancel_left]
  rfl

/-- function values; from 1048576 on: what is held stands ahead of the arguments (a method of a value) -/
def cloV (f : Nat) (vs : List Value) : Value := bif Nat.ble 1048576 f then .func (.func (f - 1048576)) vs.toArray #[] else .func (.func f) #[] vs.toArray
theorem cloV_lt {f : Nat} {vs : List Value} (h : Nat.ble 1048576 f = false) : cloV f vs = .func (.func f) #[] vs.toArray := by
  unfold cloV
  rw [h]
  rfl
theorem cloV_ge {f : Nat} {vs : List Value} : cloV (1048576 + f) vs = .func (.func f) vs.toArray #[] := by
  unfold cloV
  rw [Nat.ble_eq_true_of_le (Nat.le_add_right ..), Nat.add_sub_cancel_left]
  rfl
theorem cloV_one (f : Nat) (vs : List Value) : (cloV f vs).oneCell' = true := by
  unfold cloV
  cases Nat.ble 1048576 f <;> rfl

structure Rho where
  mem : Nat → Option Blk
  μ : Nat → Option Nat

/-- cells that are never written from here on -/
def CW (X : Ctx) (p : Rho) (w : World) (b o : Nat) (u : Value) : Prop :=
  w.cell? ⟨b, o, none⟩ = some u ∧ (¬ X.own b → X.I b o) ∧ (X.own b → ∀ id blk, p.mem id = some blk → p.μ id = some b → o < blk.pub)

def Zb (w : World) (g n : Nat) : Prop := ∃ cur e fr, w.heap[g]? = some (.cells cur e fr) ∧ n ≤ cur.size

def Live (p : Rho) (id ver : Nat) (K : Nat → Prop) : Prop :=
  ∃ blk, p.mem id = some blk ∧ ver ≤ blk.ver ∧ (ver = blk.ver → ∃ g, p.μ id = some g ∧ K g)

def Rep0 (p : Rho) (C : Nat → Nat → Value → Prop) (w : World) : D0 → Value → Prop
  | .e x, v => RepE C x v
  | .nil, v => v = .slice none 0 0
  | .rptr id ver i j, v => v.oneCell' = true ∧ ∃ blk, p.mem id = some blk ∧ ver ≤ blk.ver ∧ (ver = blk.ver → ∃ g, p.μ id = some g ∧ v = .pointer (some ⟨g, i * blk.body.shape.1 + j, none⟩))
  | .ptr id ver off, v => v.oneCell' = true ∧ Live p id ver fun g => v = .pointer (some ⟨g, off, none⟩)
  | .eptr cs, v => ∃ b o, v = .pointer (some ⟨b, o, none⟩) ∧ ∀ j e, cs[j]? = some e → ∃ u, C b (o + j) u ∧ RepE C e u
  | .own id ver, v => v.oneCell' = true ∧ ∃ blk, p.mem id = some blk ∧ ver ≤ blk.ver ∧ (ver = blk.ver → ∃ z n, blk.body.shape = (z, n) ∧ 0 < z ∧ ((n = 0 ∧ ∃ A, v = .slice A 0 0) ∨
      ∃ g cap, p.μ id = some g ∧ v = .slice (some ⟨g, 0, none⟩) n cap ∧ n ≤ cap ∧ cap ≤ maxLen ∧ Zb w g (cap * z)))
  | .clo f caps, v => ∃ vs : List Value, v = cloV f vs ∧ caps.length = vs.length ∧
      ∀ (i : Nat) c u, caps[i]? = some c → vs[i]? = some u → Live p c.1 c.2.1 fun g => u = .pointer (some ⟨g, c.2.2, none⟩)
  | .bsl id ver off z n, v => v.oneCell' = true ∧ ∃ blk, p.mem id = some blk ∧ ver ≤ blk.ver ∧ (ver = blk.ver → 0 < z ∧ off + n * z ≤ blk.body.shape.2 ∧ ∃ g cap, p.μ id = some g ∧ v = .slice (some ⟨g, off, none⟩) n cap ∧ n ≤ cap ∧ cap ≤ maxLen)
  | .hnd id ver, v => v.oneCell' = true ∧ Live p id ver fun g => v = .map (some g)

theorem Rep0.one {p : Rho} {C : Nat → Nat → Value → Prop} {w : World} {x : D0} {v : Value} (h : Rep0 p C w x v) : v.oneCell' = true := by
  cases x with
  | e x => exact RepE.one h
  | nil => rw [show v = .slice none 0 0 from h]; rfl
  | ptr => exact h.1
  | rptr => exact h.1
  | eptr cs => obtain ⟨b, o, rfl, _⟩ := h; rfl
  | own => exact h.1
  | clo f caps => obtain ⟨vs, rfl, _⟩ := h; exact cloV_one _ _
  | bsl => exact h.1
  | hnd => exact h.1

/-- cells, one by one -/
def Rep2 (p : Rho) (C : Nat → Nat → Value → Prop) (w : World) (xs : List D0) (vs : List Value) : Prop :=
  xs.length = vs.length ∧ ∀ (i : Nat) x u, xs[i]? = some x → vs[i]? = some u → Rep0 p C w x u

def RepT (p : Rho) (C : Nat → Nat → Value → Prop) (w : World) (x : Bool × Cs) (v : Value) : Prop :=
  match x with
  | (true, xs) => ∃ vs : List Value, v = .agg vs.toArray ∧ Rep2 p C w xs.d0 vs
  | (false, xs) => Rep2 p C w xs.d0 [v]

def RepD (p : Rho) (C : Nat → Nat → Value → Prop) (w : World) : D → Value → Prop
  | .any, _ => True
  | .one x, v => Rep0 p C w x v
  | .agg xs, v => ∃ vs : List Value, v = .agg vs.toArray ∧ Rep2 p C w xs.d0 vs
  | .tup xs, v => ∃ vs : List Value, v = .tuple vs.toArray ∧ xs.length = vs.length ∧ ∀ (i : Nat) x u, xs[i]? = some x → vs[i]? = some u → RepT p C w x u
  | .gd q d, v => (q → RepD p C w d v) ∧ (¬ q → v = undef)

/-! ### How a reading is kept -/
structure Kept (p : Rho) (C : Nat → Nat → Value → Prop) (w : World) (p' : Rho) (C' : Nat → Nat → Value → Prop) (w' : World) : Prop where
  hC : ∀ b o u, C b o u → C' b o u
  hm : ∀ id blk, p.mem id = some blk → ∃ blk', p'.mem id = some blk' ∧ blk.ver ≤ blk'.ver ∧ (blk.ver = blk'.ver → p'.μ id = p.μ id ∧ blk'.body.shape = blk.body.shape ∧ (0 < blk.body.shape.1 → ∀ g n, p.μ id = some g → Zb w g n → Zb w' g n))
theorem Kept.of {p : Rho} {C : Nat → Nat → Value → Prop} {w : World} {p' : Rho} {C' : Nat → Nat → Value → Prop} {w' : World} (hC : ∀ b o u, C b o u → C' b o u) (hZ : ∀ g n, Zb w g n → Zb w' g n)
    (hm : ∀ id blk, p.mem id = some blk → ∃ blk', p'.mem id = some blk' ∧ blk.ver ≤ blk'.ver ∧ (blk.ver = blk'.ver → p'.μ id = p.μ id ∧ blk'.body.shape = blk.body.shape)) : Kept p C w p' C' w' :=
  ⟨hC, fun id blk h => by
    obtain ⟨b, h1, h2, h3⟩ := hm id blk h
    exact ⟨b, h1, h2, fun e => ⟨(h3 e).1, (h3 e).2, fun _ g n _ => hZ g n⟩⟩⟩

section
variable {p p' : Rho} {C C' : Nat → Nat → Value → Prop} {w w' : World}
theorem Live.kept (h : Kept p C w p' C' w') {id ver : Nat} {K : Nat → Prop} (hl : Live p id ver K) : Live p' id ver K := by
  obtain ⟨blk, h1, h2, h3⟩ := hl
  obtain ⟨blk', e1, e2, e3⟩ := h.hm _ _ h1
  refine ⟨blk', e1, by omega, fun e => ?_⟩
  have hv : blk.ver = blk'.ver := by omega
  obtain ⟨g, hg, hk⟩ := h3 (by omega)
  exact ⟨g, by rw [(e3 hv).1, hg], hk⟩
theorem Rep0.kept (h : Kept p C w p' C' w') {x : D0} {v : Value} (hr : Rep0 p C w x v) : Rep0 p' C' w' x v := by
  cases x with
  | e x => exact RepE.mono h.hC hr
  | nil => exact hr
  | ptr id ver off => exact ⟨hr.1, hr.2.kept h⟩
  | hnd id ver => exact ⟨hr.1, hr.2.kept h⟩
  | rptr id ver i j =>
    obtain ⟨h0, blk, h1, h2, h3⟩ := hr
    obtain ⟨blk', e1, e2, e3⟩ := h.hm _ _ h1
    refine ⟨h0, blk', e1, by omega, fun e => ?_⟩
    have hv : blk.ver = blk'.ver := by omega
    obtain ⟨g, g1, g2⟩ := h3 (by omega)
    exact ⟨g, by rw [(e3 hv).1, g1], by rw [(e3 hv).2.1, g2]⟩
  | eptr cs =>
    obtain ⟨b, o, rfl, hc⟩ := hr
    refine ⟨b, o, rfl, fun j e he => ?_⟩
    obtain ⟨u, h1, h2⟩ := hc j e he
    exact ⟨u, h.hC _ _ _ h1, h2.mono h.hC⟩
  | own id ver =>
    obtain ⟨h0, blk, h1, h2, h3⟩ := hr
    obtain ⟨blk', e1, e2, e3⟩ := h.hm _ _ h1
    refine ⟨h0, blk', e1, by omega, fun e => ?_⟩
    have hv : blk.ver = blk'.ver := by omega
    obtain ⟨z, n, z1, z2, z3⟩ := h3 (by omega)
    refine ⟨z, n, by rw [(e3 hv).2.1, z1], z2, ?_⟩
    rcases z3 with z3 | ⟨g, cap, g1, g2, g3, g4, g5⟩
    · exact .inl z3
    · exact .inr ⟨g, cap, by rw [(e3 hv).1, g1], g2, g3, g4, (e3 hv).2.2 (by rw [z1]; exact z2) _ _ g1 g5⟩
  | clo f caps =>
    obtain ⟨vs, rfl, hl, hc⟩ := hr
    exact ⟨vs, rfl, hl, fun i c u h1 h2 => (hc i c u h1 h2).kept h⟩
  | bsl id ver off z n =>
    obtain ⟨h0, blk, h1, h2, h3⟩ := hr
    obtain ⟨blk', e1, e2, e3⟩ := h.hm _ _ h1
    refine ⟨h0, blk', e1, by omega, fun e => ?_⟩
    have hv : blk.ver = blk'.ver := by omega
    obtain ⟨z1, z2, g, cap, g1, g2⟩ := h3 (by omega)
    exact ⟨z1, by rw [(e3 hv).2.1]; exact z2, g, cap, by rw [(e3 hv).1, g1], g2⟩
theorem Rep2.kept (h : Kept p C w p' C' w') {xs : List D0} {vs : List Value} (hr : Rep2 p C w xs vs) : Rep2 p' C' w' xs vs :=
  ⟨hr.1, fun i x u h1 h2 => (hr.2 i x u h1 h2).kept h⟩
theorem RepT.kept (h : Kept p C w p' C' w') {x : Bool × Cs} {v : Value} (hr : RepT p C w x v) : RepT p' C' w' x v := by
  obtain ⟨b, xs⟩ := x
  cases b with
  | true => obtain ⟨vs, rfl, h1⟩ := hr; exact ⟨vs, rfl, h1.kept h⟩
  | false => exact Rep2.kept h hr
theorem RepD.kept (h : Kept p C w p' C' w') {d : D} {v : Value} (hr : RepD p C w d v) : RepD p' C' w' d v := by
  induction d with
  | any => trivial
  | one x => exact Rep0.kept h hr
  | agg xs => obtain ⟨vs, rfl, h1⟩ := hr; exact ⟨vs, rfl, h1.kept h⟩
  | tup xs => obtain ⟨vs, rfl, hl, hx⟩ := hr; exact ⟨vs, rfl, hl, fun i x u h1 h2 => (hx i x u h1 h2).kept h⟩
  | gd q d ih => exact ⟨fun hq => ih (hr.1 hq), hr.2⟩
end

/-! ### States of the model -/
def BlkOk (X : Ctx) (p : Rho) (w : World) (id : Nat) (blk : Blk) : Prop :=
  match p.μ id with
  | none => blk.cells = [] ∧ blk.pub = 0 ∧ blk.body.okN
  | some g => blk.body.ok ∧ X.own g ∧ (∀ id' blk', p.mem id' = some blk' → p.μ id' = some g → id' = id) ∧ blk.pub ≤ blk.cells.length ∧
      ∃ cur e lo hi, w.heap[g]? = some (blk.body.obj cur e lo hi) ∧ (lo < hi → cur.size ≤ lo) ∧ blk.cells.length ≤ cur.size ∧
        ∀ (i : Nat) x, blk.cells[i]? = some x → ∃ u, cur[i]? = some u ∧ Rep0 p (CW X p w) w x u

theorem obj_of_cell {blk : Blk} {j : Nat} {x : D0} (hx : blk.cells[j]? = some x) (c : Array Value) (e : TypeId) (l h : Nat) : blk.body.obj c e l h = .cells c e (l, h) := by
  obtain ⟨ver, bd, pub⟩ := blk
  cases bd with
  | raw o => cases hx
  | box c => rfl
  | row z xs => rfl
structure RM (X : Ctx) (p : Rho) (w : World) : Prop where
  bel : Bel X w
  blk : ∀ id blk, p.mem id = some blk → BlkOk X p w id blk

def R (X : Ctx) (s : St) (a : Act) (w : World) : Prop :=
  ∃ μ, RM X ⟨s.mem, μ⟩ w ∧ a.tmps.size = X.nt ∧ a.defers = X.df ∧ ∀ t, RepD ⟨s.mem, μ⟩ (CW X ⟨s.mem, μ⟩ w) w (s.tm t) (slotV X.xg a.tmps t)

theorem cell_row {w : World} {b : Nat} {cur : Array Value} {e : TypeId} {fr : Nat × Nat} (h : w.heap[b]? = some (.cells cur e fr)) (o : Nat) : w.cell? ⟨b, o, none⟩ = cur[o]? := by
  simp [World.cell?, h]
theorem cell_some {w : World} {b o : Nat} {u : Value} (h : w.cell? ⟨b, o, none⟩ = some u) : ∃ cur e fr, w.heap[b]? = some (.cells cur e fr) ∧ cur[o]? = some u := by
  unfold World.cell? at h
  split at h
  · rename_i c e fr hh
    exact ⟨c, e, fr, hh, by simpa using h⟩
  · cases h
theorem cell_lt {w : World} {b o : Nat} {u : Value} (h : w.cell? ⟨b, o, none⟩ = some u) : b < w.heap.size := by
  obtain ⟨cur, e, fr, h1, _⟩ := cell_some h
  exact (Array.getElem?_eq_some_iff.1 h1).1

/-! ### The steps of a world -/
section
variable {X : Ctx} {p : Rho} {w : World}
/-- the heap is the same -/
theorem RM.same {w' : World} (h : RM X p w) (hh : w'.heap = w.heap) (h1 : w'.os = w.os) (h2 : w'.tape = w.tape) (h3 : w'.output = w.output) :
    RM X p w' ∧ Kept p (CW X p w) w p (CW X p w') w' := by
  have hc : ∀ a, w'.cell? a = w.cell? a := fun a => by unfold World.cell?; rw [hh]
  have hK : Kept p (CW X p w) w p (CW X p w') w' :=
    Kept.of (fun b o u ⟨k1, k2, k3⟩ => ⟨by rw [hc]; exact k1, k2, k3⟩) (fun g n hz => by unfold Zb at *; rw [hh]; exact hz) (fun id blk hb => ⟨blk, hb, Nat.le_refl _, fun _ => ⟨rfl, rfl⟩⟩)
  refine ⟨⟨⟨h1.trans h.bel.os, h2.trans h.bel.tape, h3.trans h.bel.output, by rw [hh]; exact h.bel.size, fun k hk hx => by rw [hh]; exact h.bel.block k hk hx⟩, fun id blk hb => ?_⟩, hK⟩
  have := h.blk id blk hb
  unfold BlkOk at *
  split
  · rename_i hg; simpa [hg] using this
  · rename_i g hg
    simp only [hg] at this
    obtain ⟨g0, g1, g2, g3, cur, e, lo, hi, g4, g5, g6, g7⟩ := this
    refine ⟨g0, g1, g2, g3, cur, e, lo, hi, by rw [hh]; exact g4, g5, g6, fun i x hx => ?_⟩
    obtain ⟨u, u1, u2⟩ := g7 i x hx
    exact ⟨u, u1, u2.kept hK⟩

/-- a call of a function that leaves all that was there alone -/
theorem RM.call {w' : World} (h : RM X p w) (hb : Below w.heap.size w w') : RM X p w' ∧ Kept p (CW X p w) w p (CW X p w') w' := by
  have hK : Kept p (CW X p w) w p (CW X p w') w' :=
    Kept.of (fun b o u ⟨k1, k2, k3⟩ => ⟨by rw [hb.cell (p := ⟨b, o, none⟩) (cell_lt k1)]; exact k1, k2, k3⟩)
     (fun g n ⟨cur, e, fr, z1, z2⟩ => ⟨cur, e, fr, by rw [hb.block _ (Array.getElem?_eq_some_iff.1 z1).1]; exact z1, z2⟩)
     (fun id blk hb => ⟨blk, hb, Nat.le_refl _, fun _ => ⟨rfl, rfl⟩⟩)
  refine ⟨⟨h.bel.below hb, fun id blk hbk => ?_⟩, hK⟩
  have := h.blk id blk hbk
  unfold BlkOk at *
  split
  · rename_i hg; simpa [hg] using this
  · rename_i g hg
    simp only [hg] at this
    obtain ⟨g0, g1, g2, g3, cur, e, lo, hi, g4, g5, g6, g7⟩ := this
    refine ⟨g0, g1, g2, g3, cur, e, lo, hi, by rw [hb.block _ (Array.getElem?_eq_some_iff.1 g4).1]; exact g4, g5, g6, fun i x hx => ?_⟩
    obtain ⟨u, u1, u2⟩ := g7 i x hx
    exact ⟨u, u1, u2.kept hK⟩

def upd {α : Type} (f : Nat → α) (i : Nat) (x : α) : Nat → α := fun j => bif Nat.beq j i then x else f j
theorem upd_same {α : Type} (f : Nat → α) (i : Nat) (x : α) : upd f i x i = x := by
  simp [upd]
theorem upd_ne {α : Type} (f : Nat → α) {i j : Nat} (x : α) (h : j ≠ i) : upd f i x j = f j := by
  have : Nat.beq j i = false := by
    cases hb : Nat.beq j i with
    | false => rfl
    | true => exact absurd (Nat.eq_of_beq_eq_true hb) h
  simp [upd, this]

/-- a new block -/
theorem RM.alloc {ob : Array Value} {t : TypeId} {lo hi : Nat} {id : Nat} {blk : Blk} (h : RM X p w) (w' : World) (hw : w'.heap = w.heap.push (.cells ob t (lo, hi))) (h1 : w'.os = w.os) (h2 : w'.tape = w.tape) (h3 : w'.output = w.output)
    (hok : blk.body.ok) (hfz : lo < hi → ob.size ≤ lo) (hlen : blk.cells.length ≤ ob.size) (hpub : blk.pub ≤ blk.cells.length)
    (hver : ∀ b, p.mem id = some b → b.ver < blk.ver)
    (hcells : ∀ (i : Nat) x, blk.cells[i]? = some x → ∃ u, ob[i]? = some u ∧ Rep0 p (CW X p w) w x u) (hob : ∀ c e l h, blk.body.obj c e l h = .cells c e (l, h) := by intros; rfl) :
    RM X ⟨upd p.mem id (some blk), upd p.μ id (some w.heap.size)⟩ w' ∧
      Kept p (CW X p w) w ⟨upd p.mem id (some blk), upd p.μ id (some w.heap.size)⟩ (CW X ⟨upd p.mem id (some blk), upd p.μ id (some w.heap.size)⟩ w') w' := by
  have hold : ∀ k, k < w.heap.size → w'.heap[k]? = w.heap[k]? := fun k hk => by rw [hw, Array.getElem?_push, if_neg (by omega)]
  have hcell : ∀ b o, b < w.heap.size → w'.cell? ⟨b, o, none⟩ = w.cell? ⟨b, o, none⟩ := fun b o hb => by unfold World.cell?; simp only [hold b hb]
  have hK : Kept p (CW X p w) w ⟨upd p.mem id (some blk), upd p.μ id (some w.heap.size)⟩ (CW X ⟨upd p.mem id (some blk), upd p.μ id (some w.heap.size)⟩ w') w' := by
    refine Kept.of (fun b o u ⟨k1, k2, k3⟩ => ⟨by rw [hcell _ _ (cell_lt k1)]; exact k1, k2, fun hb id' blk' m1 m2 => ?_⟩) (fun g n ⟨cur, e, fr, z1, z2⟩ => ⟨cur, e, fr, by rw [hold _ (Array.getElem?_eq_some_iff.1 z1).1]; exact z1, z2⟩) (fun id' b hb => ?_)
    · by_cases hi : id' = id
      · subst hi
        simp only [upd_same, Option.some.injEq] at m2
        have := cell_lt k1
        omega
      · simp only [upd_ne _ _ hi] at m1 m2
        exact k3 hb id' blk' m1 m2
    · by_cases hi : id' = id
      · subst hi
        exact ⟨blk, upd_same _ _ _, Nat.le_of_lt (hver _ hb), fun e => absurd e (Nat.ne_of_lt (hver _ hb))⟩
      · exact ⟨b, by simp only [upd_ne _ _ hi]; exact hb, Nat.le_refl _, fun _ => ⟨by simp only [upd_ne _ _ hi], rfl⟩⟩
  refine ⟨⟨⟨h1.trans h.bel.os, h2.trans h.bel.tape, h3.trans h.bel.output, by rw [hw]; simp; have := h.bel.size; omega, fun k hk hx => ?_⟩, fun id' b hb => ?_⟩, hK⟩
  · rw [hold k (Nat.lt_of_lt_of_le hk h.bel.size)]; exact h.bel.block k hk hx
  · by_cases hi : id' = id
    · subst hi
      simp only [upd_same, Option.some.injEq] at hb
      subst hb
      simp only [BlkOk, upd_same]
      refine ⟨hok, .inl h.bel.size, fun id'' b'' q1 q2 => ?_, hpub, ob, t, lo, hi, by rw [hw, hob]; simp, hfz, hlen, fun i x hx => ?_⟩
      · by_cases hj : id'' = id'
        · exact hj
        · simp only [upd_ne _ _ hj] at q1 q2
          have := h.blk id'' b'' q1
          simp only [BlkOk, q2] at this
          obtain ⟨_, _, _, _, cur, e, lo, hi, g4, _⟩ := this
          have := (Array.getElem?_eq_some_iff.1 g4).1
          omega
      · obtain ⟨u, u1, u2⟩ := hcells i x hx
        exact ⟨u, u1, u2.kept hK⟩
    · simp only [upd_ne _ _ hi] at hb
      have := h.blk id' b hb
      unfold BlkOk at *
      simp only [upd_ne _ _ hi]
      split
      · rename_i hg; simpa [hg] using this
      · rename_i g hg
        simp only [hg] at this
        obtain ⟨g0, g1, g2, g3, cur, e, lo, hi', g4, g5, g6, g7⟩ := this
        have hgl := (Array.getElem?_eq_some_iff.1 g4).1
        refine ⟨g0, g1, fun id'' b'' q1 q2 => ?_, g3, cur, e, lo, hi', by rw [hold _ hgl]; exact g4, g5, g6, fun i x hx => ?_⟩
        · by_cases hj : id'' = id
          · subst hj
            simp only [upd_same, Option.some.injEq] at q2
            omega
          · simp only [upd_ne _ _ hj] at q1 q2
            exact g2 id'' b'' q1 q2
        · obtain ⟨u, u1, u2⟩ := g7 i x hx
          exact ⟨u, u1, u2.kept hK⟩

/-- cells of an own block are written: behind what is published -/
theorem RM.write {g : Nat} {cur cur' : Array Value} {t : TypeId} {lo hi : Nat} {id : Nat} {blk blk' : Blk} (h : RM X p w) (w' : World) (hb : p.mem id = some blk) (hμ : p.μ id = some g)
    (hg : w.heap[g]? = some (.cells cur t (lo, hi))) (hg' : w'.heap[g]? = some (.cells cur' t (lo, hi))) (hoth : ∀ k, k ≠ g → w'.heap[k]? = w.heap[k]?) (hsz : w'.heap.size = w.heap.size)
    (h1 : w'.os = w.os) (h2 : w'.tape = w.tape) (h3 : w'.output = w.output) (hcs : cur'.size = cur.size)
    (hpre : ∀ o, o < blk.pub → cur'[o]? = cur[o]?) (hp1 : blk.pub ≤ blk'.pub) (hp2 : blk'.pub ≤ blk'.cells.length) (hlen : blk'.cells.length ≤ cur.size)
    (hok : blk'.body.ok) (hver : blk.ver ≤ blk'.ver) (hvl : blk.ver = blk'.ver → blk'.body.shape = blk.body.shape)
    (hcells : ∀ (i : Nat) x, blk'.cells[i]? = some x → ∃ u, cur'[i]? = some u ∧ Rep0 p (CW X p w) w x u) (hob : ∀ c e l h, blk.body.obj c e l h = .cells c e (l, h) := by intros; rfl) (hob' : ∀ c e l h, blk'.body.obj c e l h = .cells c e (l, h) := by intros; rfl) :
    RM X ⟨upd p.mem id (some blk'), p.μ⟩ w' ∧ Kept p (CW X p w) w ⟨upd p.mem id (some blk'), p.μ⟩ (CW X ⟨upd p.mem id (some blk'), p.μ⟩ w') w' := by
  have hb0 := h.blk id blk hb
  simp only [BlkOk, hμ] at hb0
  obtain ⟨b0, b1, b2, b3, cur0, e0, lo0, hi0, b4, b5, b6, b7⟩ := hb0
  rw [hg, hob] at b4
  simp only [Option.some.injEq, Obj.cells.injEq, Prod.mk.injEq] at b4
  obtain ⟨rfl, rfl, rfl, rfl⟩ := b4
  have hK : Kept p (CW X p w) w ⟨upd p.mem id (some blk'), p.μ⟩ (CW X ⟨upd p.mem id (some blk'), p.μ⟩ w') w' := by
    refine Kept.of (fun b o u ⟨k1, k2, k3⟩ => ⟨?_, k2, fun hbs id' blk'' m1 m2 => ?_⟩) (fun g' n ⟨c, e, fr, z1, z2⟩ => ?_) (fun id' b hb' => ?_)
    · by_cases hbg : b = g
      · subst hbg
        rw [cell_row hg', hpre o (k3 b1 id blk hb hμ), ← cell_row hg]
        exact k1
      · unfold World.cell? at *
        simp only [hoth b hbg]
        exact k1
    · by_cases hi : id' = id
      · subst hi
        simp only [upd_same, Option.some.injEq] at m1
        subst m1
        exact Nat.lt_of_lt_of_le (k3 hbs id' blk hb m2) hp1
      · simp only [upd_ne _ _ hi] at m1
        exact k3 hbs id' blk'' m1 m2
    · by_cases hgg : g' = g
      · subst hgg
        rw [hg] at z1
        cases z1
        exact ⟨cur', _, _, hg', by omega⟩
      · exact ⟨c, e, fr, by rw [hoth _ hgg]; exact z1, z2⟩
    · by_cases hi : id' = id
      · subst hi
        rw [hb] at hb'
        cases hb'
        exact ⟨blk', upd_same _ _ _, hver, fun e => ⟨rfl, hvl e⟩⟩
      · exact ⟨b, by simp only [upd_ne _ _ hi]; exact hb', Nat.le_refl _, fun _ => ⟨rfl, rfl⟩⟩
  refine ⟨⟨⟨h1.trans h.bel.os, h2.trans h.bel.tape, h3.trans h.bel.output, by rw [hsz]; exact h.bel.size, fun k hk hx => ?_⟩, fun id' b hb' => ?_⟩, hK⟩
  · rw [hoth k (fun e => b1.elim (fun q => absurd (Nat.lt_of_lt_of_le hk (e ▸ q)) (Nat.lt_irrefl _)) (fun q => hx (e ▸ q)))]; exact h.bel.block k hk hx
  · have hinj : ∀ g2 id2, (∀ id' blk', p.mem id' = some blk' → p.μ id' = some g2 → id' = id2) → ∀ id3 b3, upd p.mem id (some blk') id3 = some b3 → p.μ id3 = some g2 → id3 = id2 := by
      intro g2 id2 hh id3 b3 q1 q2
      by_cases hj : id3 = id
      · subst hj
        exact hh id3 blk hb q2
      · simp only [upd_ne _ _ hj] at q1
        exact hh id3 b3 q1 q2
    by_cases hi : id' = id
    · subst hi
      simp only [upd_same, Option.some.injEq] at hb'
      subst hb'
      simp only [BlkOk, hμ]
      refine ⟨hok, b1, hinj g id' b2, hp2, cur', t, lo, _, (hg'.trans (congrArg some (hob' ..).symm)), by rw [hcs]; exact b5, by rw [hcs]; exact hlen, fun i x hx => ?_⟩
      obtain ⟨u, u1, u2⟩ := hcells i x hx
      exact ⟨u, u1, u2.kept hK⟩
    · simp only [upd_ne _ _ hi] at hb'
      have := h.blk id' b hb'
      unfold BlkOk at *
      simp only
      split
      · rename_i hg2; simpa [hg2] using this
      · rename_i g2 hg2
        simp only [hg2] at this
        obtain ⟨g0, g1, g2', g3, cur2, e, lo', hi', g4, g5, g6, g7⟩ := this
        have hne : g2 ≠ g := fun e => hi (b2 id' b hb' (e ▸ hg2))
        refine ⟨g0, g1, hinj g2 id' g2', g3, cur2, e, lo', hi', by rw [hoth _ hne]; exact g4, g5, g6, fun i x hx => ?_⟩
        obtain ⟨u, u1, u2⟩ := g7 i x hx
        exact ⟨u, u1, u2.kept hK⟩

/-- an own row with no block as yet -/
theorem RM.ghost {id ver z : Nat} (h : RM X p w) (hz : 0 < z) (hver : ∀ b, p.mem id = some b → b.ver < ver) :
    RM X ⟨upd p.mem id (some ⟨ver, .row z [], 0⟩), upd p.μ id none⟩ w ∧
      Kept p (CW X p w) w ⟨upd p.mem id (some ⟨ver, .row z [], 0⟩), upd p.μ id none⟩ (CW X ⟨upd p.mem id (some ⟨ver, .row z [], 0⟩), upd p.μ id none⟩ w) w := by
  have hK : Kept p (CW X p w) w ⟨upd p.mem id (some ⟨ver, .row z [], 0⟩), upd p.μ id none⟩ (CW X ⟨upd p.mem id (some ⟨ver, .row z [], 0⟩), upd p.μ id none⟩ w) w := by
    refine Kept.of (fun b o u ⟨k1, k2, k3⟩ => ⟨k1, k2, fun hb id' blk' m1 m2 => ?_⟩) (fun g n hz => hz) (fun id' b hb => ?_)
    · by_cases hi : id' = id
      · subst hi
        simp only [upd_same] at m2
        cases m2
      · simp only [upd_ne _ _ hi] at m1 m2
        exact k3 hb id' blk' m1 m2
    · by_cases hi : id' = id
      · subst hi
        exact ⟨_, upd_same _ _ _, Nat.le_of_lt (hver _ hb), fun e => absurd e (Nat.ne_of_lt (hver _ hb))⟩
      · exact ⟨b, by simp only [upd_ne _ _ hi]; exact hb, Nat.le_refl _, fun _ => ⟨by simp only [upd_ne _ _ hi], rfl⟩⟩
  refine ⟨⟨h.bel, fun id' b hb => ?_⟩, hK⟩
  by_cases hi : id' = id
  · subst hi
    simp only [upd_same, Option.some.injEq] at hb
    subst hb
    simp only [BlkOk, upd_same]
    exact ⟨rfl, by simp, hz, by simp⟩
  · simp only [upd_ne _ _ hi] at hb
    have := h.blk id' b hb
    unfold BlkOk at *
    simp only [upd_ne _ _ hi]
    split
    · rename_i hg; simpa [hg] using this
    · rename_i g hg
      simp only [hg] at this
      obtain ⟨g0, g1, g2, g3, cur, e, lo, hi', g4, g5, g6, g7⟩ := this
      refine ⟨g0, g1, fun id'' b'' q1 q2 => ?_, g3, cur, e, lo, hi', g4, g5, g6, fun i x hx => ?_⟩
      · by_cases hj : id'' = id
        · subst hj
          simp only [upd_same] at q2
          cases q2
        · simp only [upd_ne _ _ hj] at q1 q2
          exact g2 id'' b'' q1 q2
      · obtain ⟨u, u1, u2⟩ := g7 i x hx
        exact ⟨u, u1, u2.kept hK⟩

/-- a new object that is no memory -/
theorem RM.allocRaw {ob : Raw} {id ver : Nat} (h : RM X p w) (w' : World) (hw : w'.heap = w.heap.push ob.obj) (h1 : w'.os = w.os) (h2 : w'.tape = w.tape) (h3 : w'.output = w.output)
    (hok : ob.ok) (hver : ∀ b, p.mem id = some b → b.ver < ver) :
    RM X ⟨upd p.mem id (some ⟨ver, .raw ob, 0⟩), upd p.μ id (some w.heap.size)⟩ w' ∧
      Kept p (CW X p w) w ⟨upd p.mem id (some ⟨ver, .raw ob, 0⟩), upd p.μ id (some w.heap.size)⟩ (CW X ⟨upd p.mem id (some ⟨ver, .raw ob, 0⟩), upd p.μ id (some w.heap.size)⟩ w') w' := by
  have hold : ∀ k, k < w.heap.size → w'.heap[k]? = w.heap[k]? := fun k hk => by rw [hw, Array.getElem?_push, if_neg (by omega)]
  have hcell : ∀ b o, b < w.heap.size → w'.cell? ⟨b, o, none⟩ = w.cell? ⟨b, o, none⟩ := fun b o hb => by unfold World.cell?; simp only [hold b hb]
  have hK : Kept p (CW X p w) w ⟨upd p.mem id (some ⟨ver, .raw ob, 0⟩), upd p.μ id (some w.heap.size)⟩ (CW X ⟨upd p.mem id (some ⟨ver, .raw ob, 0⟩), upd p.μ id (some w.heap.size)⟩ w') w' := by
    refine Kept.of (fun b o u ⟨k1, k2, k3⟩ => ⟨by rw [hcell _ _ (cell_lt k1)]; exact k1, k2, fun hb id' blk' m1 m2 => ?_⟩) (fun g n ⟨cur, e, fr, z1, z2⟩ => ⟨cur, e, fr, by rw [hold _ (Array.getElem?_eq_some_iff.1 z1).1]; exact z1, z2⟩) (fun id' b hb => ?_)
    · by_cases hi : id' = id
      · subst hi
        simp only [upd_same, Option.some.injEq] at m2
        have := cell_lt k1
        omega
      · simp only [upd_ne _ _ hi] at m1 m2
        exact k3 hb id' blk' m1 m2
    · by_cases hi : id' = id
      · subst hi
        exact ⟨_, upd_same _ _ _, Nat.le_of_lt (hver _ hb), fun e => absurd e (Nat.ne_of_lt (hver _ hb))⟩
      · exact ⟨b, by simp only [upd_ne _ _ hi]; exact hb, Nat.le_refl _, fun _ => ⟨by simp only [upd_ne _ _ hi], rfl⟩⟩
  refine ⟨⟨⟨h1.trans h.bel.os, h2.trans h.bel.tape, h3.trans h.bel.output, by rw [hw]; simp; have := h.bel.size; omega, fun k hk hx => ?_⟩, fun id' b hb => ?_⟩, hK⟩
  · rw [hold k (Nat.lt_of_lt_of_le hk h.bel.size)]; exact h.bel.block k hk hx
  · by_cases hi : id' = id
    · subst hi
      simp only [upd_same, Option.some.injEq] at hb
      subst hb
      simp only [BlkOk, upd_same]
      refine ⟨hok, .inl h.bel.size, fun id'' b'' q1 q2 => ?_, Nat.zero_le _, #[], 0, 0, 0, by rw [hw]; simp [Body.obj], fun h => absurd h (Nat.lt_irrefl _), Nat.zero_le _, fun i x hx => nomatch hx⟩
      by_cases hj : id'' = id'
      · exact hj
      · simp only [upd_ne _ _ hj] at q1 q2
        have := h.blk id'' b'' q1
        simp only [BlkOk, q2] at this
        obtain ⟨_, _, _, _, cur, e, lo, hi, g4, _⟩ := this
        have := (Array.getElem?_eq_some_iff.1 g4).1
        omega
    · simp only [upd_ne _ _ hi] at hb
      have := h.blk id' b hb
      unfold BlkOk at *
      simp only [upd_ne _ _ hi]
      split
      · rename_i hg; simpa [hg] using this
      · rename_i g hg
        simp only [hg] at this
        obtain ⟨g0, g1, g2, g3, cur, e, lo, hi', g4, g5, g6, g7⟩ := this
        have hgl := (Array.getElem?_eq_some_iff.1 g4).1
        refine ⟨g0, g1, fun id'' b'' q1 q2 => ?_, g3, cur, e, lo, hi', by rw [hold _ hgl]; exact g4, g5, g6, fun i x hx => ?_⟩
        · by_cases hj : id'' = id
          · subst hj
            simp only [upd_same, Option.some.injEq] at q2
            omega
          · simp only [upd_ne _ _ hj] at q1 q2
            exact g2 id'' b'' q1 q2
        · obtain ⟨u, u1, u2⟩ := g7 i x hx
          exact ⟨u, u1, u2.kept hK⟩
/-- such an object is turned -/
theorem RM.writeRaw {g : Nat} {ob ob' : Raw} {id ver : Nat} (h : RM X p w) (w' : World) (hb : p.mem id = some ⟨ver, .raw ob, 0⟩) (hμ : p.μ id = some g)
    (hg' : w'.heap[g]? = some ob'.obj) (hoth : ∀ k, k ≠ g → w'.heap[k]? = w.heap[k]?) (hsz : w'.heap.size = w.heap.size)
    (h1 : w'.os = w.os) (h2 : w'.tape = w.tape) (h3 : w'.output = w.output) (hok : ob'.ok) :
    RM X ⟨upd p.mem id (some ⟨ver, .raw ob', 0⟩), p.μ⟩ w' ∧ Kept p (CW X p w) w ⟨upd p.mem id (some ⟨ver, .raw ob', 0⟩), p.μ⟩ (CW X ⟨upd p.mem id (some ⟨ver, .raw ob', 0⟩), p.μ⟩ w') w' := by
  have hb0 := h.blk id _ hb
  simp only [BlkOk, hμ] at hb0
  obtain ⟨b0, b1, b2, b3, cur0, e0, lo0, hi0, b4, b5, b6, b7⟩ := hb0
  have b4 : w.heap[g]? = some ob.obj := b4
  have hno : ∀ {c e f}, w.heap[g]? = some (.cells c e f) → False := fun hh => by rw [b4] at hh; exact ob.obj_ne _ _ _ (Option.some.inj hh)
  have hK : Kept p (CW X p w) w ⟨upd p.mem id (some ⟨ver, .raw ob', 0⟩), p.μ⟩ (CW X ⟨upd p.mem id (some ⟨ver, .raw ob', 0⟩), p.μ⟩ w') w' := by
    refine Kept.of (fun b o u ⟨k1, k2, k3⟩ => ⟨?_, k2, fun hbs id' blk'' m1 m2 => ?_⟩) (fun g' n ⟨c, e, fr, z1, z2⟩ => ?_) (fun id' b hb' => ?_)
    · by_cases hbg : b = g
      · subst hbg
        exact absurd (k3 b1 id _ hb hμ) (Nat.not_lt_zero _)
      · unfold World.cell? at *
        simp only [hoth b hbg]
        exact k1
    · by_cases hi : id' = id
      · subst hi
        simp only [upd_same, Option.some.injEq] at m1
        subst m1
        have hk := k3 hbs id' ⟨ver, .raw ob, 0⟩ hb m2
        exact hk
      · simp only [upd_ne _ _ hi] at m1
        exact k3 hbs id' blk'' m1 m2
    · by_cases hg : g' = g
      · subst hg
        exact (hno z1).elim
      · exact ⟨c, e, fr, by rw [hoth g' hg]; exact z1, z2⟩
    · by_cases hi : id' = id
      · subst hi
        rw [hb] at hb'
        cases hb'
        exact ⟨_, upd_same _ _ _, Nat.le_refl _, fun _ => ⟨rfl, rfl⟩⟩
      · exact ⟨b, by simp only [upd_ne _ _ hi]; exact hb', Nat.le_refl _, fun _ => ⟨rfl, rfl⟩⟩
  refine ⟨⟨⟨h1.trans h.bel.os, h2.trans h.bel.tape, h3.trans h.bel.output, by rw [hsz]; exact h.bel.size, fun k hk hx => ?_⟩, fun id' b hb' => ?_⟩, hK⟩
  · rw [hoth k ?_]
    · exact h.bel.block k hk hx
    · rintro rfl
      rcases b1 with b1 | b1
      · omega
      · exact hx b1
  · have hinj : ∀ g1 id1, (∀ id' blk', p.mem id' = some blk' → p.μ id' = some g1 → id' = id1) → ∀ id' blk', upd p.mem id (some ⟨ver, .raw ob', 0⟩) id' = some blk' → p.μ id' = some g1 → id' = id1 := fun g1 id1 hh id' blk' m1 m2 => by
      by_cases hi : id' = id
      · subst hi
        exact hh id' _ hb m2
      · rw [upd_ne _ _ hi] at m1
        exact hh id' blk' m1 m2
    by_cases hi : id' = id
    · subst hi
      simp only [upd_same, Option.some.injEq] at hb'
      subst hb'
      simp only [BlkOk, hμ]
      exact ⟨hok, b1, hinj g id' b2, Nat.zero_le _, #[], 0, 0, 0, hg', fun h => absurd h (Nat.lt_irrefl _), Nat.zero_le _, fun i x hx => nomatch hx⟩
    · simp only [upd_ne _ _ hi] at hb'
      have := h.blk id' b hb'
      unfold BlkOk at *
      show match p.μ id' with | none => _ | some g => _
      split
      · rename_i hg; simpa [hg] using this
      · rename_i g2 hg
        simp only [hg] at this
        obtain ⟨g0, g1, g2', g3, cur, e, lo, hi', g4, g5, g6, g7⟩ := this
        have hne : g2 ≠ g := fun e => hi (b2 id' b hb' (by rw [hg, e]))
        refine ⟨g0, g1, hinj g2 id' g2', g3, cur, e, lo, hi', by rw [hoth g2 hne]; exact g4, g5, g6, fun i x hx => ?_⟩
        obtain ⟨u, u1, u2⟩ := g7 i x hx
        exact ⟨u, u1, u2.kept hK⟩
/-- more of an own block is published -/
theorem RM.pub {id n : Nat} {blk : Blk} (h : RM X p w) (hb : p.mem id = some blk) (h1 : blk.pub ≤ n) (h2 : n ≤ blk.cells.length) :
    RM X ⟨upd p.mem id (some ⟨blk.ver, blk.body, n⟩), p.μ⟩ w ∧ Kept p (CW X p w) w ⟨upd p.mem id (some ⟨blk.ver, blk.body, n⟩), p.μ⟩ (CW X ⟨upd p.mem id (some ⟨blk.ver, blk.body, n⟩), p.μ⟩ w) w := by
  have hb0 := h.blk id blk hb
  cases hμ : p.μ id with
  | some g =>
    simp only [BlkOk, hμ] at hb0
    obtain ⟨b0, b1, b2, b3, cur, e, lo, hi, b4, b5, b6, b7⟩ := hb0
    obtain ⟨ver, bd, pub⟩ := blk
    cases bd with
    | box c => exact h.write (blk' := ⟨ver, .box c, n⟩) w hb hμ b4 b4 (fun _ _ => rfl) rfl rfl rfl rfl rfl (fun _ _ => rfl) h1 h2 b6 b0 (Nat.le_refl _) (fun _ => rfl) b7
    | row z xs => exact h.write (blk' := ⟨ver, .row z xs, n⟩) w hb hμ b4 b4 (fun _ _ => rfl) rfl rfl rfl rfl rfl (fun _ _ => rfl) h1 h2 b6 b0 (Nat.le_refl _) (fun _ => rfl) b7
    | raw o =>
      have h1 : pub ≤ n := h1
      have h2 : n ≤ 0 := h2
      have he : upd p.mem id (some ⟨ver, .raw o, n⟩) = p.mem := by
        funext j
        by_cases hj : j = id
        · subst hj
          rw [upd_same, hb, show n = pub by omega]
        · rw [upd_ne _ _ hj]
      show RM X ⟨upd p.mem id (some ⟨ver, .raw o, n⟩), p.μ⟩ w ∧ Kept p (CW X p w) w ⟨upd p.mem id (some ⟨ver, .raw o, n⟩), p.μ⟩ (CW X ⟨upd p.mem id (some ⟨ver, .raw o, n⟩), p.μ⟩ w) w
      rw [he]
      exact ⟨h, ⟨fun _ _ _ h => h, fun id blk hb => ⟨blk, hb, Nat.le_refl _, fun _ => ⟨rfl, rfl, fun _ _ _ _ h => h⟩⟩⟩⟩
  | none =>
    simp only [BlkOk, hμ] at hb0
    have hn : n = 0 := by rw [hb0.1] at h2; simpa using h2
    have he : upd p.mem id (some ⟨blk.ver, blk.body, n⟩) = p.mem := by
      funext j
      by_cases hj : j = id
      · subst hj
        rw [upd_same, hb, hn, ← hb0.2.1]
      · rw [upd_ne _ _ hj]
    rw [he]
    exact ⟨h, ⟨fun _ _ _ h => h, fun id blk hb => ⟨blk, hb, Nat.le_refl _, fun _ => ⟨rfl, rfl, fun _ _ _ _ h => h⟩⟩⟩⟩
end

theorem Kept.rfl' {p : Rho} {C : Nat → Nat → Value → Prop} {w : World} : Kept p C w p C w :=
  ⟨fun _ _ _ h => h, fun _ blk hb => ⟨blk, hb, Nat.le_refl _, fun _ => ⟨rfl, rfl, fun _ _ _ _ h => h⟩⟩⟩
theorem Kept.trans {p p' p'' : Rho} {C C' C'' : Nat → Nat → Value → Prop} {w w' w'' : World} (h : Kept p C w p' C' w') (k : Kept p' C' w' p'' C'' w'') : Kept p C w p'' C'' w'' :=
  ⟨fun _ _ _ x => k.hC _ _ _ (h.hC _ _ _ x), fun id blk hb => by
    obtain ⟨b1, e1, e2, e3⟩ := h.hm _ _ hb
    obtain ⟨b2, f1, f2, f3⟩ := k.hm _ _ e1
    refine ⟨b2, f1, by omega, fun e => ?_⟩
    have a1 := e3 (by omega)
    have a2 := f3 (by omega)
    exact ⟨a2.1.trans a1.1, a2.2.1.trans a1.2.1, fun h0 g n hg hz => a2.2.2 (by rw [a1.2.1]; exact h0) g n (a1.1.trans hg) (a1.2.2 h0 g n hg hz)⟩⟩
end Go.Proofs.YtcdifgacoleckaaDoor.Ab
namespace Go.Proofs.YtcdifgacoleckaaDoor.Ab
open Go Go.RowKit

/-! ### The types, as a table -/
inductive K where
  | slice (e : Nat)
  | arr (n e : Nat)
  | struct (fs : List (Nat × Nat))
  | str
  | int (k : IntKind)
  | bool
  | ptr (e : Nat)
  | map (k e : Nat)
  | other
structure TI where
  size : Nat
  bytes : Nat
  k : K
  zero : List Value

def K.agg : K → Bool
  | .arr .. | .struct _ => true
  | _ => false

def KOk : K → TypeDesc → Prop
  | .slice e, d => d = .slice e
  | .arr n e, d => d = .array n e
  | .struct fs, d => ∃ F : Array Field, d = .struct F ∧ F.toList.map (fun f => (f.offset, f.type)) = fs
  | .str, d => d = .string
  | .int k, d => d = .int k
  | .bool, d => d = .bool
  | .ptr e, d => d = .pointer e
  | .map k e, d => d = .map k e
  | .other, d => (∀ F, d ≠ .struct F) ∧ (∀ n e, d ≠ .array n e) ∧ (∀ e, d ≠ .slice e) ∧ d ≠ .string

/-- a wide type whose parts are compared one by one -/
def EqTy (P : Program) (t : Nat) (d : TypeDesc) : Prop :=
  P.stoodInHeld t = false ∧ P.eqGuardType P.depth t = false ∧ ∀ F, d = .struct F → ∀ f ∈ F.toList, f.name ≠ "_"
/-- a value that is no nil interface -/
def plainZ : Value → Bool
  | .nilIface => false
  | _ => true
structure TIOk (P : Program) (t : Nat) (ti : TI) : Prop where
  out : ∃ i d z, P.info? t = some i ∧ P.underlying t = some d ∧ i.size = ti.size ∧ i.bytes = ti.bytes ∧ KOk ti.k d ∧ i.zero = some z ∧ z.cells.toList = ti.zero ∧ ∀ u ∈ ti.zero, u.oneCell' = true
  len : ti.zero.length = ti.size
  wide : ti.k.agg = true → ti.zero.all plainZ = true → ∀ d, P.underlying t = some d → EqTy P t d
  nz : ∀ i z k, P.info? t = some i → i.zero = some z → ti.k = .int k → ∀ cs, z ≠ .agg cs
  az : ∀ i z, P.info? t = some i → i.zero = some z → ti.k.agg = true → ∃ cs, z = .agg cs

def TOk (P : Program) (T : Nat → Option TI) : Prop := ∀ t ti, T t = some ti → TIOk P t ti

section
variable {P : Program} {t : Nat} {ti : TI} (w : World)
theorem TIOk.size (h : TIOk P t ti) : (sizeOf t).run P w = .ok ti.size w := by
  obtain ⟨i, d, z, h1, _, h3, _⟩ := h.out
  simp [sizeOf, typeInfo, h1, h3]
theorem TIOk.isAgg (h : TIOk P t ti) : (isAgg t).run P w = .ok ti.k.agg w := by
  obtain ⟨i, d, z, _, h2, _, _, h5, _⟩ := h.out
  have hu := run_underlying h2 (w := w)
  unfold Go.isAgg
  simp only [Sem.run_bind, hu, Result.andThen_ok]
  cases hk : ti.k with
  | struct fs => rw [hk] at h5; obtain ⟨F, rfl, _⟩ := h5; rfl
  | arr n e => rw [hk] at h5; rw [show d = .array n e from h5]; rfl
  | slice e => rw [hk] at h5; rw [show d = .slice e from h5]; rfl
  | str => rw [hk] at h5; rw [show d = .string from h5]; rfl
  | int k => rw [hk] at h5; rw [show d = .int k from h5]; rfl
  | bool => rw [hk] at h5; rw [show d = .bool from h5]; rfl
  | ptr e => rw [hk] at h5; rw [show d = .pointer e from h5]; rfl
  | map k e => rw [hk] at h5; rw [show d = .map k e from h5]; rfl
  | other =>
    rw [hk] at h5
    obtain ⟨h6, h7, _⟩ := h5
    cases d with
    | struct F => exact absurd rfl (h6 F)
    | array n e => exact absurd rfl (h7 n e)
    | _ => rfl
end

/-! ### What is behind an address -/
def cellsAt (w : World) (b o : Nat) (vs : List Value) : Prop := ∀ (j : Nat) u, vs[j]? = some u → w.cell? ⟨b, o + j, none⟩ = some u

theorem add_at (b o j : Nat) : (⟨b, o, none⟩ : Addr).add j = ⟨b, o + j, none⟩ := by
  unfold Addr.add
  split <;> simp_all

section
variable {P : Program} {t : Nat} {ti : TI} {w : World}
theorem run_load_agg (h : TIOk P t ti) (ha : ti.k.agg = true) {b o : Nat} {vs : List Value} (hl : vs.length = ti.size) (hc : cellsAt w b o vs) :
    (Instr.loadAt t (.pointer (some ⟨b, o, none⟩))).run P w = .ok (.agg vs.toArray) w := by
  have hcl := run_loadCells_list (P := P) w ⟨b, o, none⟩ vs (fun j v hv => by rw [add_at]; exact hc j v hv)
  rw [hl] at hcl
  simp [Instr.loadAt, Instr.sureAddr, loadVar, h.isAgg, h.size, ha, hcl]
theorem run_load_one (h : TIOk P t ti) (ha : ti.k.agg = false) {b o : Nat} {u : Value} (hc : w.cell? ⟨b, o, none⟩ = some u) :
    (Instr.loadAt t (.pointer (some ⟨b, o, none⟩))).run P w = .ok u w := by
  simp [Instr.loadAt, Instr.sureAddr, loadVar, h.isAgg, ha, hc]
end

/-! ### A cell, read at its type -/
def E.int : E → Int
  | .v (.int _ n) => n
  | _ => 0
def E.str : E → ByteArray
  | .v (.string s) => s
  | _ => .empty
def E.bool : E → Bool
  | .v (.bool b) => b
  | _ => false
def E.xs : E → List (List E)
  | .sl xs => xs
  | _ => []
def E.cs : E → List E
  | .pt cs => cs
  | _ => []
def E.dflt : E := .sl []
def E.as (k : K) (x : E) : E :=
  match k with
  | .int k => .v (.int k x.int)
  | .str => .v (.string x.str)
  | .bool => .v (.bool x.bool)
  | .slice _ => .sl x.xs
  | .ptr _ => .pt x.cs
  | _ => x
def D0.as (k : K) : D0 → D0
  | .e x => .e (x.as k)
  | x => x
/-- what is asked for: the cell is of its type -/
def D0.isA (k : K) : D0 → Prop
  | .e x => x.as k = x
  | _ => True
theorem D0.as_eq {k : K} {x : D0} (h : x.isA k) : x.as k = x := by
  cases x with
  | e x => exact congrArg D0.e h
  | _ => rfl

def Cs.len : Cs → Nat
  | .es xs => xs.length
  | .ds xs => xs.length
theorem Cs.len_eq (c : Cs) : c.d0.length = c.len := by cases c <;> simp [Cs.d0, Cs.len]
def Cs.sub (c : Cs) (o n : Nat) : Cs :=
  match c with
  | .es xs => .es ((xs.drop o).take n)
  | .ds xs => .ds ((xs.drop o).take n)
theorem Cs.sub_d0 (c : Cs) (o n : Nat) : (c.sub o n).d0 = (c.d0.drop o).take n := by
  cases c with
  | es xs => simp only [Cs.sub, Cs.d0, List.map_drop, List.map_take]
  | ds xs => rfl
def Cs.at (c : Cs) (o : Nat) : D0 :=
  match c with
  | .es xs => .e (xs.getD o E.dflt)
  | .ds xs => xs.getD o .nil
theorem Cs.at_eq {c : Cs} {o : Nat} (h : o < c.len) : c.d0[o]? = some (c.at o) := by
  cases c with
  | es xs => simp only [Cs.len] at h; simp [Cs.d0, Cs.at, h]
  | ds xs => simp only [Cs.len] at h; simp [Cs.d0, Cs.at, h]

/-- a variable of type ti that begins at cell o -/
def Cs.load (c : Cs) (ti : TI) (o : Nat) : Prop × D :=
  bif ti.k.agg then (o + ti.size ≤ c.len, .agg (c.sub o ti.size))
  else (o < c.len ∧ (c.at o).isA ti.k, .one ((c.at o).as ti.k))

section
variable {P : Program} {t : Nat} {ti : TI} {w : World} {p : Rho} {C : Nat → Nat → Value → Prop}
/-- cells in memory, and what they read as -/
def MemAt (p : Rho) (C : Nat → Nat → Value → Prop) (w : World) (b o : Nat) (xs : List D0) : Prop :=
  ∀ (j : Nat) x, xs[j]? = some x → ∃ u, w.cell? ⟨b, o + j, none⟩ = some u ∧ Rep0 p C w x u

theorem MemAt.list {b o : Nat} {xs : List D0} (h : MemAt p C w b o xs) : ∃ vs, Rep2 p C w xs vs ∧ cellsAt w b o vs := by
  induction xs generalizing o with
  | nil => exact ⟨[], ⟨rfl, fun i x u h => by cases h⟩, fun j u h => by cases h⟩
  | cons x xs ih =>
    obtain ⟨u, h1, h2⟩ := h 0 x rfl
    obtain ⟨vs, h3, h4⟩ := ih (o := o + 1) (fun j y hy => by
      obtain ⟨u, k1, k2⟩ := h (j + 1) y (by simpa using hy)
      exact ⟨u, by rw [show o + 1 + j = o + (j + 1) by omega]; exact k1, k2⟩)
    refine ⟨u :: vs, ⟨by simp [h3.1], fun i y v hy hv => ?_⟩, fun j v hv => ?_⟩
    · cases i with
      | zero => simp at hy hv; subst hy; subst hv; exact h2
      | succ i => exact h3.2 i y v (by simpa using hy) (by simpa using hv)
    · cases j with
      | zero => simp at hv; subst hv; exact h1
      | succ j => rw [show o + (j + 1) = o + 1 + j by omega]; exact h4 j v (by simpa using hv)
theorem MemAt.sub {b o : Nat} {xs : List D0} (h : MemAt p C w b o xs) (k n : Nat) : MemAt p C w b (o + k) ((xs.drop k).take n) := fun j x hx => by
  rw [List.getElem?_take] at hx
  split at hx
  · rw [List.getElem?_drop] at hx
    rw [show o + k + j = o + (k + j) by omega]
    exact h _ x hx
  · cases hx

theorem load_goes (hT : TIOk P t ti) {c : Cs} {b o k : Nat} (hm : MemAt p C w b o c.d0) (hφ : (c.load ti k).1) :
    ∃ v, (Instr.loadAt t (.pointer (some ⟨b, o + k, none⟩))).run P w = .ok v w ∧ RepD p C w (c.load ti k).2 v := by
  unfold Cs.load at *
  cases ha : ti.k.agg with
  | true =>
    simp only [ha, cond_true] at hφ ⊢
    have h1 := hm.sub k ti.size
    rw [← Cs.sub_d0] at h1
    obtain ⟨vs, h2, h3⟩ := h1.list
    refine ⟨_, run_load_agg hT ha ?_ h3, vs, rfl, h2⟩
    rw [← h2.1, Cs.sub_d0, List.length_take, List.length_drop, Cs.len_eq]
    omega
  | false =>
    simp only [ha, cond_false] at hφ ⊢
    obtain ⟨u, h1, h2⟩ := hm k _ (Cs.at_eq hφ.1)
    exact ⟨u, run_load_one hT ha h1, by rw [D0.as_eq hφ.2]; exact h2⟩
end
end Go.Proofs.YtcdifgacoleckaaDoor.Ab
namespace Go.Proofs.YtcdifgacoleckaaDoor.Ab
open Go Go.RowKit

/-! ### Scalars -/
def bitsV (op : BinOp) (k : IntKind) (x y : Int) : Value :=
  let a := BitVec.ofInt k.bits x
  let b := BitVec.ofInt k.bits y
  match op with
  | .and => .int k (k.wrap ((a &&& b).toNat : Int))
  | .or => .int k (k.wrap ((a ||| b).toNat : Int))
  | .xor => .int k (k.wrap ((a ^^^ b).toNat : Int))
  | _ => .int k (k.wrap ((a &&& ~~~b).toNat : Int))

def intV (op : BinOp) (k : IntKind) (a : Int) (k' : IntKind) (b : Int) : Option (Prop × Value) :=
  match op with
  | .add => some (k = k', .int k (k.wrap (a + b)))
  | .sub => some (k = k', .int k (k.wrap (a - b)))
  | .mul => some (k = k', .int k (k.wrap (a * b)))
  | .quo => some (k = k' ∧ b ≠ 0, .int k (k.wrap (a.tdiv b)))
  | .rem => some (k = k' ∧ b ≠ 0, .int k (a.tmod b))
  | .and => some (k = k', bitsV .and k a b)
  | .or => some (k = k', bitsV .or k a b)
  | .xor => some (k = k', bitsV .xor k a b)
  | .andNot => some (k = k', bitsV .andNot k a b)
  | .shl => some (0 ≤ b, .int k (k.wrap (a * 2 ^ (min b.toNat k.bits))))
  | .shr => some (0 ≤ b, .int k (a.fdiv (2 ^ (min b.toNat k.bits))))
  | .eql => some (k = k', .bool (decide (a = b)))
  | .neq => some (k = k', .bool (!decide (a = b)))
  | .lss => some (k = k', .bool (decide (a < b)))
  | .leq => some (k = k', .bool (decide (a ≤ b)))
  | .gtr => some (k = k', .bool (decide (b < a)))
  | .geq => some (k = k', .bool (decide (b ≤ a)))

def strLt (a b : ByteArray) : Bool := Op.bytesLess a.toList b.toList
def strEq (a b : ByteArray) : Bool := a.toList == b.toList
def strV (op : BinOp) (a b : ByteArray) : Option (Prop × Value) :=
  match op with
  | .add => some (a.size + b.size ≤ maxLen, .string (a ++ b))
  | .eql => some (True, .bool (strEq a b))
  | .neq => some (True, .bool (!strEq a b))
  | .lss => some (True, .bool (strLt a b))
  | .leq => some (True, .bool (strLt a b || strEq a b))
  | .gtr => some (True, .bool (!(strLt a b || strEq a b)))
  | .geq => some (True, .bool (!strLt a b))
  | _ => none

/-- floats: comparisons alone -/
def floatV (op : BinOp) (k : FloatKind) (a : Nat) (k' : FloatKind) (b : Nat) : Option (Prop × Value) :=
  match op with
  | .eql => some (k = k', .bool (k.format.order a b == some .eq))
  | .neq => some (k = k', .bool (k.format.order a b != some .eq))
  | .lss => some (k = k', .bool (k.format.order a b == some .lt))
  | .leq => some (k = k', .bool (k.format.order a b == some .lt || k.format.order a b == some .eq))
  | .gtr => some (k = k', .bool (k.format.order a b == some .gt))
  | .geq => some (k = k', .bool (k.format.order a b == some .gt || k.format.order a b == some .eq))
  | _ => none
theorem run_floatV {P : Program} (w : World) {op : BinOp} {t : TypeId} {k k' : FloatKind} {a b : Nat} {φ : Prop} {v : Value} (h : floatV op k a k' b = some (φ, v)) (hφ : φ) :
    (binOp op t (.float k a) (.float k' b)).run P w = .ok v w := by
  cases op <;> simp only [floatV, Option.some.injEq, Prod.mk.injEq, reduceCtorEq] at h <;> obtain ⟨rfl, rfl⟩ := h
  all_goals
    subst hφ
    simp only [binOp, ne_eq, not_true_eq_false, if_false, Op.floatCmp]
    rfl

theorem run_intV {P : Program} (w : World) {op : BinOp} {t : TypeId} {k k' : IntKind} {a b : Int} {φ : Prop} {v : Value} (h : intV op k a k' b = some (φ, v)) (hφ : φ) :
    (binOp op t (.int k a) (.int k' b)).run P w = .ok v w := by
  cases op <;> simp only [intV, Option.some.injEq, Prod.mk.injEq] at h <;> obtain ⟨rfl, rfl⟩ := h
  case shl =>
    simp only [binOp, Op.shift]
    rw [if_neg (by omega)]; rfl
  case shr =>
    simp only [binOp, Op.shift]
    rw [if_neg (by omega)]; rfl
  case quo =>
    obtain ⟨rfl, h0⟩ := hφ
    simp only [binOp, ne_eq, not_true_eq_false, if_false, Op.intDiv]
    rw [if_neg h0]; rfl
  case rem =>
    obtain ⟨rfl, h0⟩ := hφ
    simp only [binOp, ne_eq, not_true_eq_false, if_false, Op.intDiv]
    rw [if_neg h0]; rfl
  all_goals
    subst hφ
    simp only [binOp, ne_eq, not_true_eq_false, if_false, Op.intArith, Op.intBits, Op.intCmp, bitsV]
    first
      | rfl
      | (show Result.ok _ _ = _; congr 2; first | rfl | (rw [Bool.eq_iff_iff]; simp))

theorem run_strV {P : Program} (w : World) {op : BinOp} {t : TypeId} {a b : ByteArray} {φ : Prop} {v : Value} (h : strV op a b = some (φ, v)) (hφ : φ) :
    (binOp op t (.string a) (.string b)).run P w = .ok v w := by
  cases op <;> simp only [strV, Option.some.injEq, Prod.mk.injEq, reduceCtorEq] at h <;> obtain ⟨rfl, rfl⟩ := h
  case add =>
    simp only [binOp, Op.stringOp]
    rw [if_neg (by simp only [maxLen] at hφ; simp only [IntKind.max, IntKind.bits, IntKind.signed, if_true]; omega)]; rfl
  all_goals rfl
end Go.Proofs.YtcdifgacoleckaaDoor.Ab
namespace Go.Proofs.YtcdifgacoleckaaDoor.Ab
open Go Go.RowKit
set_option linter.unusedSimpArgs false
set_option linter.unusedVariables false

abbrev D.v (x : Value) : D := .one (.e (.v x))
abbrev Ev := Operand → D
abbrev Mem := Nat → Option Blk

theorem repV {p : Rho} {C : Nat → Nat → Value → Prop} {w : World} {x u : Value} (h : RepD p C w (.v x) u) : u = x := by
  have h : RepE C (.v x) u := h
  cases h
  rfl
theorem repV_mk {p : Rho} {C : Nat → Nat → Value → Prop} {w : World} {x : Value} (h : x.oneCell' = true) : RepD p C w (.v x) x := RepE.v x h

theorem bitsV_one (op : BinOp) (k : IntKind) (a b : Int) : (bitsV op k a b).oneCell' = true := by
  unfold bitsV
  dsimp only
  split <;> rfl
theorem intV_one {op : BinOp} {k k' : IntKind} {a b : Int} {φ : Prop} {v : Value} (h : intV op k a k' b = some (φ, v)) : v.oneCell' = true := by
  cases op <;> simp only [intV, Option.some.injEq, Prod.mk.injEq] at h <;> obtain ⟨rfl, rfl⟩ := h <;> first | rfl | exact bitsV_one _ _ _ _
theorem strV_one {op : BinOp} {a b : ByteArray} {φ : Prop} {v : Value} (h : strV op a b = some (φ, v)) : v.oneCell' = true := by
  cases op <;> simp only [strV, Option.some.injEq, Prod.mk.injEq, reduceCtorEq] at h <;> obtain ⟨rfl, rfl⟩ := h <;> rfl

theorem floatV_one {op : BinOp} {k k' : FloatKind} {a b : Nat} {φ : Prop} {v : Value} (h : floatV op k a k' b = some (φ, v)) : v.oneCell' = true := by
  cases op <;> simp only [floatV, Option.some.injEq, Prod.mk.injEq, reduceCtorEq] at h <;> obtain ⟨rfl, rfl⟩ := h <;> rfl

/-! ### equality of wide values -/
def eqFs (f : Nat → D → D → Prop × Bool) (T : Nat → Option TI) (c c' : Cs) : List (Nat × Nat) → Prop × Bool
  | [] => (True, true)
  | (o, ft) :: r =>
    match T ft with
    | some fti =>
      let e := f ft (c.load fti o).2 (c'.load fti o).2
      let r' := eqFs f T c c' r
      ((c.load fti o).1 ∧ (c'.load fti o).1 ∧ e.1 ∧ r'.1, e.2 && r'.2)
    | none => (False, false)
def eqD (T : Nat → Option TI) : Nat → Nat → D → D → Prop × Bool
  | 0, _, _, _ => (False, false)
  | d + 1, t, x, y =>
    match T t, x, y with
    | some ⟨_, _, .int _, _⟩, .one (.e (.v (.int k a))), .one (.e (.v (.int k' b))) => (k = k', a == b)
    | some ⟨_, _, .bool, _⟩, .one (.e (.v (.bool a))), .one (.e (.v (.bool b))) => (True, a == b)
    | some ⟨_, _, .str, _⟩, .one (.e (.v (.string a))), .one (.e (.v (.string b))) => (True, strEq a b)
    | some ⟨_, _, .struct fs, z⟩, .agg c, .agg c' => bif z.all plainZ then eqFs (eqD T d) T c c' fs else (False, false)
    | some ⟨_, _, .arr n e, z⟩, .agg c, .agg c' =>
      match bif z.all plainZ then T e else none with
      | some ti => (∀ i, i < n → (c.load ti (i * ti.size)).1 ∧ (c'.load ti (i * ti.size)).1 ∧ (eqD T d e (c.load ti (i * ti.size)).2 (c'.load ti (i * ti.size)).2).1,
          (List.range n).all fun i => (eqD T d e (c.load ti (i * ti.size)).2 (c'.load ti (i * ti.size)).2).2)
      | none => (False, false)
    | _, _, _ => (False, false)

/-! ### binary and unary operators, conversions of scalars -/
/-- a pointer: is it none? -/
def ptrNil (x : D) : Option Bool :=
  match x with
  | .one (.e (.v (.pointer none))) => some true
  | .one (.e (.pt _)) => some false
  | .one (.eptr _) => some false
  | _ => none
def effNil (T : Nat → Option TI) (op : BinOp) (t : Nat) (x y : D) : Option (Prop × D) :=
  match T t, ptrNil x, ptrNil y with
  | some ⟨_, _, .ptr _, _⟩, some b, some true =>
    match op with
    | .eql => some (True, .v (.bool b))
    | .neq => some (True, .v (.bool (!b)))
    | _ => none
  | _, _, _ => none
def effBin (T : Nat → Option TI) (op : BinOp) (t : Nat) (x y : D) : Option (Prop × D) :=
  match x, y with
  | .one (.e (.v (.int k a))), .one (.e (.v (.int k' b))) => (intV op k a k' b).map fun r => (r.1, .v r.2)
  | .one (.e (.v (.string a))), .one (.e (.v (.string b))) => (strV op a b).map fun r => (r.1, .v r.2)
  | .one (.e (.v (.float k a))), .one (.e (.v (.float k' b))) => (floatV op k a k' b).map fun r => (r.1, .v r.2)
  | .one (.e (.v (.bool a))), .one (.e (.v (.bool b))) =>
    match T t, op with
    | some ⟨_, _, .bool, _⟩, .eql => some (True, .v (.bool (a == b)))
    | some ⟨_, _, .bool, _⟩, .neq => some (True, .v (.bool (!(a == b))))
    | _, _ => none
  | .agg c, .agg c' =>
    match op with
    | .eql => some ((eqD T 9 t (.agg c) (.agg c')).1, .v (.bool (eqD T 9 t (.agg c) (.agg c')).2))
    | .neq => some ((eqD T 9 t (.agg c) (.agg c')).1, .v (.bool (!(eqD T 9 t (.agg c) (.agg c')).2)))
    | _ => none
  | _, _ => effNil T op t x y

def effUn (op : UnOp) (x : D) : Option (Prop × D) :=
  match op, x with
  | .not, .one (.e (.v (.bool a))) => some (True, .v (.bool (!a)))
  | .neg, .one (.e (.v (.int k a))) => some (True, .v (.int k (k.wrap (0 - a))))
  | .xor, .one (.e (.v (.int k a))) => some (True, .v (bitsV .xor k (if k.signed then -1 else k.max) a))
  | _, _ => none

def isByte (cs : List E) : Prop := ∃ b : UInt8, cs = [.v (.int .u8 (b.toNat : Int))]
def bytesOf (xs : List (List E)) : ByteArray := ⟨(xs.map fun cs => UInt8.ofNat (cs.getD 0 E.dflt).int.toNat).toArray⟩

/-- the pieces of a row of cells, z by z -/
def chunksE (z n : Nat) (cs : List E) : List (List E) := (List.range n).map fun i => (cs.drop (i * z)).take z
def effConv (T : Nat → Option TI) (mem : Mem) (src dst : Nat) (x : D) : Option (Prop × D) :=
  match T src, T dst, x with
  | some _, some ⟨_, _, .int k, _⟩, .one (.e (.v (.int _ n))) => some (True, .v (.int k (k.wrap n)))
  | some _, some ⟨_, _, .str, _⟩, .one (.e (.v (.string s))) => some (True, .v (.string s))
  | some ⟨_, _, .slice e, _⟩, some ⟨_, _, .str, _⟩, .one y =>
    match T e, y with
    | some ⟨_, _, .int .u8, _⟩, .e (.sl xs) => some (∀ cs ∈ xs, isByte cs, .v (.string (bytesOf xs)))
    | some ⟨_, _, .int .u8, _⟩, .nil => some (True, .v (.string .empty))
    | some ⟨_, _, .int .u8, _⟩, .own id ver =>
      match mem id with
      | some ⟨bv, .row _ xs, _⟩ => bif Nat.beq bv ver then some (∀ cs ∈ xs, isByte cs, .v (.string (bytesOf xs))) else none
      | _ => none
    | some ⟨_, _, .int .u8, _⟩, .bsl id ver off z n =>
      match mem id with
      | some ⟨bv, .box (.es cs), _⟩ => bif Nat.beq bv ver && Nat.beq z 1 then some (∀ c ∈ chunksE 1 n (cs.drop off), isByte c, .v (.string (bytesOf (chunksE 1 n (cs.drop off))))) else none
      | _ => none
    | _, _ => none
  | _, _, _ => none

/-! ### loads -/
def effLoad (ti : TI) (mem : Mem) (x : D) : Option (Prop × D) :=
  match x with
  | .one (.eptr cs) => some ((Cs.es cs).load ti 0)
  | .one (.ptr id ver off) =>
    match mem id with
    | some ⟨bv, .box c, _⟩ => bif Nat.beq bv ver then some (c.load ti off) else none
    | _ => none
  | .one (.rptr id ver i j) =>
    match mem id with
    | some ⟨bv, .row _ xs, _⟩ => bif Nat.beq bv ver then
        let r := (Cs.es (xs.getD i [])).load ti j
        some (r.1, r.2) else none
    | _ => none
  | _ => none

/-! ### addresses -/
def effField (T : Nat → Option TI) (s f : Nat) (x : D) : Option (Prop × D) :=
  match T s with
  | some ⟨_, _, .struct fs, _⟩ =>
    match fs[f]? with
    | some (o, ft) =>
      match T ft with
      | some ti => bif Nat.beq ti.size 0 then none else
        match x with
        | .one (.ptr id ver off) => some (True, .one (.ptr id ver (off + o)))
        | .one (.eptr cs) => some (True, .one (.eptr (cs.drop o)))
        | .one (.rptr id ver i j) => some (True, .one (.rptr id ver i (j + o)))
        | _ => none
      | none => none
    | none => none
  | _ => none

def effFieldV (T : Nat → Option TI) (s f : Nat) (x : D) : Option (Prop × D) :=
  match T s with
  | some ⟨_, _, .struct fs, _⟩ =>
    match fs[f]? with
    | some (o, ft) =>
      match T ft, x with
      | some ti, .agg c => some (c.load ti o)
      | _, _ => none
    | none => none
  | _ => none

def effIndexA (T : Nat → Option TI) (mem : Mem) (t : Nat) (x i : D) : Option (Prop × D) :=
  match i with
  | .one (.e (.v (.int _ n))) =>
    match T t with
    | some ⟨_, _, .slice e, _⟩ =>
      match T e, x with
      | some ti, .one (.e (.sl xs)) => some (0 ≤ n ∧ n < xs.length ∧ (xs.getD n.toNat []).length = ti.size, .one (.eptr (xs.getD n.toNat [])))
      | some ti, .one (.own id ver) =>
        match mem id with
        | some ⟨bv, .row z xs, _⟩ => bif Nat.beq bv ver && Nat.beq z ti.size then some (0 ≤ n ∧ n < xs.length, .one (.rptr id ver n.toNat 0)) else none
        | _ => none
      | some ti, .one (.bsl id ver off z m) =>
        match mem id with
        | some ⟨bv, _, _⟩ => bif Nat.beq bv ver && Nat.beq z ti.size then some (0 ≤ n ∧ n < (m : Int), .one (.ptr id ver (off + n.toNat * ti.size))) else none
        | none => none
      | _, _ => none
    | some ⟨_, _, .arr len e, _⟩ =>
      match T e, x with
      | some ti, .one (.eptr cs) => some (0 ≤ n ∧ n < len, .one (.eptr (cs.drop (n.toNat * ti.size))))
      | some ti, .one (.ptr id ver off) => some (0 ≤ n ∧ n < len, .one (.ptr id ver (off + n.toNat * ti.size)))
      | some ti, .one (.rptr id ver a j) => some (0 ≤ n ∧ n < len, .one (.rptr id ver a (j + n.toNat * ti.size)))
      | _, _ => none
    | _ => none
  | _ => none

def effIndexV (T : Nat → Option TI) (t : Nat) (x i : D) : Option (Prop × D) :=
  match i with
  | .one (.e (.v (.int _ n))) =>
    match T t, x with
    | some ⟨_, _, .arr len e, _⟩, .agg c =>
      match T e with
      | some ti => let r := c.load ti (n.toNat * ti.size); some (0 ≤ n ∧ n < len ∧ r.1, r.2)
      | none => none
    | some ⟨_, _, .str, _⟩, .one (.e (.v (.string s))) => some (0 ≤ n ∧ n < s.size, .v (.int .u8 ((s.data.toList.getD n.toNat 0).toNat : Int)))
    | _, _ => none
  | _ => none

/-! ### lengths, pieces -/
def effLen (T : Nat → Option TI) (mem : Mem) (t : Nat) (x : D) : Option (Prop × D) :=
  match T t with
  | some ⟨_, _, .slice _, _⟩ =>
    match x with
    | .one (.e (.sl xs)) => some (True, .v (.int .i64 (xs.length : Int)))
    | .one .nil => some (True, .v (.int .i64 0))
    | .one (.own id ver) =>
      match mem id with
      | some ⟨bv, .row _ xs, _⟩ => bif Nat.beq bv ver then some (True, .v (.int .i64 (xs.length : Int))) else none
      | _ => none
    | .one (.bsl id ver off z n) =>
      match mem id with
      | some ⟨bv, _, _⟩ => bif Nat.beq bv ver then some (True, .v (.int .i64 (n : Int))) else none
      | none => none
    | _ => none
  | some ⟨_, _, .str, _⟩ =>
    match x with
    | .one (.e (.v (.string s))) => some (True, .v (.int .i64 (s.size : Int)))
    | _ => none
  | _ => none

def loInt (x : Option D) : Option Int :=
  match x with
  | none => some 0
  | some (.one (.e (.v (.int _ n)))) => some n
  | _ => none
def hiInt (x : Option D) (l : Int) : Option Int :=
  match x with
  | none => some l
  | some (.one (.e (.v (.int _ n)))) => some n
  | _ => none

def effSlice (T : Nat → Option TI) (t : Nat) (x : D) (lo hi : Option D) : Option (Prop × D) :=
  match T t, x with
  | some ⟨_, _, .str, _⟩, .one (.e (.v (.string s))) =>
    match loInt lo, hiInt hi s.size with
    | some l, some h => some (0 ≤ l ∧ l ≤ h ∧ h ≤ s.size, .v (.string (s.extract l.toNat h.toNat)))
    | _, _ => none
  | some ⟨_, _, .slice e, _⟩, .one (.e (.sl xs)) =>
    match T e, loInt lo, hiInt hi xs.length with
    | some ti, some l, some h => some (0 ≤ l ∧ l ≤ h ∧ h ≤ xs.length ∧ ∀ cs ∈ xs, cs.length = ti.size, .one (.e (.sl ((xs.drop l.toNat).take (h.toNat - l.toNat)))))
    | _, _, _ => none
  | some ⟨_, _, .arr len e, _⟩, .one (.eptr cs) =>
    match T e, loInt lo, hiInt hi len with
    | some ti, some l, some h => some (0 ≤ l ∧ l < len ∧ l ≤ h ∧ h ≤ len ∧ h.toNat * ti.size ≤ cs.length ∧ len ≤ 16777216, .one (.e (.sl (chunksE ti.size (h.toNat - l.toNat) (cs.drop (l.toNat * ti.size))))))
    | _, _, _ => none
  | _, _ => none

/-- a full slice: no room is left behind it that others could see -/
def effSlice3 (T : Nat → Option TI) (t : Nat) (x : D) (lo : Option D) (hi mx : D) : Option (Prop × D) :=
  match T t, x with
  | some ⟨_, _, .slice e, _⟩, .one (.e (.sl xs)) =>
    match T e, loInt lo, loInt (some hi), loInt (some mx) with
    | some ti, some l, some h, some k => some (0 ≤ l ∧ l ≤ h ∧ h ≤ k ∧ k ≤ xs.length ∧ ∀ cs ∈ xs, cs.length = ti.size, .one (.e (.sl ((xs.drop l.toNat).take (h.toNat - l.toNat)))))
    | _, _, _, _ => none
  | _, _ => none

def effExtract (x : D) (i : Nat) : Option (Prop × D) :=
  match x with
  | .tup xs =>
    match xs[i]? with
    | some (true, c) => some (True, .agg c)
    | some (false, c) => some (c.len = 1, .one (c.at 0))
    | none => none
  | _ => none

def effMinMax (mn : Bool) (x y : D) : Option (Prop × D) :=
  match x, y with
  | .one (.e (.v (.int k a))), .one (.e (.v (.int k' b))) => some (k = k', .v (.int k (bif mn then (if b < a then b else a) else (if a < b then b else a))))
  | _, _ => none

def effPick (c x y : D) : Option (Prop × D) :=
  match c, x, y with
  | .one (.e (.v (.bool c))), .one (.e (.v (.bool x))), .one (.e (.v (.bool y))) => some (True, .v (.bool (bif c then x else y)))
  | _, _, _ => none

def liveB (mem : Mem) (x : D) : Bool :=
  match x with
  | .one (.ptr id ver _) => match mem id with
    | some b => Nat.beq b.ver ver
    | none => false
  | .one (.rptr id ver _ _) => match mem id with
    | some b => Nat.beq b.ver ver
    | none => false
  | .one (.eptr _) => true
  | .one (.e (.sl _)) => true
  | .one (.own _ _) => true
  | .one (.bsl _ _ _ _ _) => true
  | _ => false

/-- a pointer in a cell, as one that is followed -/
def D.ptn (x : D) : D :=
  match x with
  | .one (.e (.pt cs)) => .one (.eptr cs)
  | x => x

/-! ### tables of numbers by texts -/
def mGet : List (ByteArray × Int) → ByteArray → Int
  | [], _ => 0
  | (k, v) :: r, s => bif strEq s k then v else mGet r s
def mPut : List (ByteArray × Int) → ByteArray → Int → List (ByteArray × Int)
  | [], s, n => [(s, n)]
  | (k, v) :: r, s, n => bif strEq s k then (s, n) :: r else (k, v) :: mPut r s n
def isZ64 : List Value → Bool
  | [.int .i64 (.ofNat 0)] => true
  | _ => false
def effLookup (T : Nat → Option TI) (m : Mem) (t : Nat) (x i : D) : Option (Prop × D) :=
  match T t, x, i with
  | some ⟨_, _, .map k e, _⟩, .one (.hnd id ver), .one (.e (.v (.string s))) =>
    match T k, T e, m id with
    | some ⟨_, _, .str, _⟩, some ⟨_, _, .int .i64, z⟩, some ⟨bv, .raw (.smap l), _⟩ => bif Nat.beq bv ver && isZ64 z then some (True, .v (.int .i64 (mGet l s))) else none
    | _, _, _ => none
  | _, _, _ => none
/-! ### interface values that hold structs of plain cells -/
def allV : List E → Option (List Value)
  | [] => some []
  | .v u :: r => match allV r with
    | some s => some (u :: s)
    | none => none
  | _ :: _ => none
theorem allV_eq : ∀ {cs : List E} {vs : List Value}, allV cs = some vs → cs = vs.map .v
  | [], vs, h => by cases h; rfl
  | x :: r, vs, h => by
    cases x with
    | v u =>
      rw [allV] at h
      cases hr : allV r with
      | none => rw [hr] at h; cases h
      | some s => rw [hr] at h; cases h; rw [allV_eq hr]; rfl
    | _ => cases h
def effIface (T : Nat → Option TI) (t : Nat) (x : D) : Option (Prop × D) :=
  match T t, x with
  | some ⟨_, _, .struct _, _⟩, .agg (.es cs) =>
    match allV cs with
    | some vs => some (True, .v (.iface t (.agg vs.toArray)))
    | none => none
  | _, _ => none
def effAssert (T : Nat → Option TI) (a : Nat) (x : D) : Option (Prop × D) :=
  match T a, x with
  | some ⟨_, _, .struct _, z⟩, .one (.e (.v (.iface t (.agg vs)))) =>
    bif Nat.beq t a then some (vs.toList.all (·.oneCell') = true, .tup [(true, .es (vs.toList.map .v)), (false, .es [.v (.bool true)])])
    else some (True, .tup [(true, .es (z.map .v)), (false, .es [.v (.bool false)])])
  | _, _ => none
def effQ (T : Nat → Option TI) (mem : Mem) (op : Op) (ev : Ev) : Option (Prop × D) :=
  match op with
  | .move x => some (True, ev x)
  | .assign x => some (True, ev x)
  | .pick c a b => effPick (ev c) (ev a) (ev b)
  | .binOp op t x y _ => effBin T op t (ev x) (ev y)
  | .unOp op _ x => effUn op (ev x)
  | .convert s d x => effConv T mem s d (ev x)
  | .load t x =>
    match T t with
    | some ti => effLoad ti mem (ev x).ptn
    | none => none
  | .nilCheck x =>
    match (ev x).ptn with
    | .one (.ptr id ver off) => bif liveB mem (.one (.ptr id ver off)) then some (True, .one (.ptr id ver off)) else none
    | .one (.eptr cs) => some (True, .one (.eptr cs))
    | _ => none
  | .fieldAddr s x f => bif liveB mem (ev x).ptn then effField T s f (ev x).ptn else none
  | .field s x f => effFieldV T s f (ev x)
  | .indexAddr t x i => bif liveB mem (ev x).ptn then effIndexA T mem t (ev x).ptn (ev i) else none
  | .index t x i => effIndexV T t (ev x) (ev i)
  | .slice t x lo hi none => effSlice T t (ev x) (lo.map ev) (hi.map ev)
  | .slice t x lo (some hi) (some mx) => effSlice3 T t (ev x) (lo.map ev) (ev hi) (ev mx)
  | .extract x i => effExtract (ev x) i
  | .lookup t x i false => effLookup T mem t (ev x) (ev i)
  | .makeInterface t x => effIface T t (ev x)
  | .typeAssert x _ a true => effAssert T a (ev x)
  | .call ⟨.builtin .len, args, ts⟩ =>
    match args.toList, ts.toList with
    | [x], [t] => effLen T mem t (ev x)
    | _, _ => none
  | .call ⟨.builtin .min, args, _⟩ =>
    match args.toList with
    | [x, y] => effMinMax true (ev x) (ev y)
    | _ => none
  | .call ⟨.builtin .max, args, _⟩ =>
    match args.toList with
    | [x, y] => effMinMax false (ev x) (ev y)
    | _ => none
  | _ => none
end Go.Proofs.YtcdifgacoleckaaDoor.Ab
namespace Go.Proofs.YtcdifgacoleckaaDoor.Ab
open Go Go.RowKit

section
variable {P : Program} {T : Nat → Option TI} {X : Ctx} {p : Rho} {w : World} {C : Nat → Nat → Value → Prop}

theorem run_equalIn_bool (d : Nat) {t : TypeId} (a b : Bool) (hu : P.underlying t = some .bool) : (Op.equalIn (d + 1) t (.bool a) (.bool b)).run P w = .ok (a == b) w := by
  simp [Op.equalIn, run_underlying hu]
theorem run_eql_bool {t : TypeId} (a b : Bool) (hu : P.underlying t = some .bool) : (binOp .eql t (.bool a) (.bool b)).run P w = .ok (.bool (a == b)) w := by
  simp only [binOp]
  simp [Op.equal, Op.maxDepth, run_equalIn_bool 9999 a b hu]
theorem run_neq_bool {t : TypeId} (a b : Bool) (hu : P.underlying t = some .bool) : (binOp .neq t (.bool a) (.bool b)).run P w = .ok (.bool (!(a == b))) w := by
  simp only [binOp]
  simp [Op.equal, Op.maxDepth, run_equalIn_bool 9999 a b hu]

theorem struct_of (hT : TOk P T) {s : Nat} {a b : Nat} {fs : List (Nat × Nat)} {z : List Value} (h : T s = some ⟨a, b, .struct fs, z⟩) :
    ∃ F : Array Field, P.underlying s = some (.struct F) ∧ F.toList.map (fun f => (f.offset, f.type)) = fs := by
  obtain ⟨i, d, z, h1, h2, h3, h4, h5, _⟩ := (hT _ _ h).out
  obtain ⟨F, rfl, h6⟩ := h5
  exact ⟨F, h2, h6⟩
theorem field_of {F : Array Field} {fs : List (Nat × Nat)} (h : F.toList.map (fun f => (f.offset, f.type)) = fs) {f o ft : Nat} (hf : fs[f]? = some (o, ft)) : ∃ fd, F[f]? = some fd ∧ fd.offset = o ∧ fd.type = ft := by
  subst h
  simp only [List.getElem?_map, Option.map_eq_some_iff, Prod.mk.injEq] at hf
  obtain ⟨fd, h1, h2, h3⟩ := hf
  exact ⟨fd, by simpa using h1, h2, h3⟩

theorem rep2_at {c : Cs} {vs : List Value} (hr : Rep2 p C w c.d0 vs) {o : Nat} (ho : o < c.len) : ∃ u, vs[o]? = some u ∧ Rep0 p C w (c.at o) u := by
  have h1 := Cs.at_eq ho
  have h2 : o < vs.length := by rw [← hr.1, Cs.len_eq]; exact ho
  exact ⟨vs[o], List.getElem?_eq_getElem h2, hr.2 o _ _ h1 (List.getElem?_eq_getElem h2)⟩
theorem rep2_sub {xs : List D0} {vs : List Value} (hr : Rep2 p C w xs vs) (o n : Nat) : Rep2 p C w ((xs.drop o).take n) ((vs.drop o).take n) := by
  refine ⟨by simp [hr.1], fun i x u h1 h2 => ?_⟩
  rw [List.getElem?_take] at h1 h2
  split at h1
  · rename_i hi
    rw [if_pos hi] at h2
    rw [List.getElem?_drop] at h1 h2
    exact hr.2 _ _ _ h1 h2
  · cases h1

theorem part_goes {t : Nat} {ti : TI} (hti : TIOk P t ti) {c : Cs} {vs : List Value} (hr : Rep2 p C w c.d0 vs) {o : Nat} (hφ : (c.load ti o).1) :
    ∃ v, (part t vs.toArray o).run P w = .ok v w ∧ RepD p C w (c.load ti o).2 v := by
  unfold Cs.load at *
  have ha := hti.isAgg w
  have hs := hti.size w
  cases hk : ti.k.agg with
  | true =>
    simp only [hk, cond_true] at hφ ⊢
    rw [hk] at ha
    refine ⟨.agg (vs.toArray.extract o (o + ti.size)), by simp [part, ha, hs], (vs.drop o).take ti.size, ?_, by rw [Cs.sub_d0]; exact rep2_sub hr _ _⟩
    congr 1
    apply Array.ext'
    simp [List.extract_eq_take_drop]
  | false =>
    simp only [hk, cond_false] at hφ ⊢
    rw [hk] at ha
    obtain ⟨u, h1, h2⟩ := rep2_at hr hφ.1
    exact ⟨u, by simp [part, ha, h1], by rw [D0.as_eq hφ.2]; exact h2⟩

theorem slice_of (hT : TOk P T) {s : Nat} {a b e : Nat} {z : List Value} (h : T s = some ⟨a, b, .slice e, z⟩) : P.underlying s = some (.slice e) := by
  obtain ⟨i, d, z, h1, h2, h3, h4, h5, _⟩ := (hT _ _ h).out
  rw [h2, show d = .slice e from h5]
theorem arr_of (hT : TOk P T) {s : Nat} {a b n e : Nat} {z : List Value} (h : T s = some ⟨a, b, .arr n e, z⟩) : P.underlying s = some (.array n e) := by
  obtain ⟨i, d, z, h1, h2, h3, h4, h5, _⟩ := (hT _ _ h).out
  rw [h2, show d = .array n e from h5]
theorem str_of (hT : TOk P T) {s : Nat} {a b : Nat} {z : List Value} (h : T s = some ⟨a, b, .str, z⟩) : P.underlying s = some .string := by
  obtain ⟨i, d, z, h1, h2, h3, h4, h5, _⟩ := (hT _ _ h).out
  rw [h2, show d = .string from h5]
theorem int_of (hT : TOk P T) {s : Nat} {a b : Nat} {k : IntKind} {z : List Value} (h : T s = some ⟨a, b, .int k, z⟩) : P.underlying s = some (.int k) := by
  obtain ⟨i, d, z, h1, h2, h3, h4, h5, _⟩ := (hT _ _ h).out
  rw [h2, show d = .int k from h5]

theorem forIn_all {β : Type} (b0 b1 : β) (f : Nat → β → Sem (ForInStep β)) (g : Nat → Bool) : ∀ (l : List Nat), (∀ i ∈ l, (f i b0).run P w = .ok (bif g i then .yield b0 else .done b1) w) → (forIn l b0 f).run P w = .ok (bif l.all g then b0 else b1) w
  | [], _ => by simp
  | i :: l, h => by
    rw [List.forIn_cons, Sem.run_bind, h i (List.mem_cons_self ..)]
    have ih := forIn_all b0 b1 f g l fun j hj => h j (List.mem_cons_of_mem _ hj)
    cases hg : g i with
    | false => simp [hg]
    | true => simpa [hg] using ih
theorem eqD_agg_run (hT : TOk P T) : ∀ (d : Nat) {t : Nat} {x y : D} {vx vy : Value}, RepD p C w x vx → RepD p C w y vy → (eqD T d t x y).1 → ∀ D, d ≤ D → (Op.equalIn D t vx vy).run P w = .ok (eqD T d t x y).2 w
  | 0, _, _, _, _, _, _, _, h, _, _ => by cases h
  | d + 1, t, x, y, vx, vy, hx, hy, h, D, hD => by
    obtain ⟨D, rfl⟩ : ∃ e, D = e + 1 := ⟨D - 1, by omega⟩
    have hD : d ≤ D := by omega
    have ih := @eqD_agg_run hT d
    unfold eqD at h ⊢
    split at h
    · rename_i k0 _ k a k' b hti
      obtain rfl := repV hx
      obtain rfl := repV hy
      obtain rfl : k = k' := h
      obtain ⟨i, dd, z, h1, h2, h3, h4, h5, _⟩ := (hT _ _ hti).out
      obtain rfl : dd = _ := h5
      exact run_equalIn_int w D t k _ a b h2
    · rename_i a b hti
      obtain rfl := repV hx
      obtain rfl := repV hy
      obtain ⟨i, dd, z, h1, h2, h3, h4, h5, _⟩ := (hT _ _ hti).out
      obtain rfl : dd = .bool := h5
      exact run_equalIn_bool D a b h2
    · rename_i a b hti
      obtain rfl := repV hx
      obtain rfl := repV hy
      obtain ⟨i, dd, z, h1, h2, h3, h4, h5, _⟩ := (hT _ _ hti).out
      obtain rfl : dd = .string := h5
      exact run_equalIn_string w D t a b h2
    · rename_i _ _ fs zz c c' hti
      cases hzz : zz.all plainZ with
      | false => rw [hzz] at h; exact h.elim
      | true =>
      rw [hzz] at h
      rw [cond_true] at h ⊢
      obtain ⟨F, hF, hfs⟩ := struct_of hT hti
      obtain ⟨vs, rfl, hr⟩ := hx
      obtain ⟨us, rfl, hs⟩ := hy
      have hw := (hT _ _ hti).wide rfl hzz _ hF
      have hF' : P.fieldsOf t = F := by unfold Program.fieldsOf; rw [hF]
      rw [run_equalIn_struct w D t _ _ (by rw [hF', hF]) hw.1, hF']
      have hn := hw.2.2 F rfl
      subst hfs
      generalize F.toList = l at h hn ⊢
      clear hF hF' hw hti
      induction l with
      | nil => simp [Op.eqFields, eqFs]
      | cons f l ihl =>
        rw [List.map_cons] at h ⊢
        unfold eqFs at h ⊢
        dsimp only at h ⊢
        cases hft : T f.type with
        | none => rw [hft] at h; cases h
        | some fti =>
          rw [hft] at h
          dsimp only at h ⊢
          obtain ⟨v, k1, k2⟩ := part_goes (hT _ _ hft) hr h.1
          obtain ⟨u, l1, l2⟩ := part_goes (hT _ _ hft) hs h.2.1
          have e := ih k2 l2 h.2.2.1 D hD
          have e2 := ihl h.2.2.2 (fun g hg => hn g (List.mem_cons_of_mem _ hg))
          rw [Op.eqFields, if_pos (hn f (List.mem_cons_self ..))]
          simp only [Sem.run_bind, k1, l1, e, Result.andThen_ok]
          cases (eqD T d f.type (c.load fti f.offset).2 (c'.load fti f.offset).2).2 with
          | false => simp
          | true => simpa using e2
    · rename_i _ _ n e zz c c' hti
      cases hzz : zz.all plainZ with
      | false => rw [hzz] at h; exact h.elim
      | true =>
      rw [hzz] at h
      rw [cond_true] at h ⊢
      obtain ⟨vs, rfl, hr⟩ := hx
      obtain ⟨us, rfl, hs⟩ := hy
      have ha := arr_of hT hti
      cases he : T e with
      | none => rw [he] at h; cases h
      | some ti =>
        rw [he] at h
        dsimp only at h ⊢
        have hsz := (hT _ _ he).size
        have hbody : ∀ i, i < n → ∃ v u, (part e vs.toArray (i * ti.size)).run P w = .ok v w ∧ (part e us.toArray (i * ti.size)).run P w = .ok u w ∧ (Op.equalIn D e v u).run P w = .ok (eqD T d e (c.load ti (i * ti.size)).2 (c'.load ti (i * ti.size)).2).2 w := fun i hi => by
          obtain ⟨q1, q2, q3⟩ := h i hi
          obtain ⟨v, k1, k2⟩ := part_goes (hT _ _ he) hr q1
          obtain ⟨u, l1, l2⟩ := part_goes (hT _ _ he) hs q2
          exact ⟨v, u, k1, l1, ih k2 l2 q3 D hD⟩
        simp only [Op.equalIn, Sem.run_bind, run_underlying ha, Result.andThen_ok, hsz w, Std.Legacy.Range.forIn_eq_forIn_range', Std.Legacy.Range.size, Nat.sub_zero, Nat.add_sub_cancel, Nat.div_one]
        rw [forIn_all _ (some false, ()) _ (fun i => (eqD T d e (c.load ti (i * ti.size)).2 (c'.load ti (i * ti.size)).2).2) (List.range' 0 n)]
        rotate_left
        · intro i hi
          have hin : i < n := by simpa using hi
          obtain ⟨v, u, k1, k2, k3⟩ := hbody i hin
          simp only [Sem.run_bind, k1, k2, k3, Result.andThen_ok]
          cases (eqD T d e (c.load ti (i * ti.size)).2 (c'.load ti (i * ti.size)).2).2 <;> simp
        rw [List.range_eq_range']
        cases (List.range' 0 n).all fun i => (eqD T d e (c.load ti (i * ti.size)).2 (c'.load ti (i * ti.size)).2).2 <;> simp [Result.andThen]
    · cases h

theorem eqD_pl {T : Nat → Option TI} {d t : Nat} {c c' : Cs} (h : (eqD T (d + 1) t (.agg c) (.agg c')).1) : ∃ ti, T t = some ti ∧ ti.k.agg = true ∧ ti.zero.all plainZ = true := by
  unfold eqD at h
  split at h
  all_goals first | (exact h.elim) | (rename_i e1 e2; cases e1; done) | skip
  · rename_i zz _ _ hti e1 e2
    cases hzz : zz.all plainZ with
    | false => rw [hzz] at h; exact h.elim
    | true => exact ⟨_, hti, rfl, hzz⟩
  · rename_i zz _ _ hti e1 e2
    cases hzz : zz.all plainZ with
    | false => rw [hzz] at h; exact h.elim
    | true => exact ⟨_, hti, rfl, hzz⟩
theorem run_equalIn_pn (n : Nat) {t e : TypeId} (q : Option Addr) (hu : P.underlying t = some (.pointer e)) : (Op.equalIn (n + 1) t (.pointer q) (.pointer none)).run P w = .ok q.isNone w := by
  cases q <;> simp [Op.equalIn, run_underlying hu]
theorem run_eql_pn {t e : TypeId} (q : Option Addr) (hu : P.underlying t = some (.pointer e)) : (binOp .eql t (.pointer q) (.pointer none)).run P w = .ok (.bool q.isNone) w := by
  simp only [binOp]
  simp [Op.equal, Op.maxDepth, run_equalIn_pn 9999 q hu]
theorem run_neq_pn {t e : TypeId} (q : Option Addr) (hu : P.underlying t = some (.pointer e)) : (binOp .neq t (.pointer q) (.pointer none)).run P w = .ok (.bool (!q.isNone)) w := by
  simp only [binOp]
  simp [Op.equal, Op.maxDepth, run_equalIn_pn 9999 q hu]
theorem ptr_of (hT : TOk P T) {t a b e : Nat} {z : List Value} (h : T t = some ⟨a, b, .ptr e, z⟩) : P.underlying t = some (.pointer e) := by
  obtain ⟨i, dd, z, h1, h2, h3, h4, h5, _⟩ := (hT _ _ h).out
  rw [show dd = .pointer e from h5] at h2
  exact h2
theorem ptrNil_rep {x : D} {v : Value} {b : Bool} (h : ptrNil x = some b) (hr : RepD p C w x v) : ∃ q : Option Addr, v = .pointer q ∧ q.isNone = b := by
  unfold ptrNil at h
  split at h
  · cases h
    obtain rfl := repV hr
    exact ⟨none, rfl, rfl⟩
  · cases h
    cases hr with
    | pt b o U cs hC hr => exact ⟨_, rfl, rfl⟩
  · cases h
    obtain ⟨b, o, rfl, _⟩ := hr
    exact ⟨_, rfl, rfl⟩
  · cases h
theorem nil_goes (hT : TOk P T) {op : BinOp} {t : Nat} {dx dy d : D} {vx vy : Value} {φ : Prop} (hx : RepD p C w dx vx) (hy : RepD p C w dy vy) (h : effNil T op t dx dy = some (φ, d)) :
    ∃ v, (∀ x y, (do eqGuard op t x y vx vy; binOp op t vx vy : Sem Value).run P w = .ok v w) ∧ RepD p C w d v := by
  unfold effNil at h
  split at h
  · rename_i hti h1 h2
    obtain ⟨q, rfl, rfl⟩ := ptrNil_rep h1 hx
    obtain ⟨q', rfl, hq⟩ := ptrNil_rep h2 hy
    cases q' with
    | some a => cases hq
    | none =>
      split at h
      · cases h
        refine ⟨_, fun x y => ?_, repV_mk rfl⟩
        have hg : (eqGuard .eql t x y (.pointer q) (.pointer none)).run P w = .ok () w := rfl
        simp only [Sem.run_bind, hg, Result.andThen_ok]
        exact run_eql_pn q (ptr_of hT hti)
      · cases h
        refine ⟨_, fun x y => ?_, repV_mk rfl⟩
        have hg : (eqGuard .neq t x y (.pointer q) (.pointer none)).run P w = .ok () w := rfl
        simp only [Sem.run_bind, hg, Result.andThen_ok]
        exact run_neq_pn q (ptr_of hT hti)
      · cases h
  · cases h
theorem bin_goes (hT : TOk P T) {op : BinOp} {t : Nat} {dx dy d : D} {vx vy : Value} {φ : Prop} (hx : RepD p C w dx vx) (hy : RepD p C w dy vy) (h : effBin T op t dx dy = some (φ, d)) (hφ : φ) :
    ∃ v, (∀ x y, (do eqGuard op t x y vx vy; binOp op t vx vy : Sem Value).run P w = .ok v w) ∧ RepD p C w d v := by
  unfold effBin at h
  split at h
  · rename_i k a k' b
    obtain rfl := repV hx
    obtain rfl := repV hy
    rw [Option.map_eq_some_iff] at h
    obtain ⟨⟨φ', v⟩, h1, h2⟩ := h
    simp only [Prod.mk.injEq] at h2
    obtain ⟨rfl, rfl⟩ := h2
    refine ⟨v, fun x y => ?_, repV_mk (intV_one h1)⟩
    have := run_intV (P := P) w (t := t) h1 hφ
    have hg : (eqGuard op t x y (.int k a) (.int k' b)).run P w = .ok () w := by cases op <;> rfl
    simp only [Sem.run_bind, hg, Result.andThen_ok, this]
  · rename_i a b
    obtain rfl := repV hx
    obtain rfl := repV hy
    rw [Option.map_eq_some_iff] at h
    obtain ⟨⟨φ', v⟩, h1, h2⟩ := h
    simp only [Prod.mk.injEq] at h2
    obtain ⟨rfl, rfl⟩ := h2
    refine ⟨v, fun x y => ?_, repV_mk (strV_one h1)⟩
    have := run_strV (P := P) w (t := t) h1 hφ
    have hg : (eqGuard op t x y (.string a) (.string b)).run P w = .ok () w := by cases op <;> rfl
    simp only [Sem.run_bind, hg, Result.andThen_ok, this]
  · rename_i k a k' b
    obtain rfl := repV hx
    obtain rfl := repV hy
    rw [Option.map_eq_some_iff] at h
    obtain ⟨⟨φ', v⟩, h1, h2⟩ := h
    simp only [Prod.mk.injEq] at h2
    obtain ⟨rfl, rfl⟩ := h2
    refine ⟨v, fun x y => ?_, repV_mk (floatV_one h1)⟩
    have := run_floatV (P := P) w (t := t) h1 hφ
    have hg : (eqGuard op t x y (.float k a) (.float k' b)).run P w = .ok () w := by cases op <;> rfl
    simp only [Sem.run_bind, hg, Result.andThen_ok, this]
  · rename_i a b
    obtain rfl := repV hx
    obtain rfl := repV hy
    split at h
    · rename_i hti
      cases h
      obtain ⟨i, dd, z, h1, h2, h3, h4, h5, _⟩ := (hT _ _ hti).out
      obtain rfl : dd = .bool := h5
      refine ⟨_, fun x y => ?_, repV_mk rfl⟩
      have hg : (eqGuard .eql t x y (.bool a) (.bool b)).run P w = .ok () w := rfl
      simp only [Sem.run_bind, hg, Result.andThen_ok]
      exact run_eql_bool a b h2
    · rename_i hti
      cases h
      obtain ⟨i, dd, z, h1, h2, h3, h4, h5, _⟩ := (hT _ _ hti).out
      obtain rfl : dd = .bool := h5
      refine ⟨_, fun x y => ?_, repV_mk rfl⟩
      have hg : (eqGuard .neq t x y (.bool a) (.bool b)).run P w = .ok () w := rfl
      simp only [Sem.run_bind, hg, Result.andThen_ok]
      exact run_neq_bool a b h2
    · cases h
  · rename_i c c'
    obtain ⟨vs, rfl, hr⟩ := hx
    obtain ⟨us, rfl, hs⟩ := hy
    have key : (eqD T 9 t (.agg c) (.agg c')).1 → P.eqGuardType P.depth t = false ∧ (Op.equalIn 10000 t (.agg vs.toArray) (.agg us.toArray)).run P w = .ok (eqD T 9 t (.agg c) (.agg c')).2 w := fun hφ => by
      refine ⟨?_, eqD_agg_run hT 9 (x := .agg c) (y := .agg c') (vx := .agg vs.toArray) (vy := .agg us.toArray) ⟨vs, rfl, hr⟩ ⟨us, rfl, hs⟩ hφ 10000 (by decide)⟩
      obtain ⟨ti, hti, e1, e2⟩ := eqD_pl hφ
      obtain ⟨i, dd, z, h1, h2, _⟩ := (hT _ _ hti).out
      exact ((hT _ _ hti).wide e1 e2 _ h2).2.1
    split at h
    · cases h
      obtain ⟨k1, k2⟩ := key hφ
      refine ⟨_, fun x y => ?_, repV_mk rfl⟩
      simp only [Sem.run_bind, run_eqGuard_agg w .eql t x y _ _ k1, Result.andThen_ok, run_eql_struct, k2]
    · cases h
      obtain ⟨k1, k2⟩ := key hφ
      refine ⟨_, fun x y => ?_, repV_mk rfl⟩
      simp only [Sem.run_bind, run_eqGuard_agg w .neq t x y _ _ k1, Result.andThen_ok, run_neq_struct, k2]
    · cases h
  · exact nil_goes hT hx hy h

theorem un_goes {op : UnOp} {dx d : D} {vx : Value} {φ : Prop} (hx : RepD p C w dx vx) (h : effUn op dx = some (φ, d)) :
    ∃ v, (Op.unary op vx).run P w = .ok v w ∧ RepD p C w d v := by
  unfold effUn at h
  split at h
  · obtain rfl := repV hx; cases h; exact ⟨_, rfl, repV_mk rfl⟩
  · obtain rfl := repV hx; cases h; exact ⟨_, rfl, repV_mk rfl⟩
  · obtain rfl := repV hx; cases h; exact ⟨_, rfl, repV_mk (bitsV_one _ _ _ _)⟩
  · cases h

theorem mem_of {id : Nat} {blk : Blk} {g : Nat} (hR : RM X p w) (hb : p.mem id = some blk) (hg : p.μ id = some g) : MemAt p (CW X p w) w g 0 blk.cells := by
  have := hR.blk id blk hb
  simp only [BlkOk, hg] at this
  obtain ⟨_, _, _, _, cur, e, lo, hi, g4, _, _, g7⟩ := this
  intro j x hx
  obtain ⟨u, h1, h2⟩ := g7 j x hx
  rw [obj_of_cell hx] at g4
  exact ⟨u, by rw [Nat.zero_add, cell_row g4]; exact h1, h2⟩

theorem mem_es {b o : Nat} {cs : List E} (h : ∀ j e, cs[j]? = some e → ∃ u, C b (o + j) u ∧ RepE C e u) (hC : ∀ b o u, C b o u → w.cell? ⟨b, o, none⟩ = some u) : MemAt p C w b o (Cs.es cs).d0 := by
  intro j x hx
  simp only [Cs.d0, List.getElem?_map, Option.map_eq_some_iff] at hx
  obtain ⟨e, h1, rfl⟩ := hx
  obtain ⟨u, h2, h3⟩ := h j e h1
  exact ⟨u, hC _ _ _ h2, h3⟩

theorem flatten_at {z : Nat} : ∀ (xs : List (List E)), (∀ cs ∈ xs, cs.length = z) → ∀ i j, j < z → xs.flatten[i * z + j]? = (xs.getD i [])[j]?
  | [], _, i, j, _ => by simp
  | x :: xs, h, i, j, hj => by
    have hx : x.length = z := h x (by simp)
    cases i with
    | zero => simp [hj, hx, List.getElem?_append_left]
    | succ i =>
      have ih := flatten_at xs (fun cs hc => h cs (by simp [hc])) i j hj
      rw [List.flatten_cons, List.getElem?_append_right (by rw [hx, Nat.succ_mul]; omega)]
      have : (i + 1) * z + j - x.length = i * z + j := by rw [hx, Nat.succ_mul]; omega
      rw [this, ih]
      simp

theorem mem_row {id z : Nat} {xs : List (List E)} {ver pub g : Nat} (hR : RM X p w) (hb : p.mem id = some ⟨ver, .row z xs, pub⟩) (hg : p.μ id = some g) (i : Nat) :
    MemAt p (CW X p w) w g (i * z) (Cs.es (xs.getD i [])).d0 := by
  have hm := mem_of hR hb hg
  have hok : (Body.row z xs).ok := by
    have := hR.blk id _ hb
    simp only [BlkOk, hg] at this
    exact this.1
  intro j x hx
  simp only [Cs.d0, List.getElem?_map, Option.map_eq_some_iff] at hx
  obtain ⟨e, h1, rfl⟩ := hx
  have hj : j < z := by
    have hjl := (List.getElem?_eq_some_iff.1 h1).1
    by_cases hi : i < xs.length
    · rw [List.getD_eq_getElem?_getD, List.getElem?_eq_getElem hi] at hjl
      simp only [Option.getD_some] at hjl
      rw [hok.2 _ (List.getElem_mem hi)] at hjl
      exact hjl
    · simp [List.getD_eq_getElem?_getD, List.getElem?_eq_none (Nat.le_of_not_lt hi)] at hjl
  have := flatten_at xs hok.2 i j hj
  obtain ⟨u, h2, h3⟩ := hm (i * z + j) (.e e) (by
    show (xs.flatten.map D0.e)[i * z + j]? = _
    rw [List.getElem?_map, this, h1]; rfl)
  exact ⟨u, by rw [Nat.zero_add] at h2; exact h2, h3⟩

theorem CW_cell {b o : Nat} {u : Value} (h : CW X p w b o u) : w.cell? ⟨b, o, none⟩ = some u := h.1

theorem loadE_goes (hT : TOk P T) (hR : RM X p w) {t : Nat} {ti : TI} (ht : T t = some ti) {dx d : D} {vx : Value} {φ : Prop} (hx : RepD p (CW X p w) w dx vx) (h : effLoad ti p.mem dx = some (φ, d)) (hφ : φ) :
    ∃ v, (Instr.loadAt t vx).run P w = .ok v w ∧ RepD p (CW X p w) w d v := by
  have hti := hT _ _ ht
  unfold effLoad at h
  split at h
  · rename_i cs
    simp only [Option.some.injEq] at h
    obtain ⟨b, o, rfl, hc⟩ := hx
    have := load_goes (p := p) (C := CW X p w) (b := b) hti (c := .es cs) (o := o) (k := 0) (mem_es (p := p) hc fun _ _ _ h => h.1) (by rw [h]; exact hφ)
    rw [h] at this
    exact this
  · rename_i id ver off
    split at h
    · rename_i bv c pub hb
      cases hv : Nat.beq bv ver with
      | false => simp [hv] at h
      | true =>
        obtain rfl := Nat.eq_of_beq_eq_true hv
        simp only [hv, cond_true, Option.some.injEq] at h
        obtain ⟨blk, h1, h2, h3⟩ := hx.2
        rw [hb] at h1
        cases h1
        obtain ⟨g, hg, rfl⟩ := h3 rfl
        have hm := mem_of hR hb hg
        have := load_goes hti (c := c) (o := 0) (k := off) hm (by rw [h]; exact hφ)
        rw [h] at this
        simpa using this
    · cases h
  · rename_i id ver i j
    split at h
    · rename_i bv z xs pub hb
      cases hv : Nat.beq bv ver with
      | false => simp [hv] at h
      | true =>
        obtain rfl := Nat.eq_of_beq_eq_true hv
        simp only [hv, cond_true, Option.some.injEq, Prod.mk.injEq] at h
        obtain ⟨rfl, rfl⟩ := h
        obtain ⟨_, blk, h1, h2, h3⟩ := hx
        rw [hb] at h1
        cases h1
        obtain ⟨g, hg, rfl⟩ := h3 rfl
        exact load_goes hti (mem_row hR hb hg i) hφ
    · cases h
  · cases h
theorem chunksE_len {z n : Nat} {cs : List E} : (chunksE z n cs).length = n := by simp [chunksE]
theorem chunksE_get {z n : Nat} {cs : List E} {i : Nat} {ch : List E} (h : (chunksE z n cs)[i]? = some ch) : i < n ∧ ch = (cs.drop (i * z)).take z := by
  have hi := (List.getElem?_eq_some_iff.1 h).1
  rw [chunksE_len] at hi
  refine ⟨hi, ?_⟩
  unfold chunksE at h
  rw [List.getElem?_map, List.getElem?_range hi] at h
  exact (Option.some.inj h).symm
theorem chunksE_z {z n : Nat} {cs : List E} (h : n * z ≤ cs.length) : ∀ c ∈ chunksE z n cs, c.length = z := by
  intro c hc
  obtain ⟨i, hi⟩ := List.getElem?_of_mem hc
  obtain ⟨h1, rfl⟩ := chunksE_get hi
  have : (i + 1) * z ≤ n * z := Nat.mul_le_mul_right _ h1
  rw [Nat.succ_mul] at this
  rw [List.length_take, List.length_drop]
  omega
theorem chunksE_succ {z n : Nat} {cs : List E} : chunksE z (n + 1) cs = chunksE z n cs ++ [(cs.drop (n * z)).take z] := by
  unfold chunksE
  rw [List.range_succ, List.map_append]
  rfl
theorem chunksE_flat {z : Nat} {cs : List E} : ∀ n, n * z ≤ cs.length → (chunksE z n cs).flatten = cs.take (n * z)
  | 0, _ => by simp [chunksE]
  | n + 1, h => by
    have h' : n * z ≤ cs.length := by rw [Nat.succ_mul] at h; omega
    rw [chunksE_succ, List.flatten_append, chunksE_flat n h', Nat.succ_mul, List.take_add]
    simp
theorem bsl_mem {id ver pub g : Nat} {cs : List E} (hR : RM X p w) (hb : p.mem id = some ⟨ver, .box (.es cs), pub⟩) (hg : p.μ id = some g) (off m : Nat) :
    MemAt p (CW X p w) w g off (((cs.drop off).take m).map .e) := by
  have h := (mem_of hR hb hg).sub off m
  rw [Nat.zero_add] at h
  have e : (((Blk.mk ver (.box (.es cs)) pub).cells.drop off).take m) = ((cs.drop off).take m).map D0.e := by
    simp only [Blk.cells, Body.cells, Cs.d0, List.map_drop, List.map_take]
  rw [e] at h
  exact h

end
end Go.Proofs.YtcdifgacoleckaaDoor.Ab
namespace Go.Proofs.YtcdifgacoleckaaDoor.Ab
open Go Go.RowKit

section
variable {P : Program} {T : Nat → Option TI} {X : Ctx} {p : Rho} {w : World} {C : Nat → Nat → Value → Prop}

theorem field_goes (hT : TOk P T) {s f : Nat} {dx d : D} {vx : Value} {φ : Prop} (hx : RepD p C w dx vx) (h : effField T s f dx = some (φ, d))
    (hlive : ∀ id ver off, dx = .one (.ptr id ver off) → ∃ blk, p.mem id = some blk ∧ ver = blk.ver)
    (hlive' : ∀ id ver i j, dx = .one (.rptr id ver i j) → ∃ blk, p.mem id = some blk ∧ ver = blk.ver) :
    ∃ v, (Instr.fieldAt s vx f).run P w = .ok v w ∧ RepD p C w d v := by
  unfold effField at h
  split at h
  · rename_i sz by_ fs z hs
    obtain ⟨F, hF, hfs⟩ := struct_of hT hs
    split at h
    · rename_i o ft hf
      obtain ⟨fd, hfd, rfl, rfl⟩ := field_of hfs hf
      split at h
      · rename_i ti hti
        cases hz : Nat.beq ti.size 0 with
        | true => simp [hz] at h
        | false =>
          simp only [hz, cond_false] at h
          have hne : ti.size ≠ 0 := fun e => by rw [e] at hz; cases hz
          have hsz := (hT _ _ hti).size w
          have hrun : ∀ b o, (Instr.fieldAt s (.pointer (some ⟨b, o, none⟩)) f).run P w = .ok (.pointer (some ⟨b, o + fd.offset, none⟩)) w := fun b o => by
            simp [Instr.fieldAt, run_underlying hF, hfd, Instr.sureAddr, fieldPlace, hsz, hne, add_at]
          split at h
          · rename_i id ver off
            cases h
            obtain ⟨h0, blk, h1, h2, h3⟩ := hx
            obtain ⟨blk', k1, k2⟩ := hlive _ _ _ rfl
            rw [h1] at k1
            cases k1
            obtain ⟨g, hg, rfl⟩ := h3 k2
            exact ⟨_, hrun g off, rfl, blk, h1, h2, fun _ => ⟨g, hg, rfl⟩⟩
          · rename_i cs
            cases h
            obtain ⟨b, o, rfl, hc⟩ := hx
            refine ⟨_, hrun b o, b, o + fd.offset, rfl, fun j e he => ?_⟩
            rw [List.getElem?_drop] at he
            rw [Nat.add_assoc]
            exact hc _ e he
          · rename_i id ver i j
            cases h
            obtain ⟨h0, blk, h1, h2, h3⟩ := hx
            obtain ⟨blk', k1, k2⟩ := hlive' _ _ _ _ rfl
            rw [h1] at k1
            cases k1
            obtain ⟨g, hg, rfl⟩ := h3 k2
            refine ⟨_, hrun g _, rfl, blk, h1, h2, fun _ => ⟨g, hg, ?_⟩⟩
            rw [Nat.add_assoc]
          · cases h
      · cases h
    · cases h
  · cases h

theorem fieldV_goes (hT : TOk P T) {s f : Nat} {dx d : D} {vx : Value} {φ : Prop} (hx : RepD p C w dx vx) (h : effFieldV T s f dx = some (φ, d)) (hφ : φ) :
    ∃ v, (Instr.field s vx f).run P w = .ok v w ∧ RepD p C w d v := by
  unfold effFieldV at h
  split at h
  · rename_i sz by_ fs z hs
    obtain ⟨F, hF, hfs⟩ := struct_of hT hs
    split at h
    · rename_i o ft hf
      obtain ⟨fd, hfd, rfl, rfl⟩ := field_of hfs hf
      split at h
      · rename_i ti c hti
        simp only [Option.some.injEq] at h
        obtain ⟨vs, rfl, hr⟩ := hx
        obtain ⟨v, h1, h2⟩ := part_goes (hT _ _ hti) hr (o := fd.offset) (by rw [h]; exact hφ)
        rw [h] at h2
        exact ⟨v, by simp [Instr.field, run_underlying hF, hfd, asAgg, h1], h2⟩
      · cases h
    · cases h
  · cases h

theorem repE_sl {xs : List (List E)} {v : Value} (h : RepE C (.sl xs) v) : ∃ A n cap z b o, ∃ U : Nat → Nat → Value, v = .slice A n cap ∧ xs.length = n ∧ n ≤ cap ∧ cap ≤ maxLen ∧ (0 < n → A = some ⟨b, o, none⟩) ∧ (∀ cs ∈ xs, cs.length = z) ∧
    (∀ i cs j e, xs[i]? = some cs → cs[j]? = some e → C b (o + i * z + j) (U i j)) ∧ (∀ i cs j e, xs[i]? = some cs → cs[j]? = some e → RepE C e (U i j)) := by
  cases h with
  | sl A n cap z b o U xs hn hc hm hA hz hC hr => exact ⟨A, n, cap, z, b, o, U, rfl, hn, hc, hm, hA, hz, hC, hr⟩

theorem getD_some {α : Type} {xs : List α} {i : Nat} {d : α} (h : i < xs.length) : xs[i]? = some (xs.getD i d) := by simp [h]

theorem indexA_goes (hT : TOk P T) {t : Nat} {dx di d : D} {vx vi : Value} {φ : Prop} (hx : RepD p C w dx vx) (hi : RepD p C w di vi) (h : effIndexA T p.mem t dx di = some (φ, d)) (hφ : φ)
    (hlive : ∀ id ver off, dx = .one (.ptr id ver off) → ∃ blk, p.mem id = some blk ∧ ver = blk.ver)
    (hlive' : ∀ id ver i j, dx = .one (.rptr id ver i j) → ∃ blk, p.mem id = some blk ∧ ver = blk.ver) :
    ∃ v, (Instr.indexAt t vx vi).run P w = .ok v w ∧ RepD p C w d v := by
  unfold effIndexA at h
  split at h
  · rename_i k n
    obtain rfl := repV hi
    split at h
    · rename_i a b e z ht
      have hu := slice_of hT ht
      split at h
      · rename_i ti xs hti
        cases h
        have hsz := (hT _ _ hti).size w
        obtain ⟨A, m, cap, z, b, o, U, rfl, hn, hc, hm, hA, hz, hC, hr⟩ := repE_sl hx
        obtain ⟨h0, h1, h2⟩ := hφ
        have hlt : n.toNat < xs.length := by omega
        have hg := getD_some (d := []) hlt
        have hz2 : z = ti.size := by rw [← h2]; exact (hz _ (List.mem_of_getElem? hg)).symm
        have hAe := hA (by omega)
        subst hAe
        refine ⟨.pointer (some ⟨b, o + n.toNat * ti.size, none⟩), ?_, b, _, rfl, fun j e he => ⟨U n.toNat j, ?_, hr _ _ _ _ hg he⟩⟩
        · simp [Instr.indexAt, asIntOf, run_underlying hu, h0, show n < (m : Int) by omega, hsz, add_at]
        · have := hC _ _ _ _ hg he
          rw [hz2] at this
          exact this
      · rename_i ti id ver hti
        have hsz := (hT _ _ hti).size w
        split at h
        · rename_i bv z xs pub hb
          cases hv : (Nat.beq bv ver && Nat.beq z ti.size) with
          | false => simp [hv] at h
          | true =>
            simp only [hv, cond_true, Option.some.injEq, Prod.mk.injEq] at h
            obtain ⟨rfl, rfl⟩ := h
            simp only [Bool.and_eq_true] at hv
            obtain rfl := Nat.eq_of_beq_eq_true hv.1
            have hz := Nat.eq_of_beq_eq_true hv.2
            obtain ⟨_, blk, h1, h2, h3⟩ := hx
            rw [hb] at h1
            cases h1
            obtain ⟨z', n', q1, q2, q3⟩ := h3 rfl
            simp only [Body.shape, Prod.mk.injEq] at q1
            obtain ⟨rfl, rfl⟩ := q1
            rcases q3 with ⟨q3, _⟩ | ⟨g, cap, g1, rfl, g3, g4, g5⟩
            · omega
            · refine ⟨.pointer (some ⟨g, n.toNat * ti.size, none⟩), ?_, rfl, _, hb, Nat.le_refl _, fun _ => ⟨g, g1, ?_⟩⟩
              · simp [Instr.indexAt, asIntOf, run_underlying hu, hφ.1, hφ.2, hsz, add_at]
              · simp [Body.shape, hz]
        · cases h
      · rename_i ti id ver off z m hti
        have hsz := (hT _ _ hti).size w
        split at h
        · rename_i bv bd pub hb
          cases hv : (Nat.beq bv ver && Nat.beq z ti.size) with
          | false => simp [hv] at h
          | true =>
            simp only [hv, cond_true, Option.some.injEq, Prod.mk.injEq] at h
            obtain ⟨rfl, rfl⟩ := h
            simp only [Bool.and_eq_true] at hv
            obtain rfl := Nat.eq_of_beq_eq_true hv.1
            obtain ⟨_, blk, h1, h2, h3⟩ := hx
            rw [hb] at h1
            cases h1
            obtain ⟨z0, q1, g, cap, g1, rfl, g3, g4⟩ := h3 rfl
            refine ⟨.pointer (some ⟨g, off + n.toNat * ti.size, none⟩), ?_, rfl, _, hb, Nat.le_refl _, fun _ => ⟨g, g1, rfl⟩⟩
            simp [Instr.indexAt, asIntOf, run_underlying hu, hφ.1, hφ.2, hsz, add_at]
        · cases h
      · cases h
    · rename_i a b len e z ht
      have hu := arr_of hT ht
      have hrun : ∀ (ti : TI), T e = some ti → (0 ≤ n ∧ n < (len : Int)) → ∀ b o, (Instr.indexAt t (.pointer (some ⟨b, o, none⟩)) (.int k n)).run P w = .ok (.pointer (some ⟨b, o + n.toNat * ti.size, none⟩)) w := fun ti hti hb b o => by
        have hsz := (hT _ _ hti).size w
        simp [Instr.indexAt, asIntOf, run_underlying hu, hb.1, hb.2, hsz, add_at, Instr.sureAddr]
      split at h
      · rename_i ti cs hti
        cases h
        obtain ⟨b, o, rfl, hc⟩ := hx
        refine ⟨_, hrun ti hti hφ b o, b, _, rfl, fun j e he => ?_⟩
        rw [List.getElem?_drop] at he
        rw [Nat.add_assoc]
        exact hc _ e he
      · rename_i ti id ver off hti
        cases h
        obtain ⟨h0, blk, h1, h2, h3⟩ := hx
        obtain ⟨blk', k1, k2⟩ := hlive _ _ _ rfl
        rw [h1] at k1
        cases k1
        obtain ⟨g, hg, rfl⟩ := h3 k2
        exact ⟨_, hrun ti hti hφ g off, rfl, blk, h1, h2, fun _ => ⟨g, hg, rfl⟩⟩
      · rename_i ti id ver i j hti
        cases h
        obtain ⟨h0, blk, h1, h2, h3⟩ := hx
        obtain ⟨blk', k1, k2⟩ := hlive' _ _ _ _ rfl
        rw [h1] at k1
        cases k1
        obtain ⟨g, hg, rfl⟩ := h3 k2
        refine ⟨_, hrun ti hti hφ g _, rfl, blk, h1, h2, fun _ => ⟨g, hg, ?_⟩⟩
        rw [Nat.add_assoc]
      · cases h
    · cases h
  · cases h

theorem indexV_goes (hT : TOk P T) {t : Nat} {dx di d : D} {vx vi : Value} {φ : Prop} (hx : RepD p C w dx vx) (hi : RepD p C w di vi) (h : effIndexV T t dx di = some (φ, d)) (hφ : φ) :
    ∃ v, (Instr.index t vx vi).run P w = .ok v w ∧ RepD p C w d v := by
  unfold effIndexV at h
  split at h
  · rename_i k n
    obtain rfl := repV hi
    split at h
    · rename_i a b len e z c ht
      have hu := arr_of hT ht
      split at h
      · rename_i ti hti
        simp only [Option.some.injEq, Prod.mk.injEq] at h
        obtain ⟨rfl, rfl⟩ := h
        have hsz := (hT _ _ hti).size w
        obtain ⟨vs, rfl, hr⟩ := hx
        obtain ⟨v, h1, h2⟩ := part_goes (hT _ _ hti) hr hφ.2.2
        exact ⟨v, by simp [Instr.index, asIntOf, run_underlying hu, hφ.1, hφ.2.1, hsz, h1], h2⟩
      · cases h
    · rename_i a b z s ht
      have hu := str_of hT ht
      obtain rfl := repV hx
      cases h
      have hlt : n.toNat < s.size := by omega
      have hge : s[n.toNat]? = some s[n.toNat] := by simp [hlt]
      refine ⟨.int .u8 (s[n.toNat].toNat : Int), by simp [Instr.index, asIntOf, run_underlying hu, hφ.1, hge], ?_⟩
      have he : s.data.toList.getD n.toNat 0 = s[n.toNat] := by
        have : n.toNat < s.data.toList.length := by simpa using hlt
        rw [List.getD_eq_getElem?_getD, List.getElem?_eq_getElem this]
        rfl
      rw [he]
      exact repV_mk rfl
    · cases h
  · cases h

theorem len_goes (hT : TOk P T) {t : Nat} {dx d : D} {vx : Value} {φ : Prop} (hx : RepD p C w dx vx) (h : effLen T p.mem t dx = some (φ, d)) (ty : TypeId) :
    ∃ v, (Builtin.len_ #[t] ty #[vx]).run P w = .ok v w ∧ RepD p C w d v := by
  unfold effLen at h
  split at h
  · rename_i a b e z ht
    have hu := slice_of hT ht
    have hrun : ∀ A n c, (Builtin.len_ #[t] ty #[.slice A n c]).run P w = .ok (.int .i64 (n : Int)) w := fun A n c => by simp [Builtin.len_, run_underlying hu, goInt]
    split at h
    · rename_i xs
      cases h
      obtain ⟨A, m, cap, z, b, o, U, rfl, hn, _⟩ := repE_sl hx
      exact ⟨_, hrun _ _ _, by rw [hn]; exact repV_mk rfl⟩
    · cases h
      obtain rfl : vx = .slice none 0 0 := hx
      exact ⟨_, hrun _ _ _, repV_mk rfl⟩
    · rename_i id ver
      split at h
      · rename_i bv z xs pub hb
        cases hv : Nat.beq bv ver with
        | false => simp [hv] at h
        | true =>
          obtain rfl := Nat.eq_of_beq_eq_true hv
          simp only [hv, cond_true, Option.some.injEq, Prod.mk.injEq] at h
          obtain ⟨rfl, rfl⟩ := h
          obtain ⟨_, blk, h1, h2, h3⟩ := hx
          rw [hb] at h1
          cases h1
          obtain ⟨z', n', q1, q2, q3⟩ := h3 rfl
          simp only [Body.shape, Prod.mk.injEq] at q1
          obtain ⟨rfl, rfl⟩ := q1
          rcases q3 with ⟨q3, A, rfl⟩ | ⟨g, cap, g1, rfl, g3, g4, g5⟩
          · exact ⟨_, hrun _ _ _, by rw [q3]; exact repV_mk rfl⟩
          · exact ⟨_, hrun _ _ _, repV_mk rfl⟩
      · cases h
    · rename_i id ver off z n
      split at h
      · rename_i bv body pub hb
        cases hv : Nat.beq bv ver with
        | false => simp [hv] at h
        | true =>
          obtain rfl := Nat.eq_of_beq_eq_true hv
          simp only [hv, cond_true, Option.some.injEq, Prod.mk.injEq] at h
          obtain ⟨rfl, rfl⟩ := h
          obtain ⟨_, blk, h1, h2, h3⟩ := hx
          rw [hb] at h1
          cases h1
          obtain ⟨_, _, g, cap, _, rfl, _⟩ := h3 rfl
          exact ⟨_, hrun _ _ _, repV_mk rfl⟩
      · cases h
    · cases h
  · rename_i a b z ht
    have hu := str_of hT ht
    split at h
    · rename_i s
      cases h
      obtain rfl := repV hx
      exact ⟨.int .i64 (s.size : Int), by simp [Builtin.len_, run_underlying hu, goInt], repV_mk rfl⟩
    · cases h
  · cases h
end
end Go.Proofs.YtcdifgacoleckaaDoor.Ab
namespace Go.Proofs.YtcdifgacoleckaaDoor.Ab
open Go Go.RowKit Go.MapKept

section
variable {P : Program} {T : Nat → Option TI} {X : Ctx} {p : Rho} {w : World} {C : Nat → Nat → Value → Prop}

theorem ptn_rep {x : D} {v : Value} (h : RepD p C w x v) : RepD p C w x.ptn v := by
  unfold D.ptn
  split
  · rename_i cs
    cases h with
    | pt b o U _ hC hr => exact ⟨b, o, rfl, fun j e he => ⟨U j, hC j e he, hr j e he⟩⟩
  · exact h
theorem liveB_ptr {x : D} (h : liveB p.mem x = true) : (∀ id ver off, x = .one (.ptr id ver off) → ∃ blk, p.mem id = some blk ∧ ver = blk.ver) ∧
    (∀ id ver i j, x = .one (.rptr id ver i j) → ∃ blk, p.mem id = some blk ∧ ver = blk.ver) := by
  refine ⟨fun id ver off e => ?_, fun id ver i j e => ?_⟩ <;>
  · subst e
    simp only [liveB] at h
    split at h
    · rename_i b hb
      exact ⟨b, hb, (Nat.eq_of_beq_eq_true h).symm⟩
    · cases h

theorem lo_goes {lo : Option D} {vlo : Option Value} (hl : ∀ x, lo = some x → ∃ v, vlo = some v ∧ RepD p C w x v) (hn : lo = none → vlo = none) {l : Int} (h : loInt lo = some l) (y : Nat) (code : BoundsCode) (h0 : 0 ≤ l) (h1 : l ≤ y) :
    (match (generalizing := false) vlo with | some v => Instr.sliceBound v y code | none => pure 0 : Sem Nat).run P w = .ok l.toNat w := by
  unfold loInt at h
  split at h
  · cases h; rw [hn rfl]; rfl
  · rename_i k n
    cases h
    obtain ⟨v, rfl, hv⟩ := hl _ rfl
    obtain rfl := repV hv
    simp [Instr.sliceBound, asIntOf, h0, h1]
  · cases h
theorem hi_goes {hi : Option D} {vhi : Option Value} (hl : ∀ x, hi = some x → ∃ v, vhi = some v ∧ RepD p C w x v) (hn : hi = none → vhi = none) {len : Nat} {h' : Int} (h : hiInt hi len = some h') (m : Nat) (code : BoundsCode) (h0 : 0 ≤ h') (h1 : h' ≤ m) :
    (match (generalizing := false) vhi with | some v => Instr.sliceBound v m code | none => pure len : Sem Nat).run P w = .ok h'.toNat w := by
  unfold hiInt at h
  split at h
  · cases h; rw [hn rfl]; rfl
  · rename_i k n
    cases h
    obtain ⟨v, rfl, hv⟩ := hl _ rfl
    obtain rfl := repV hv
    simp [Instr.sliceBound, asIntOf, h0, h1]
  · cases h

theorem bounds_goes {lo hi : Option D} {vlo vhi : Option Value} (hl : ∀ x, lo = some x → ∃ v, vlo = some v ∧ RepD p C w x v) (hln : lo = none → vlo = none) (hh : ∀ x, hi = some x → ∃ v, vhi = some v ∧ RepD p C w x v) (hhn : hi = none → vhi = none)
    {len cap : Nat} {l h : Int} (h1 : loInt lo = some l) (h2 : hiInt hi len = some h) (h0 : 0 ≤ l) (hlh : l ≤ h) (hcap : h ≤ cap) (sl : Bool) :
    (Instr.sliceBounds sl len cap vlo vhi none).run P w = .ok (l.toNat, h.toNat, cap) w := by
  have a1 := lo_goes (P := P) hl hln h1 h.toNat .sliceB h0 (by omega)
  have a2 := hi_goes (P := P) hh hhn h2 cap (if sl then .sliceAcap else .sliceAlen) (by omega) hcap
  unfold Instr.sliceBounds
  cases vhi with
  | none =>
    cases vlo with
    | none => simp at a1 a2; simp [a1, a2]
    | some v => simp at a1 a2; simp [a1, a2]
  | some u =>
    cases vlo with
    | none => simp at a1 a2; simp [a1, a2]
    | some v => simp at a1 a2; simp [a1, a2]

theorem slice_goes (hT : TOk P T) {t : Nat} {dx d : D} {vx : Value} {lo hi : Option D} {vlo vhi : Option Value} {φ : Prop} (hx : RepD p C w dx vx) (hl : ∀ x, lo = some x → ∃ v, vlo = some v ∧ RepD p C w x v) (hln : lo = none → vlo = none) (hh : ∀ x, hi = some x → ∃ v, vhi = some v ∧ RepD p C w x v) (hhn : hi = none → vhi = none)
    (h : effSlice T t dx lo hi = some (φ, d)) (hφ : φ) :
    ∃ v, (Instr.sliceAt t vx vlo vhi none).run P w = .ok v w ∧ RepD p C w d v := by
  unfold effSlice at h
  split at h
  · rename_i a b z s ht
    have hu := str_of hT ht
    obtain rfl := repV hx
    split at h
    · rename_i l h' e1 e2
      cases h
      have hb := bounds_goes (P := P) hl hln hh hhn e1 e2 hφ.1 hφ.2.1 hφ.2.2 false
      exact ⟨_, by simp [Instr.sliceAt, Instr.slice, run_underlying hu, hb], repV_mk rfl⟩
    · cases h
  · rename_i a b e z xs ht
    have hu := slice_of hT ht
    split at h
    · rename_i ti l h' hti e1 e2
      cases h
      obtain ⟨A, m, cap, z', b', o, U, rfl, hn, hc, hm, hA, hz, hC, hr⟩ := repE_sl hx
      obtain ⟨f1, f2, f3, f4⟩ := hφ
      rw [hn] at e2
      have hb := bounds_goes (P := P) (cap := cap) hl hln hh hhn e1 e2 f1 f2 (by omega) true
      have hsz := (hT _ _ hti).size w
      refine ⟨.slice (if cap = l.toNat then A else A.map (·.add (l.toNat * ti.size))) (h'.toNat - l.toNat) (cap - l.toNat), by simp [Instr.sliceAt, Instr.slice, run_underlying hu, hb, hsz], ?_⟩
      have hlen : ((xs.drop l.toNat).take (h'.toNat - l.toNat)).length = h'.toNat - l.toNat := by
        rw [List.length_take, List.length_drop]; omega
      refine RepE.sl _ _ _ ti.size b' (o + l.toNat * ti.size) (fun i j => U (l.toNat + i) j) _ hlen (by omega) (by omega) (fun hpos => ?_) (fun cs hcs => f4 cs (List.mem_of_mem_drop (List.mem_of_mem_take hcs))) (fun i cs j e hi hj => ?_) (fun i cs j e hi hj => ?_)
      · rw [if_neg (by omega), hA (by omega)]
        simp [add_at]
      · rw [List.getElem?_take] at hi
        split at hi
        · rw [List.getElem?_drop] at hi
          have h1 := hC _ _ _ _ hi hj
          have hz1 : z' = ti.size := by rw [← hz _ (List.mem_of_getElem? hi), f4 _ (List.mem_of_getElem? hi)]
          rw [hz1, Nat.add_mul] at h1
          rw [show o + l.toNat * ti.size + i * ti.size + j = o + (l.toNat * ti.size + i * ti.size) + j by omega]
          exact h1
        · cases hi
      · rw [List.getElem?_take] at hi
        split at hi
        · rw [List.getElem?_drop] at hi
          exact hr _ _ _ _ hi hj
        · cases hi
    · cases h
  · rename_i a b len e z cs ht
    have hu := arr_of hT ht
    split at h
    · rename_i ti l h' hti e1 e2
      cases h
      obtain ⟨b', o, rfl, hc⟩ := hx
      obtain ⟨f1, f2, f3, f4, f5, f6⟩ := hφ
      have hb := bounds_goes (P := P) hl hln hh hhn e1 e2 f1 f3 f4 false
      have hsz := (hT _ _ hti).size w
      have hne : len ≠ l.toNat := by omega
      have hch : ∀ k, ∃ u, ∀ e, cs[k]? = some e → C b' (o + k) u ∧ RepE C e u := by
        intro k
        cases hk : cs[k]? with
        | none => exact ⟨undef, fun _ h => nomatch h⟩
        | some e =>
          obtain ⟨u, h1, h2⟩ := hc k e hk
          exact ⟨u, fun e' he => by cases he; exact ⟨h1, h2⟩⟩
      obtain ⟨g, hg⟩ := Classical.axiomOfChoice hch
      have hlz : l.toNat * ti.size + (h'.toNat - l.toNat) * ti.size = h'.toNat * ti.size := by rw [← Nat.add_mul]; congr 1; omega
      have hget : ∀ i xs, (chunksE ti.size (h'.toNat - l.toNat) (cs.drop (l.toNat * ti.size)))[i]? = some xs → i < h'.toNat - l.toNat ∧ xs = ((cs.drop (l.toNat * ti.size)).drop (i * ti.size)).take ti.size := by
        intro i xs hi
        unfold chunksE at hi
        rw [List.getElem?_map, Option.map_eq_some_iff] at hi
        obtain ⟨k, hk, rfl⟩ := hi
        obtain ⟨hk1, hk2⟩ := List.getElem?_eq_some_iff.1 hk
        rw [List.getElem_range] at hk2
        subst hk2
        exact ⟨by simpa using hk1, rfl⟩
      refine ⟨.slice (some ⟨b', o + l.toNat * ti.size, none⟩) (h'.toNat - l.toNat) (len - l.toNat), by simp [Instr.sliceAt, run_underlying hu, Instr.sureAddr, hb, hsz, hne, add_at], ?_⟩
      refine RepE.sl _ _ _ ti.size b' (o + l.toNat * ti.size) (fun i j => g (l.toNat * ti.size + (i * ti.size + j))) _ (by simp [chunksE]) (by omega) (by simp only [maxLen]; omega) (fun _ => rfl) (fun xs hxs => ?_) (fun i xs j e hi hj => ?_) (fun i xs j e hi hj => ?_)
      · obtain ⟨i, hi⟩ := List.getElem?_of_mem hxs
        obtain ⟨h1, rfl⟩ := hget i xs hi
        have h2 : (i + 1) * ti.size ≤ (h'.toNat - l.toNat) * ti.size := Nat.mul_le_mul_right _ (by omega)
        rw [Nat.add_mul, Nat.one_mul] at h2
        rw [List.length_take, List.length_drop, List.length_drop]
        omega
      · obtain ⟨h1, rfl⟩ := hget i xs hi
        rw [List.getElem?_take] at hj
        split at hj
        · rw [List.getElem?_drop, List.getElem?_drop] at hj
          have := (hg _ e hj).1
          rw [← Nat.add_assoc] at this
          rw [Nat.add_assoc (o + _)]
          exact this
        · cases hj
      · obtain ⟨h1, rfl⟩ := hget i xs hi
        rw [List.getElem?_take] at hj
        split at hj
        · rw [List.getElem?_drop, List.getElem?_drop] at hj
          exact (hg _ e hj).2
        · cases hj
    · cases h
  · cases h

theorem bounds3_goes {lo : Option D} {hi mx : D} {vlo : Option Value} {vhi vmx : Value} (hl : ∀ x, lo = some x → ∃ v, vlo = some v ∧ RepD p C w x v) (hln : lo = none → vlo = none) (hh : RepD p C w hi vhi) (hm : RepD p C w mx vmx)
    {len cap : Nat} {l h k : Int} (h1 : loInt lo = some l) (h2 : loInt (some hi) = some h) (h3 : loInt (some mx) = some k) (h0 : 0 ≤ l) (hlh : l ≤ h) (hhk : h ≤ k) (hcap : k ≤ cap) :
    (Instr.sliceBounds true len cap vlo (some vhi) (some vmx)).run P w = .ok (l.toNat, h.toNat, k.toNat) w := by
  have a1 := lo_goes (P := P) hl hln h1 h.toNat .slice3C h0 (by omega)
  have a2 := lo_goes (P := P) (lo := some hi) (vlo := some vhi) (fun x hx => ⟨vhi, rfl, by cases hx; exact hh⟩) (fun hx => nomatch hx) h2 k.toNat .slice3B (by omega) (by omega)
  have a3 := lo_goes (P := P) (lo := some mx) (vlo := some vmx) (fun x hx => ⟨vmx, rfl, by cases hx; exact hm⟩) (fun hx => nomatch hx) h3 cap .slice3Acap (by omega) (by omega)
  unfold Instr.sliceBounds
  cases vlo with
  | none => simp at a1 a2 a3; simp [a1, a2, a3]
  | some v => simp at a1 a2 a3; simp [a1, a2, a3]
theorem slice3_goes (hT : TOk P T) {t : Nat} {dx d : D} {vx : Value} {lo : Option D} {hi mx : D} {vlo : Option Value} {vhi vmx : Value} {φ : Prop} (hx : RepD p C w dx vx) (hl : ∀ x, lo = some x → ∃ v, vlo = some v ∧ RepD p C w x v) (hln : lo = none → vlo = none) (hh : RepD p C w hi vhi) (hm : RepD p C w mx vmx)
    (h : effSlice3 T t dx lo hi mx = some (φ, d)) (hφ : φ) :
    ∃ v, (Instr.sliceAt t vx vlo (some vhi) (some vmx)).run P w = .ok v w ∧ RepD p C w d v := by
  unfold effSlice3 at h
  split at h
  · rename_i a b e z xs ht
    have hu := slice_of hT ht
    split at h
    · rename_i ti l h' k hti e1 e2 e3
      cases h
      obtain ⟨A, m, cap, z', b', o, U, rfl, hn, hc, hmx, hA, hz, hC, hr⟩ := repE_sl hx
      obtain ⟨f1, f2, f3, f5, f4⟩ := hφ
      have hb := bounds3_goes (P := P) (len := m) (cap := cap) hl hln hh hm e1 e2 e3 f1 f2 f3 (by omega)
      have hsz := (hT _ _ hti).size w
      refine ⟨.slice (if k.toNat = l.toNat then A else A.map (·.add (l.toNat * ti.size))) (h'.toNat - l.toNat) (k.toNat - l.toNat), by simp [Instr.sliceAt, Instr.slice, run_underlying hu, hb, hsz], ?_⟩
      have hlen : ((xs.drop l.toNat).take (h'.toNat - l.toNat)).length = h'.toNat - l.toNat := by
        rw [List.length_take, List.length_drop]; omega
      refine RepE.sl _ _ _ ti.size b' (o + l.toNat * ti.size) (fun i j => U (l.toNat + i) j) _ hlen (by omega) (by omega) (fun hpos => ?_) (fun cs hcs => f4 cs (List.mem_of_mem_drop (List.mem_of_mem_take hcs))) (fun i cs j e hi hj => ?_) (fun i cs j e hi hj => ?_)
      · rw [if_neg (by omega), hA (by omega)]
        simp [add_at]
      · rw [List.getElem?_take] at hi
        split at hi
        · rw [List.getElem?_drop] at hi
          have h1 := hC _ _ _ _ hi hj
          have hz1 : z' = ti.size := by rw [← hz _ (List.mem_of_getElem? hi), f4 _ (List.mem_of_getElem? hi)]
          rw [hz1, Nat.add_mul] at h1
          rw [show o + l.toNat * ti.size + i * ti.size + j = o + (l.toNat * ti.size + i * ti.size) + j by omega]
          exact h1
        · cases hi
      · rw [List.getElem?_take] at hi
        split at hi
        · rw [List.getElem?_drop] at hi
          exact hr _ _ _ _ hi hj
        · cases hi
    · cases h
  · cases h

theorem extract_goes {dx d : D} {vx : Value} {i : Nat} {φ : Prop} (hx : RepD p C w dx vx) (h : effExtract dx i = some (φ, d)) (hφ : φ) : ∃ v, (Instr.extract vx i).run P w = .ok v w ∧ RepD p C w d v := by
  unfold effExtract at h
  split at h
  · rename_i xs
    obtain ⟨vs, rfl, hl, hr⟩ := hx
    have key : ∀ y, xs[i]? = some y → ∃ u, vs[i]? = some u ∧ RepT p C w y u := fun y hy => by
      have : i < vs.length := by rw [← hl]; exact (List.getElem?_eq_some_iff.1 hy).1
      exact ⟨vs[i], List.getElem?_eq_getElem this, hr i y _ hy (List.getElem?_eq_getElem this)⟩
    split at h
    · rename_i c hc
      cases h
      obtain ⟨u, h1, h2⟩ := key _ hc
      obtain ⟨us, rfl, h3⟩ := h2
      exact ⟨_, by simp [Instr.extract, h1], us, rfl, h3⟩
    · rename_i c hc
      cases h
      obtain ⟨u, h1, h2⟩ := key _ hc
      refine ⟨u, by simp [Instr.extract, h1], ?_⟩
      have h2 : Rep2 p C w c.d0 [u] := h2
      exact h2.2 0 _ _ (Cs.at_eq (by omega)) rfl
    · cases h
  · cases h

theorem pick_goes {dc dx dy d : D} {vc vx vy : Value} {φ : Prop} (hc : RepD p C w dc vc) (hx : RepD p C w dx vx) (hy : RepD p C w dy vy) (h : effPick dc dx dy = some (φ, d)) :
    ∃ b, vc = .bool b ∧ RepD p C w d (if b then vx else vy) := by
  unfold effPick at h
  split at h
  · rename_i c x y
    cases h
    obtain rfl := repV hc
    obtain rfl := repV hx
    obtain rfl := repV hy
    exact ⟨c, rfl, by cases c <;> exact repV_mk rfl⟩
  · cases h

theorem minmax_goes {mn : Bool} {dx dy d : D} {vx vy : Value} {φ : Prop} (hx : RepD p C w dx vx) (hy : RepD p C w dy vy) (h : effMinMax mn dx dy = some (φ, d)) (ts : Array TypeId) (ty : TypeId) :
    ∃ v, (if mn then Builtin.min_ ts ty #[vx, vy] else Builtin.max_ ts ty #[vx, vy]).run P w = .ok v w ∧ RepD p C w d v := by
  unfold effMinMax at h
  split at h
  · rename_i k a k' b
    cases h
    obtain rfl := repV hx
    obtain rfl := repV hy
    cases mn with
    | true => exact ⟨.int k (if b < a then b else a), by simp [Builtin.min_, Builtin.min2], repV_mk rfl⟩
    | false => exact ⟨.int k (if a < b then b else a), by simp [Builtin.max_, Builtin.max2], repV_mk rfl⟩
  · cases h

theorem foldl_push : ∀ (ns : List Int) (r : ByteArray), ns.foldl (fun r n => r.push (UInt8.ofNat n.toNat)) r = ⟨r.data ++ (ns.map fun n => UInt8.ofNat n.toNat).toArray⟩
  | [], r => by cases r; simp
  | n :: ns, r => by
    rw [List.foldl_cons, foldl_push ns]
    cases r
    simp [ByteArray.push]

theorem bytes_run {b o c : Nat} {xs : List (List E)} (h : ∀ (i : Nat) cs, xs[i]? = some cs → isByte cs ∧ w.cell? ⟨b, o + i, none⟩ = some (.int .u8 (cs.getD 0 E.dflt).int)) :
    (Conv.bytesToString (.slice (some ⟨b, o, none⟩) xs.length c)).run P w = .ok (.string (bytesOf xs)) w := by
  have hl := run_loadCells_list (P := P) w ⟨b, o, none⟩ ((xs.map fun cs => (cs.getD 0 E.dflt).int).map (Value.int .u8)) (fun j v hv => by
    rw [add_at]
    simp only [List.getElem?_map, Option.map_eq_some_iff] at hv
    obtain ⟨_, ⟨cs, h1, rfl⟩, rfl⟩ := hv
    exact (h j cs h1).2)
  simp only [List.length_map] at hl
  rw [run_bytesToString (P := P) w _ _ c _ hl, foldl_push]
  congr 2
  unfold bytesOf
  congr 1
  simp

theorem isByte_cell {cs : List E} (h : isByte cs) {u : Value} (hr : ∀ e, cs[0]? = some e → RepE C e u) : u = .int .u8 (cs.getD 0 E.dflt).int := by
  obtain ⟨b, rfl⟩ := h
  have := hr _ rfl
  cases this
  rfl

theorem bytesOf_run {A : Option Addr} {n c : Nat} {xs : List (List E)} (hx : RepE C (.sl xs) (.slice A n c)) (hC : ∀ b o u, C b o u → w.cell? ⟨b, o, none⟩ = some u) (hb : ∀ cs ∈ xs, isByte cs) :
    (Conv.bytesToString (.slice A n c)).run P w = .ok (.string (bytesOf xs)) w := by
  obtain ⟨A', m, cap, z, b, o, U, he, hn, hc, hm, hA, hz, hC', hr⟩ := repE_sl hx
  cases he
  rcases Nat.eq_zero_or_pos n with h0 | h0
  · have hx0 : xs = [] := List.eq_nil_of_length_eq_zero (by omega)
    subst hx0
    subst h0
    cases A with
    | none => rfl
    | some a =>
      have := run_bytesToString (P := P) w a 0 c [] (by simp [loadCells, loadCellsFrom])
      exact this
  · rw [hA h0, ← hn]
    refine bytes_run fun i cs hi => ?_
    have hcs := hb cs (List.mem_of_getElem? hi)
    obtain ⟨b', rfl⟩ := hcs
    have h1 := hC' i _ 0 _ hi rfl
    have hz1 : z = 1 := (hz _ (List.mem_of_getElem? hi)).symm
    rw [hz1, Nat.mul_one, Nat.add_zero] at h1
    refine ⟨⟨b', rfl⟩, ?_⟩
    rw [hC _ _ _ h1, isByte_cell (C := C) (u := U i 0) ⟨b', rfl⟩ (fun e he => by
      have := hr i _ 0 e hi he
      exact this)]

theorem conv_goes (hT : TOk P T) (hR : RM X p w) {s dt : Nat} {dx d : D} {vx : Value} {φ : Prop} (hx : RepD p (CW X p w) w dx vx) (h : effConv T p.mem s dt dx = some (φ, d)) (hφ : φ) :
    ∃ v, (convert s dt vx).run P w = .ok v w ∧ RepD p (CW X p w) w d v := by
  unfold effConv at h
  split at h
  · rename_i ts a b k z k' n hs hd
    obtain rfl := repV hx
    cases h
    have hu := int_of hT hd
    obtain ⟨i, dd, z, h1, h2, _⟩ := (hT _ _ hs).out
    refine ⟨.int k (k.wrap n), ?_, repV_mk rfl⟩
    simp only [convert, Sem.run_bind, run_underlying h2, run_underlying hu, Result.andThen_ok]
    cases dd <;> rfl
  · rename_i ts a b z str hs hd
    obtain rfl := repV hx
    cases h
    have hu := str_of hT hd
    obtain ⟨i, dd, z, h1, h2, _⟩ := (hT _ _ hs).out
    refine ⟨.string str, ?_, repV_mk rfl⟩
    simp only [convert, Sem.run_bind, run_underlying h2, run_underlying hu, Result.andThen_ok]
    cases dd <;> rfl
  · rename_i a b e z a' b' z' y hs hd
    have hu := str_of hT hd
    have hus := slice_of hT hs
    split at h
    · rename_i a b z xs hte
      have hue := int_of hT hte
      cases h
      obtain ⟨A, m, cap, z, b, o, U, rfl, hn, _⟩ := repE_sl hx
      refine ⟨_, ?_, repV_mk rfl⟩
      rw [run_convert_bytes_string w s dt _ _ _ _ hus hue hu]
      exact bytesOf_run hx (fun _ _ _ h => h.1) hφ
    · rename_i a b z hte
      have hue := int_of hT hte
      cases h
      obtain rfl : vx = .slice none 0 0 := hx
      refine ⟨_, ?_, repV_mk rfl⟩
      rw [run_convert_bytes_string w s dt _ _ _ _ hus hue hu]
      rfl
    · rename_i a b z id ver hte
      have hue := int_of hT hte
      split at h
      · rename_i bv z xs pub hb
        cases hv : Nat.beq bv ver with
        | false => simp [hv] at h
        | true =>
          obtain rfl := Nat.eq_of_beq_eq_true hv
          simp only [hv, cond_true, Option.some.injEq, Prod.mk.injEq] at h
          obtain ⟨rfl, rfl⟩ := h
          obtain ⟨_, blk, h1, h2, h3⟩ := hx
          rw [hb] at h1
          cases h1
          obtain ⟨z', n', q1, q2, q3⟩ := h3 rfl
          simp only [Body.shape, Prod.mk.injEq] at q1
          obtain ⟨rfl, rfl⟩ := q1
          have hempty : ∀ A : Option Addr, xs = [] → (Conv.bytesToString (.slice A 0 0)).run P w = .ok (.string (bytesOf [])) w := fun A _ => by
            cases A with
            | none => rfl
            | some a => exact run_bytesToString (P := P) w a 0 0 [] (by simp [loadCells, loadCellsFrom])
          rcases q3 with ⟨q3, A, rfl⟩ | ⟨g, cap, g1, rfl, g3, g4, g5⟩
          · have hx0 : xs = [] := List.eq_nil_of_length_eq_zero q3
            subst hx0
            refine ⟨_, ?_, repV_mk rfl⟩
            rw [run_convert_bytes_string w s dt _ _ _ _ hus hue hu]
            exact hempty A rfl
          · refine ⟨_, ?_, repV_mk rfl⟩
            rw [run_convert_bytes_string w s dt _ _ _ _ hus hue hu]
            refine bytes_run fun i cs hi => ?_
            have hcs := hφ cs (List.mem_of_getElem? hi)
            have hm := mem_row hR hb g1 i
            have hgd : xs.getD i [] = cs := by simp [List.getD_eq_getElem?_getD, hi]
            rw [hgd] at hm
            obtain ⟨b', rfl⟩ := hcs
            have hz1 : z = 1 := by
              have hok := hR.blk id _ hb
              simp only [BlkOk, g1] at hok
              exact (hok.1.2 _ (List.mem_of_getElem? hi)).symm
            obtain ⟨u, u1, u2⟩ := hm 0 _ rfl
            refine ⟨⟨b', rfl⟩, ?_⟩
            rw [hz1, Nat.mul_one, Nat.add_zero] at u1
            rw [Nat.zero_add, u1, isByte_cell (C := CW X p w) (u := u) ⟨b', rfl⟩ (fun e he => by
              cases he
              exact u2)]
      · cases h
    · rename_i a b z id ver off z1 n hte
      have hue := int_of hT hte
      split at h
      · rename_i bv cs pub hb
        cases hv : (Nat.beq bv ver && Nat.beq z1 1) with
        | false => simp [hv] at h
        | true =>
          simp only [hv, cond_true, Option.some.injEq, Prod.mk.injEq] at h
          obtain ⟨rfl, rfl⟩ := h
          simp only [Bool.and_eq_true] at hv
          obtain rfl := Nat.eq_of_beq_eq_true hv.1
          obtain rfl := Nat.eq_of_beq_eq_true hv.2
          obtain ⟨_, blk, h1, h2, h3⟩ := hx
          rw [hb] at h1
          cases h1
          obtain ⟨_, _, g, cap, g1, rfl, _⟩ := h3 rfl
          refine ⟨_, ?_, repV_mk rfl⟩
          rw [run_convert_bytes_string w s dt _ _ _ _ hus hue hu]
          have hbr := bytes_run (P := P) (w := w) (b := g) (o := off) (c := cap) (xs := chunksE 1 n (cs.drop off)) fun i ch hi => by
            have hcs := hφ ch (List.mem_of_getElem? hi)
            obtain ⟨hin, he⟩ := chunksE_get hi
            rw [Nat.mul_one] at he
            obtain ⟨b', hb'⟩ := hcs
            have hm := bsl_mem hR hb g1 (off + i) 1
            rw [← List.drop_drop, ← he, hb'] at hm
            obtain ⟨u, u1, u2⟩ := hm 0 _ rfl
            refine ⟨⟨b', hb'⟩, ?_⟩
            rw [Nat.add_zero] at u1
            rw [u1, isByte_cell (C := CW X p w) (u := u) ⟨b', hb'⟩ (fun e he => by
              rw [hb'] at he
              cases he
              exact u2)]
          rw [chunksE_len] at hbr
          exact hbr
      · cases h
    · cases h
  · cases h

theorem map_of (hT : TOk P T) {s : Nat} {a b k e : Nat} {z : List Value} (h : T s = some ⟨a, b, .map k e, z⟩) : P.underlying s = some (.map k e) := by
  obtain ⟨i, d, z, h1, h2, h3, h4, h5, _⟩ := (hT _ _ h).out
  rw [h2, show d = .map k e from h5]
theorem zero64 (hT : TOk P T) {s : Nat} {a b : Nat} {z : List Value} (h : T s = some ⟨a, b, .int .i64, z⟩) (hz : isZ64 z = true) : (zeroValue s).run P w = .ok (.int .i64 0) w := by
  obtain ⟨i, d, z', h1, h2, h3, h4, h5, h6, h7, _⟩ := (hT _ _ h).out
  have hne := (hT _ _ h).nz i z' .i64 h1 h6 rfl
  have e : z' = .int .i64 0 := by
    have hz2 : z = [.int .i64 0] := by
      unfold isZ64 at hz
      split at hz
      · rfl
      · cases hz
    have h7 : z'.cells.toList = [.int .i64 0] := h7.trans hz2
    cases z' with
    | agg cs => exact absurd rfl (hne cs)
    | int k n => simpa [Value.cells] using h7
    | _ => simp [Value.cells] at h7
  rw [e] at h6
  simp [zeroValue, typeInfo, h1, h6]
theorem strEq_beq (a b : ByteArray) : strEq a b = (a == b) := (beq_toListBytes a b).symm
theorem find_ents (s : ByteArray) : ∀ (l : List (ByteArray × Int)) (i b : Nat),
    (Instr.findNow .string (.string s) (mapEnts b l) i = some none ∧ (∀ n, mPut l s n = l ++ [(s, n)]) ∧ mGet l s = 0) ∨
    ∃ j k v, Instr.findNow .string (.string s) (mapEnts b l) i = some (some (i + j, .int .i64 v)) ∧ l[j]? = some (k, v) ∧ s = k ∧ mGet l s = v ∧ ∀ n, mPut l s n = l.set j (s, n)
  | [], i, b => .inl ⟨rfl, fun _ => rfl, rfl⟩
  | (k, v) :: r, i, b => by
    cases hb : strEq s k with
    | true =>
      refine .inr ⟨0, k, v, ?_, rfl, (bytes_beq s k).1 ((strEq_beq s k).symm.trans hb), by rw [mGet, hb]; rfl, fun n => by rw [mPut, hb]; rfl⟩
      have : (s == k) = true := (strEq_beq s k).symm.trans hb
      simp [mapEnts, Instr.findNow, Instr.sameNow, this]
    | false =>
      have hf : (s == k) = false := (strEq_beq s k).symm.trans hb
      rcases find_ents s r (i + 1) (b + 1) with ⟨h1, h2, h3⟩ | ⟨j, k', v', h1, h2, h3, h4, h5⟩
      · exact .inl ⟨by simpa [mapEnts, Instr.findNow, Instr.sameNow, hf] using h1, fun n => by rw [mPut, hb, h2]; rfl, by rw [mGet, hb]; exact h3⟩
      · refine .inr ⟨j + 1, k', v', ?_, by simpa using h2, h3, by rw [mGet, hb]; exact h4, fun n => by rw [mPut, hb, h5]; rfl⟩
        rw [show i + (j + 1) = i + 1 + j by omega]
        simpa [mapEnts, Instr.findNow, Instr.sameNow, hf] using h1
theorem raw_at {id ver : Nat} {o : Raw} {bv pub : Nat} (hR : RM X p w) (hm : p.mem id = some ⟨bv, .raw o, pub⟩) (hb : bv = ver) {K : Nat → Prop} (hl : Live p id ver K) : ∃ g, p.μ id = some g ∧ K g ∧ w.heap[g]? = some o.obj := by
  obtain ⟨blk, h1, h2, h3⟩ := hl
  rw [hm] at h1
  cases h1
  obtain ⟨g, hg, hk⟩ := h3 hb.symm
  have := hR.blk id _ hm
  simp only [BlkOk, hg] at this
  obtain ⟨_, _, _, _, cur, e, lo, hi, h4, _⟩ := this
  exact ⟨g, hg, hk, h4⟩
theorem lookup_goes (hT : TOk P T) (hR : RM X p w) {t : Nat} {dx di d : D} {vx vi : Value} {φ : Prop} (hx : RepD p (CW X p w) w dx vx) (hi : RepD p (CW X p w) w di vi) (h : effLookup T p.mem t dx di = some (φ, d)) :
    ∃ v, (Instr.lookup t vx vi false).run P w = .ok v w ∧ RepD p (CW X p w) w d v := by
  unfold effLookup at h
  split at h
  · rename_i a b k e z id ver s ht
    split at h
    · rename_i a1 b1 z1 a2 b2 z2 bv l pub hk he hm
      cases hc : (Nat.beq bv ver && isZ64 z2) with
      | false => rw [hc] at h; cases h
      | true =>
        rw [hc] at h
        cases h
        rw [Bool.and_eq_true] at hc
        obtain ⟨g, hg, rfl, hh⟩ := raw_at hR hm (Nat.eq_of_beq_eq_true hc.1) hx.2
        obtain rfl := repV hi
        have hh : w.heap[g]? = some (.map (mapEnts 0 l).toArray l.length) := hh
        have hs := str_of hT hk
        refine ⟨.int .i64 (mGet l s), ?_, repV_mk rfl⟩
        rcases find_ents s l 0 0 with ⟨h1, h2, h3⟩ | ⟨j, k', v', h1, h2, h3, h4, h5⟩
        · rw [h3]
          simp [Instr.lookup, run_underlying (map_of hT ht), MapKept.run_getObj_map hh, MapKept.run_checkKey (k := .string s) hs trivial, MapKept.run_findKey hs h1, zero64 hT he hc.2, Result.andThen]
        · rw [h4]
          simp [Instr.lookup, run_underlying (map_of hT ht), MapKept.run_getObj_map hh, MapKept.run_checkKey (k := .string s) hs trivial, MapKept.run_findKey hs h1, Result.andThen]
    · cases h
  · cases h
theorem iface_goes (hT : TOk P T) {t : Nat} {dx d : D} {vx : Value} {φ : Prop} (hx : RepD p C w dx vx) (h : effIface T t dx = some (φ, d)) : ∃ v, (Instr.makeInterface t vx).run P w = .ok v w ∧ RepD p C w d v := by
  unfold effIface at h
  split at h
  · rename_i sz by_ fs z cs ht
    obtain ⟨F, hF, _⟩ := struct_of hT ht
    split at h
    · rename_i vs hv
      cases h
      obtain ⟨us, rfl, hl, hr⟩ := hx
      obtain rfl := allV_eq hv
      have e : us = vs := by
        refine List.ext_getElem? fun i => ?_
        have hl : vs.length = us.length := by simpa [Cs.d0] using hl
        rcases Nat.lt_or_ge i us.length with hi | hi
        · have := hr i (.e (.v vs[i])) us[i] (by simp [Cs.d0, hl, hi]) (List.getElem?_eq_getElem hi)
          rw [List.getElem?_eq_getElem hi, List.getElem?_eq_getElem (by omega), repV this]
        · rw [List.getElem?_eq_none hi, List.getElem?_eq_none (by omega)]
      subst e
      exact ⟨.iface t (.agg us.toArray), by simp [Instr.makeInterface, run_underlying hF, Result.andThen], repV_mk rfl⟩
    · cases h
  · cases h
theorem vs_rep {vs : List Value} (h : vs.all (·.oneCell') = true) : Rep2 p C w ((Cs.es (vs.map .v)).d0) vs := by
  refine ⟨by simp [Cs.d0], fun i x u hx hu => ?_⟩
  simp only [Cs.d0, List.getElem?_map, hu, Option.map_some, Option.some.injEq] at hx
  subst hx
  exact RepE.v u (List.all_eq_true.1 h u (List.mem_of_getElem? hu))
theorem assert_goes (hT : TOk P T) {a xt : Nat} {dx d : D} {vx : Value} {φ : Prop} (hx : RepD p C w dx vx) (h : effAssert T a dx = some (φ, d)) (hφ : φ) : ∃ v, (Instr.typeAssert vx xt a true).run P w = .ok v w ∧ RepD p C w d v := by
  unfold effAssert at h
  split at h
  · rename_i sz by_ fs z t vs ht
    obtain ⟨F, hF, _⟩ := struct_of hT ht
    obtain rfl := repV hx
    have one : ∀ b : Bool, RepT p C w (false, .es [.v (.bool b)]) (.bool b) := fun b => ⟨rfl, fun j y u e1 e2 => by
      cases j with
      | zero => simp [Cs.d0] at e1 e2; subst e1; subst e2; exact RepE.v _ rfl
      | succ j => simp at e2⟩
    cases hb : Nat.beq t a with
    | true =>
      obtain rfl := Nat.eq_of_beq_eq_true hb
      rw [hb] at h
      cases h
      refine ⟨.tuple #[.agg vs, .bool true], by simp [Instr.typeAssert, run_underlying hF, Result.andThen], [.agg vs, .bool true], rfl, rfl, fun i y u k1 k2 => ?_⟩
      match i, k1, k2 with
      | 0, k1, k2 => simp at k1 k2; subst k1; subst k2; exact ⟨vs.toList, by simp, vs_rep hφ⟩
      | 1, k1, k2 => simp at k1 k2; subst k1; subst k2; exact one true
      | i + 2, k1, k2 => simp at k1
    | false =>
      have hne : ¬ t = a := fun e => by rw [e] at hb; simp at hb
      rw [hb] at h
      cases h
      obtain ⟨i, d, z0, h1, h2, h3, h4, h5, h6, h7, h8⟩ := (hT _ _ ht).out
      obtain ⟨cs, rfl⟩ := (hT _ _ ht).az i z0 h1 h6 rfl
      have h7 : cs.toList = z := h7
      refine ⟨.tuple #[.agg cs, .bool false], by simp [Instr.typeAssert, run_underlying hF, Result.andThen, hne, zeroValue, typeInfo, h1, h6], [.agg cs, .bool false], rfl, rfl, fun i y u k1 k2 => ?_⟩
      match i, k1, k2 with
      | 0, k1, k2 => simp at k1 k2; subst k1; subst k2; exact ⟨cs.toList, by simp, by rw [← h7]; exact vs_rep (List.all_eq_true.2 (h7 ▸ h8))⟩
      | 1, k1, k2 => simp at k1 k2; subst k1; subst k2; exact one false
      | i + 2, k1, k2 => simp at k1
  · cases h
theorem effQ_sound (hT : TOk P T) (hR : RM X p w) {o : Oper} {ev : Ev} {ρ : Operand → Value} (hρ : ∀ x ∈ o.op.operands, RepD p (CW X p w) w (ev x) (ρ x)) {φ : Prop} {d : D} (h : effQ T p.mem o.op ev = some (φ, d)) (hφ : φ) :
    ∃ v, (execOp ρ o).run P w = .ok (.value v) w ∧ RepD p (CW X p w) w d v := by
  obtain ⟨dst, op, type, pos, after, guard⟩ := o
  dsimp only at h hρ
  unfold effQ at h
  split at h
  · cases h; exact ⟨_, rfl, hρ _ (by simp [Op.operands])⟩
  · cases h; exact ⟨_, rfl, hρ _ (by simp [Op.operands])⟩
  · rename_i c a b
    obtain ⟨t, h1, h2⟩ := pick_goes (hρ c (by simp [Op.operands])) (hρ a (by simp [Op.operands])) (hρ b (by simp [Op.operands])) h
    exact ⟨_, by simp only [execOp, h1, asBool]; rfl, h2⟩
  · rename_i op t x y yt
    obtain ⟨v, h1, h2⟩ := bin_goes hT (hρ x (by simp [Op.operands])) (hρ y (by simp [Op.operands])) h hφ
    exact ⟨v, by simp only [execOp, Sem.run_bind, h1 x y] ; rfl, h2⟩
  · rename_i op t x
    obtain ⟨v, h1, h2⟩ := un_goes (P := P) (hρ x (by simp [Op.operands])) h
    exact ⟨v, by simp only [execOp, Sem.run_bind, h1]; rfl, h2⟩
  · rename_i s dt x
    obtain ⟨v, h1, h2⟩ := conv_goes hT hR (hρ x (by simp [Op.operands])) h hφ
    exact ⟨v, by simp only [execOp, Sem.run_bind, h1]; rfl, h2⟩
  · rename_i t x
    split at h
    · rename_i ti ht
      obtain ⟨v, h1, h2⟩ := loadE_goes hT hR ht (ptn_rep (hρ x (by simp [Op.operands]))) h hφ
      exact ⟨v, by simp only [execOp, Sem.run_bind, h1]; rfl, h2⟩
    · cases h
  · rename_i x
    have hx := ptn_rep (hρ x (by simp [Op.operands]))
    split at h
    · rename_i id ver off he
      cases hl : liveB p.mem (.one (.ptr id ver off)) with
      | false => simp [hl] at h
      | true =>
        simp only [hl, cond_true, Option.some.injEq, Prod.mk.injEq] at h
        obtain ⟨rfl, rfl⟩ := h
        rw [he] at hx
        have hx' := hx
        obtain ⟨_, blk, h1, h2, h3⟩ := hx
        obtain ⟨blk', k1, k2⟩ := (liveB_ptr hl).1 _ _ _ rfl
        rw [h1] at k1
        cases k1
        obtain ⟨g, hg, hv⟩ := h3 k2
        exact ⟨ρ x, by simp only [execOp, hv]; rfl, hx'⟩
    · rename_i cs he
      cases h
      rw [he] at hx
      have hx' := hx
      obtain ⟨b, o, hv, _⟩ := hx
      exact ⟨ρ x, by simp only [execOp, hv]; rfl, hx'⟩
    · cases h
  · rename_i s x f
    cases hl : liveB p.mem (ev x).ptn with
    | false => simp [hl] at h
    | true =>
      simp only [hl, cond_true] at h
      obtain ⟨v, h1, h2⟩ := field_goes hT (ptn_rep (hρ x (by simp [Op.operands]))) h (liveB_ptr hl).1 (liveB_ptr hl).2
      exact ⟨v, by simp only [execOp, Sem.run_bind, h1]; rfl, h2⟩
  · rename_i s x f
    obtain ⟨v, h1, h2⟩ := fieldV_goes hT (hρ x (by simp [Op.operands])) h hφ
    exact ⟨v, by simp only [execOp, Sem.run_bind, h1]; rfl, h2⟩
  · rename_i t x i
    cases hl : liveB p.mem (ev x).ptn with
    | false => simp [hl] at h
    | true =>
      simp only [hl, cond_true] at h
      obtain ⟨v, h1, h2⟩ := indexA_goes hT (ptn_rep (hρ x (by simp [Op.operands]))) (hρ i (by simp [Op.operands])) h hφ (liveB_ptr hl).1 (liveB_ptr hl).2
      exact ⟨v, by simp only [execOp, Sem.run_bind, h1]; rfl, h2⟩
  · rename_i t x i
    obtain ⟨v, h1, h2⟩ := indexV_goes hT (hρ x (by simp [Op.operands])) (hρ i (by simp [Op.operands])) h hφ
    exact ⟨v, by simp only [execOp, Sem.run_bind, h1]; rfl, h2⟩
  · rename_i t x lo hi
    obtain ⟨v, h1, h2⟩ := slice_goes (P := P) (vlo := lo.map ρ) (vhi := hi.map ρ) hT (hρ x (by simp [Op.operands])) (fun y hy => by
        obtain ⟨z, rfl, rfl⟩ := Option.map_eq_some_iff.1 hy
        exact ⟨_, rfl, hρ z (by simp [Op.operands])⟩) (fun hn => by simp at hn; simp [hn]) (fun y hy => by
        obtain ⟨z, rfl, rfl⟩ := Option.map_eq_some_iff.1 hy
        exact ⟨_, rfl, hρ z (by simp [Op.operands])⟩) (fun hn => by simp at hn; simp [hn]) h hφ
    exact ⟨v, by simp only [execOp, Sem.run_bind, Option.map_none, h1]; rfl, h2⟩
  · rename_i t x lo hi mx
    obtain ⟨v, h1, h2⟩ := slice3_goes (P := P) (vlo := lo.map ρ) (vhi := ρ hi) (vmx := ρ mx) hT (hρ x (by simp [Op.operands])) (fun y hy => by
        obtain ⟨z, rfl, rfl⟩ := Option.map_eq_some_iff.1 hy
        exact ⟨_, rfl, hρ z (by simp [Op.operands])⟩) (fun hn => by simp at hn; simp [hn]) (hρ hi (by simp [Op.operands])) (hρ mx (by simp [Op.operands])) h hφ
    exact ⟨v, by simp only [execOp, Sem.run_bind, Option.map_some, h1]; rfl, h2⟩
  · rename_i x i
    obtain ⟨v, h1, h2⟩ := extract_goes (P := P) (hρ x (by simp [Op.operands])) h hφ
    exact ⟨v, by simp only [execOp, Sem.run_bind, h1]; rfl, h2⟩
  · rename_i t x i
    obtain ⟨v, h1, h2⟩ := lookup_goes hT hR (hρ x (by simp [Op.operands])) (hρ i (by simp [Op.operands])) h
    exact ⟨v, by simp only [execOp, Sem.run_bind, h1]; rfl, h2⟩
  · rename_i t x
    obtain ⟨v, h1, h2⟩ := iface_goes (P := P) hT (hρ x (by simp [Op.operands])) h
    exact ⟨v, by simp only [execOp, Sem.run_bind, h1]; rfl, h2⟩
  · rename_i x xt a
    obtain ⟨v, h1, h2⟩ := assert_goes (P := P) (xt := xt) hT (hρ x (by simp [Op.operands])) h hφ
    exact ⟨v, by simp only [execOp, Sem.run_bind, h1]; rfl, h2⟩
  · rename_i args ts
    split at h
    · rename_i x t ha ht
      obtain rfl : args = #[x] := by rw [← Array.toArray_toList (xs := args), ha]
      obtain rfl : ts = #[t] := by rw [← Array.toArray_toList (xs := ts), ht]
      obtain ⟨v, h1, h2⟩ := len_goes (P := P) hT (hρ x (by simp [Op.operands, Call.operands])) h type
      exact ⟨v, by simp [execOp, resolve, invoke, builtin, h1], h2⟩
    · cases h
  · rename_i args ts
    split at h
    · rename_i x y ha
      obtain rfl : args = #[x, y] := by rw [← Array.toArray_toList (xs := args), ha]
      obtain ⟨v, h1, h2⟩ := minmax_goes (P := P) (hρ x (by simp [Op.operands, Call.operands])) (hρ y (by simp [Op.operands, Call.operands])) h ts type
      simp only [if_true] at h1
      exact ⟨v, by simp [execOp, resolve, invoke, builtin, h1], h2⟩
    · cases h
  · rename_i args ts
    split at h
    · rename_i x y ha
      obtain rfl : args = #[x, y] := by rw [← Array.toArray_toList (xs := args), ha]
      obtain ⟨v, h1, h2⟩ := minmax_goes (P := P) (hρ x (by simp [Op.operands, Call.operands])) (hρ y (by simp [Op.operands, Call.operands])) h ts type
      simp only [Bool.false_eq_true, if_false] at h1
      exact ⟨v, by simp [execOp, resolve, invoke, builtin, h1], h2⟩
    · cases h
  · cases h
end
end Go.Proofs.YtcdifgacoleckaaDoor.Ab
