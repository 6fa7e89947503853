/- A calculus of abstract states: what slots and own blocks hold is data ('E': scalars; slices as lists of cells); a step of the program is one of abstract states; each rule is proved of the model. No condition. -/
import Derived.WalkKit
import Derived.ProofKit
import Derived.Below
import Derived.Deep.Draws
import Derived.Deep.Quiet
import Derived.Laws.Cells
namespace Go.Proofs.YtcjeeoimjkhijaaDoor.Ab
open Go Go.RowKit

/-! ### Data, abstract values, states -/
inductive E where
  | v (x : Value)
  | sl (xs : List (List E))

inductive RepE (C : Nat → Nat → Value → Prop) : E → Value → Prop
  | v (x : Value) (h1 : x.oneCell' = true) : RepE C (.v x) x
  | sl (A : Option Addr) (n cap z b o : Nat) (U : Nat → Nat → Value) (xs : List (List E))
      (hn : xs.length = n) (hc : n ≤ cap) (hm : cap ≤ maxLen) (hA : 0 < n → A = some ⟨b, o, none⟩)
      (hz : ∀ cs ∈ xs, cs.length = z)
      (hC : ∀ i cs j e, xs[i]? = some cs → cs[j]? = some e → C b (o + i * z + j) (U i j))
      (hr : ∀ i cs j e, xs[i]? = some cs → cs[j]? = some e → RepE C e (U i j)) :
      RepE C (.sl xs) (.slice A n cap)

theorem RepE.mono {C C' : Nat → Nat → Value → Prop} (h : ∀ b o u, C b o u → C' b o u) {x : E} {v : Value} (hr : RepE C x v) : RepE C' x v := by
  induction hr with
  | v x h1 => exact .v x h1
  | sl A n cap z b o U xs hn hc hm hA hz hC hr ih =>
    exact .sl A n cap z b o U xs hn hc hm hA hz (fun i cs j e h1 h2 => h _ _ _ (hC i cs j e h1 h2)) ih

theorem RepE.one {C : Nat → Nat → Value → Prop} {x : E} {v : Value} (hr : RepE C x v) : v.oneCell' = true := by
  cases hr with
  | v x h1 => exact h1
  | sl => rfl

inductive D0 where
  | e (x : E)
  | nil
  | ptr (id ver off : Nat)
  | rptr (id ver i j : Nat)
  | eptr (cs : List E)
  | own (id ver : Nat)
  | clo (f : Nat) (caps : List (Nat × Nat × Nat))
  | bsl (id ver off z n : Nat)

/-- cells: all of them data, or any -/
inductive Cs where
  | es (xs : List E)
  | ds (xs : List D0)
def Cs.d0 : Cs → List D0
  | .es xs => xs.map .e
  | .ds xs => xs

inductive D where
  | any
  | one (x : D0)
  | agg (c : Cs)
  | tup (xs : List (Bool × Cs))
  | gd (p : Prop) (d : D)

/-- what an own block holds: a variable, or a row of elements of z cells -/
inductive Body where
  | box (c : Cs)
  | row (z : Nat) (xs : List (List E))
def Body.cells : Body → List D0
  | .box c => c.d0
  | .row _ xs => xs.flatten.map .e
def Body.shape : Body → Nat × Nat
  | .box c => (0, c.d0.length)
  | .row z xs => (z, xs.length)
def Body.ok : Body → Prop
  | .box _ => True
  | .row z xs => 0 < z ∧ ∀ cs ∈ xs, cs.length = z

structure Blk where
  ver : Nat
  body : Body
  pub : Nat
def Blk.cells (b : Blk) : List D0 := b.body.cells

structure St where
  tm : Nat → D
  mem : Nat → Option Blk

structure Ctx where
  W : World
  I : Nat → Nat → Prop
  nt : Nat
  big : nt ≤ 900000
  /-- a variable of the caller's that may be written -/
  ex : Nat → Prop
  /-- where those stand: what slots from 900000 on point to -/
  xg : Nat → Nat
/-- a block that may be written -/
def Ctx.own (X : Ctx) (b : Nat) : Prop := X.W.heap.size ≤ b ∨ X.ex b
structure BelS (W : World) (ex : Nat → Prop) (w : World) : Prop where
  os : w.os = W.os
  tape : w.tape = W.tape
  output : w.output = W.output
  size : W.heap.size ≤ w.heap.size
  block : ∀ k, k < W.heap.size → ¬ ex k → w.heap[k]? = W.heap[k]?
def Bel (X : Ctx) (w : World) : Prop := BelS X.W X.ex w
theorem Bel.refl (X : Ctx) : Bel X X.W := (⟨rfl, rfl, rfl, Nat.le_refl _, fun _ _ _ => rfl⟩ : BelS X.W X.ex X.W)
theorem Bel.below {X : Ctx} {w w' : World} (h : Bel X w) (k : Below w.heap.size w w') : Bel X w' :=
  (⟨k.os.trans h.os, k.tape.trans h.tape, k.output.trans h.output, Nat.le_trans h.size k.size, fun i hi hx => (k.block i (Nat.lt_of_lt_of_le hi h.size)).trans (h.block i hi hx)⟩ : BelS X.W X.ex w')
theorem Bel.toBelow {X : Ctx} {w : World} (h : Bel X w) (hx : ∀ k, ¬ X.ex k) : Below X.W.heap.size X.W w := ⟨h.os, h.tape, h.output, h.size, fun k hk => h.block k hk (hx k)⟩

/-- what a slot holds; slot 1000000 + g: where variable g of the package stands -/
def slotV (x : Nat → Nat) (tmps : Array Value) (t : Nat) : Value := bif Nat.ble 1000000 t then .pointer (some ⟨t - 1000000, 0, none⟩) else bif Nat.ble 900000 t then .pointer (some ⟨x t, 0, none⟩) else tmps.getD t undef
theorem slotV_lt {x : Nat → Nat} {tmps : Array Value} {t : Nat} (h : t < 900000) : slotV x tmps t = tmps.getD t undef := by
  have e : Nat.ble 1000000 t = false := by
    cases hb : Nat.ble 1000000 t with
    | false => rfl
    | true => have := Nat.le_of_ble_eq_true hb; omega
  have e2 : Nat.ble 900000 t = false := by
    cases hb : Nat.ble 900000 t with
    | false => rfl
    | true => have := Nat.le_of_ble_eq_true hb; omega
  unfold slotV
  rw [e, e2]
  rfl
theorem slotV_glob {x : Nat → Nat} {tmps : Array Value} (g : Nat) : slotV x tmps (1000000 + g) = .pointer (some ⟨g, 0, none⟩) := by
  have e : Nat.ble 1000000 (1000000 + g) = true := Nat.ble_eq_true_of_le (by omega)
  unfold slotV
  rw [e, Nat.add_sub_cancel_left]
  rfl

structure Rho where
  mem : Nat → Option Blk
  μ : Nat → Option Nat

/-- cells that are never written from here on -/
def CW (X : Ctx) (p : Rho) (w : World) (b o : Nat) (u : Value) : Prop :=
  w.cell? ⟨b, o, none⟩ = some u ∧ (¬ X.own b → X.I b o) ∧ (X.own b → ∀ id blk, p.mem id = some blk → p.μ id = some b → o < blk.pub)

def Zb (w : World) (g n : Nat) : Prop := ∃ cur e fr, w.heap[g]? = some (.cells cur e fr) ∧ n ≤ cur.size

def Live (p : Rho) (id ver : Nat) (K : Nat → Prop) : Prop :=
  ∃ blk, p.mem id = some blk ∧ ver ≤ blk.ver ∧ (ver = blk.ver → ∃ g, p.μ id = some g ∧ K g)

def Rep0 (p : Rho) (C : Nat → Nat → Value → Prop) (w : World) : D0 → Value → Prop
  | .e x, v => RepE C x v
  | .nil, v => v = .slice none 0 0
  | .rptr id ver i j, v => v.oneCell' = true ∧ ∃ blk, p.mem id = some blk ∧ ver ≤ blk.ver ∧ (ver = blk.ver → ∃ g, p.μ id = some g ∧ v = .pointer (some ⟨g, i * blk.body.shape.1 + j, none⟩))
  | .ptr id ver off, v => v.oneCell' = true ∧ Live p id ver fun g => v = .pointer (some ⟨g, off, none⟩)
  | .eptr cs, v => ∃ b o, v = .pointer (some ⟨b, o, none⟩) ∧ ∀ j e, cs[j]? = some e → ∃ u, C b (o + j) u ∧ RepE C e u
  | .own id ver, v => v.oneCell' = true ∧ ∃ blk, p.mem id = some blk ∧ ver ≤ blk.ver ∧ (ver = blk.ver → ∃ z n, blk.body.shape = (z, n) ∧ 0 < z ∧ ((n = 0 ∧ ∃ A, v = .slice A 0 0) ∨
      ∃ g cap, p.μ id = some g ∧ v = .slice (some ⟨g, 0, none⟩) n cap ∧ n ≤ cap ∧ cap ≤ maxLen ∧ Zb w g (cap * z)))
  | .clo f caps, v => ∃ vs : List Value, v = .func (.func f) #[] vs.toArray ∧ caps.length = vs.length ∧
      ∀ (i : Nat) c u, caps[i]? = some c → vs[i]? = some u → Live p c.1 c.2.1 fun g => u = .pointer (some ⟨g, c.2.2, none⟩)
  | .bsl id ver off z n, v => v.oneCell' = true ∧ ∃ blk, p.mem id = some blk ∧ ver ≤ blk.ver ∧ (ver = blk.ver → 0 < z ∧ off + n * z ≤ blk.body.shape.2 ∧ ∃ g cap, p.μ id = some g ∧ v = .slice (some ⟨g, off, none⟩) n cap ∧ n ≤ cap ∧ cap ≤ maxLen)

theorem Rep0.one {p : Rho} {C : Nat → Nat → Value → Prop} {w : World} {x : D0} {v : Value} (h : Rep0 p C w x v) : v.oneCell' = true := by
  cases x with
  | e x => exact RepE.one h
  | nil => rw [show v = .slice none 0 0 from h]; rfl
  | ptr => exact h.1
  | rptr => exact h.1
  | eptr cs => obtain ⟨b, o, rfl, _⟩ := h; rfl
  | own => exact h.1
  | clo f caps => obtain ⟨vs, rfl, _⟩ := h; rfl
  | bsl => exact h.1

/-- cells, one by one -/
def Rep2 (p : Rho) (C : Nat → Nat → Value → Prop) (w : World) (xs : List D0) (vs : List Value) : Prop :=
  xs.length = vs.length ∧ ∀ (i : Nat) x u, xs[i]? = some x → vs[i]? = some u → Rep0 p C w x u

def RepT (p : Rho) (C : Nat → Nat → Value → Prop) (w : World) (x : Bool × Cs) (v : Value) : Prop :=
  match x with
  | (true, xs) => ∃ vs : List Value, v = .agg vs.toArray ∧ Rep2 p C w xs.d0 vs
  | (false, xs) => Rep2 p C w xs.d0 [v]

def RepD (p : Rho) (C : Nat → Nat → Value → Prop) (w : World) : D → Value → Prop
  | .any, _ => True
  | .one x, v => Rep0 p C w x v
  | .agg xs, v => ∃ vs : List Value, v = .agg vs.toArray ∧ Rep2 p C w xs.d0 vs
  | .tup xs, v => ∃ vs : List Value, v = .tuple vs.toArray ∧ xs.length = vs.length ∧ ∀ (i : Nat) x u, xs[i]? = some x → vs[i]? = some u → RepT p C w x u
  | .gd q d, v => (q → RepD p C w d v) ∧ (¬ q → v = undef)

/-! ### How a reading is kept -/
structure Kept (p : Rho) (C : Nat → Nat → Value → Prop) (w : World) (p' : Rho) (C' : Nat → Nat → Value → Prop) (w' : World) : Prop where
  hC : ∀ b o u, C b o u → C' b o u
  hm : ∀ id blk, p.mem id = some blk → ∃ blk', p'.mem id = some blk' ∧ blk.ver ≤ blk'.ver ∧ (blk.ver = blk'.ver → p'.μ id = p.μ id ∧ blk'.body.shape = blk.body.shape ∧ (0 < blk.body.shape.1 → ∀ g n, p.μ id = some g → Zb w g n → Zb w' g n))
theorem Kept.of {p : Rho} {C : Nat → Nat → Value → Prop} {w : World} {p' : Rho} {C' : Nat → Nat → Value → Prop} {w' : World} (hC : ∀ b o u, C b o u → C' b o u) (hZ : ∀ g n, Zb w g n → Zb w' g n)
    (hm : ∀ id blk, p.mem id = some blk → ∃ blk', p'.mem id = some blk' ∧ blk.ver ≤ blk'.ver ∧ (blk.ver = blk'.ver → p'.μ id = p.μ id ∧ blk'.body.shape = blk.body.shape)) : Kept p C w p' C' w' :=
  ⟨hC, fun id blk h => by
    obtain ⟨b, h1, h2, h3⟩ := hm id blk h
    exact ⟨b, h1, h2, fun e => ⟨(h3 e).1, (h3 e).2, fun _ g n _ => hZ g n⟩⟩⟩

section
variable {p p' : Rho} {C C' : Nat → Nat → Value → Prop} {w w' : World}
theorem Live.kept (h : Kept p C w p' C' w') {id ver : Nat} {K : Nat → Prop} (hl : Live p id ver K) : Live p' id ver K := by
  obtain ⟨blk, h1, h2, h3⟩ := hl
  obtain ⟨blk', e1, e2, e3⟩ := h.hm _ _ h1
  refine ⟨blk', e1, by omega, fun e => ?_⟩
  have hv : blk.ver = blk'.ver := by omega
  obtain ⟨g, hg, hk⟩ := h3 (by omega)
  exact ⟨g, by rw [(e3 hv).1, hg], hk⟩
theorem Rep0.kept (h : Kept p C w p' C' w') {x : D0} {v : Value} (hr : Rep0 p C w x v) : Rep0 p' C' w' x v := by
  cases x with
  | e x => exact RepE.mono h.hC hr
  | nil => exact hr
  | ptr id ver off => exact ⟨hr.1, hr.2.kept h⟩
  | rptr id ver i j =>
    obtain ⟨h0, blk, h1, h2, h3⟩ := hr
    obtain ⟨blk', e1, e2, e3⟩ := h.hm _ _ h1
    refine ⟨h0, blk', e1, by omega, fun e => ?_⟩
    have hv : blk.ver = blk'.ver := by omega
    obtain ⟨g, g1, g2⟩ := h3 (by omega)
    exact ⟨g, by rw [(e3 hv).1, g1], by rw [(e3 hv).2.1, g2]⟩
  | eptr cs =>
    obtain ⟨b, o, rfl, hc⟩ := hr
    refine ⟨b, o, rfl, fun j e he => ?_⟩
    obtain ⟨u, h1, h2⟩ := hc j e he
    exact ⟨u, h.hC _ _ _ h1, h2.mono h.hC⟩
  | own id ver =>
    obtain ⟨h0, blk, h1, h2, h3⟩ := hr
    obtain ⟨blk', e1, e2, e3⟩ := h.hm _ _ h1
    refine ⟨h0, blk', e1, by omega, fun e => ?_⟩
    have hv : blk.ver = blk'.ver := by omega
    obtain ⟨z, n, z1, z2, z3⟩ := h3 (by omega)
    refine ⟨z, n, by rw [(e3 hv).2.1, z1], z2, ?_⟩
    rcases z3 with z3 | ⟨g, cap, g1, g2, g3, g4, g5⟩
    · exact .inl z3
    · exact .inr ⟨g, cap, by rw [(e3 hv).1, g1], g2, g3, g4, (e3 hv).2.2 (by rw [z1]; exact z2) _ _ g1 g5⟩
  | clo f caps =>
    obtain ⟨vs, rfl, hl, hc⟩ := hr
    exact ⟨vs, rfl, hl, fun i c u h1 h2 => (hc i c u h1 h2).kept h⟩
  | bsl id ver off z n =>
    obtain ⟨h0, blk, h1, h2, h3⟩ := hr
    obtain ⟨blk', e1, e2, e3⟩ := h.hm _ _ h1
    refine ⟨h0, blk', e1, by omega, fun e => ?_⟩
    have hv : blk.ver = blk'.ver := by omega
    obtain ⟨z1, z2, g, cap, g1, g2⟩ := h3 (by omega)
    exact ⟨z1, by rw [(e3 hv).2.1]; exact z2, g, cap, by rw [(e3 hv).1, g1], g2⟩
theorem Rep2.kept (h : Kept p C w p' C' w') {xs : List D0} {vs : List Value} (hr : Rep2 p C w xs vs) : Rep2 p' C' w' xs vs :=
  ⟨hr.1, fun i x u h1 h2 => (hr.2 i x u h1 h2).kept h⟩
theorem RepT.kept (h : Kept p C w p' C' w') {x : Bool × Cs} {v : Value} (hr : RepT p C w x v) : RepT p' C' w' x v := by
  obtain ⟨b, xs⟩ := x
  cases b with
  | true => obtain ⟨vs, rfl, h1⟩ := hr; exact ⟨vs, rfl, h1.kept h⟩
  | false => exact Rep2.kept h hr
theorem RepD.kept (h : Kept p C w p' C' w') {d : D} {v : Value} (hr : RepD p C w d v) : RepD p' C' w' d v := by
  induction d with
  | any => trivial
  | one x => exact Rep0.kept h hr
  | agg xs => obtain ⟨vs, rfl, h1⟩ := hr; exact ⟨vs, rfl, h1.kept h⟩
  | tup xs => obtain ⟨vs, rfl, hl, hx⟩ := hr; exact ⟨vs, rfl, hl, fun i x u h1 h2 => (hx i x u h1 h2).kept h⟩
  | gd q d ih => exact ⟨fun hq => ih (hr.1 hq), hr.2⟩
end

/-! ### States of the model -/
def BlkOk (X : Ctx) (p : Rho) (w : World) (id : Nat) (blk : Blk) : Prop :=
  match p.μ id with
  | none => blk.cells = [] ∧ blk.pub = 0 ∧ blk.body.ok
  | some g => blk.body.ok ∧ X.own g ∧ (∀ id' blk', p.mem id' = some blk' → p.μ id' = some g → id' = id) ∧ blk.pub ≤ blk.cells.length ∧
      ∃ cur e lo hi, w.heap[g]? = some (.cells cur e (lo, hi)) ∧ (lo < hi → cur.size ≤ lo) ∧ blk.cells.length ≤ cur.size ∧
        ∀ (i : Nat) x, blk.cells[i]? = some x → ∃ u, cur[i]? = some u ∧ Rep0 p (CW X p w) w x u

structure RM (X : Ctx) (p : Rho) (w : World) : Prop where
  bel : Bel X w
  blk : ∀ id blk, p.mem id = some blk → BlkOk X p w id blk

def R (X : Ctx) (s : St) (a : Act) (w : World) : Prop :=
  ∃ μ, RM X ⟨s.mem, μ⟩ w ∧ a.tmps.size = X.nt ∧ a.defers = [] ∧ ∀ t, RepD ⟨s.mem, μ⟩ (CW X ⟨s.mem, μ⟩ w) w (s.tm t) (slotV X.xg a.tmps t)

theorem cell_row {w : World} {b : Nat} {cur : Array Value} {e : TypeId} {fr : Nat × Nat} (h : w.heap[b]? = some (.cells cur e fr)) (o : Nat) : w.cell? ⟨b, o, none⟩ = cur[o]? := by
  simp [World.cell?, h]
theorem cell_some {w : World} {b o : Nat} {u : Value} (h : w.cell? ⟨b, o, none⟩ = some u) : ∃ cur e fr, w.heap[b]? = some (.cells cur e fr) ∧ cur[o]? = some u := by
  unfold World.cell? at h
  split at h
  · rename_i c e fr hh
    exact ⟨c, e, fr, hh, by simpa using h⟩
  · cases h
theorem cell_lt {w : World} {b o : Nat} {u : Value} (h : w.cell? ⟨b, o, none⟩ = some u) : b < w.heap.size := by
  obtain ⟨cur, e, fr, h1, _⟩ := cell_some h
  exact (Array.getElem?_eq_some_iff.1 h1).1

/-! ### The steps of a world -/
section
variable {X : Ctx} {p : Rho} {w : World}
/-- the heap is the same -/
theorem RM.same {w' : World} (h : RM X p w) (hh : w'.heap = w.heap) (h1 : w'.os = w.os) (h2 : w'.tape = w.tape) (h3 : w'.output = w.output) :
    RM X p w' ∧ Kept p (CW X p w) w p (CW X p w') w' := by
  have hc : ∀ a, w'.cell? a = w.cell? a := fun a => by unfold World.cell?; rw [hh]
  have hK : Kept p (CW X p w) w p (CW X p w') w' :=
    Kept.of (fun b o u ⟨k1, k2, k3⟩ => ⟨by rw [hc]; exact k1, k2, k3⟩) (fun g n hz => by unfold Zb at *; rw [hh]; exact hz) (fun id blk hb => ⟨blk, hb, Nat.le_refl _, fun _ => ⟨rfl, rfl⟩⟩)
  refine ⟨⟨⟨h1.trans h.bel.os, h2.trans h.bel.tape, h3.trans h.bel.output, by rw [hh]; exact h.bel.size, fun k hk hx => by rw [hh]; exact h.bel.block k hk hx⟩, fun id blk hb => ?_⟩, hK⟩
  have := h.blk id blk hb
  unfold BlkOk at *
  split
  · rename_i hg; simpa [hg] using this
  · rename_i g hg
    simp only [hg] at this
    obtain ⟨g0, g1, g2, g3, cur, e, lo, hi, g4, g5, g6, g7⟩ := this
    refine ⟨g0, g1, g2, g3, cur, e, lo, hi, by rw [hh]; exact g4, g5, g6, fun i x hx => ?_⟩
    obtain ⟨u, u1, u2⟩ := g7 i x hx
    exact ⟨u, u1, u2.kept hK⟩

/-- a call of a function that leaves all that was there alone -/
theorem RM.call {w' : World} (h : RM X p w) (hb : Below w.heap.size w w') : RM X p w' ∧ Kept p (CW X p w) w p (CW X p w') w' := by
  have hK : Kept p (CW X p w) w p (CW X p w') w' :=
    Kept.of (fun b o u ⟨k1, k2, k3⟩ => ⟨by rw [hb.cell (p := ⟨b, o, none⟩) (cell_lt k1)]; exact k1, k2, k3⟩)
     (fun g n ⟨cur, e, fr, z1, z2⟩ => ⟨cur, e, fr, by rw [hb.block _ (Array.getElem?_eq_some_iff.1 z1).1]; exact z1, z2⟩)
     (fun id blk hb => ⟨blk, hb, Nat.le_refl _, fun _ => ⟨rfl, rfl⟩⟩)
  refine ⟨⟨h.bel.below hb, fun id blk hbk => ?_⟩, hK⟩
  have := h.blk id blk hbk
  unfold BlkOk at *
  split
  · rename_i hg; simpa [hg] using this
  · rename_i g hg
    simp only [hg] at this
    obtain ⟨g0, g1, g2, g3, cur, e, lo, hi, g4, g5, g6, g7⟩ := this
    refine ⟨g0, g1, g2, g3, cur, e, lo, hi, by rw [hb.block _ (Array.getElem?_eq_some_iff.1 g4).1]; exact g4, g5, g6, fun i x hx => ?_⟩
    obtain ⟨u, u1, u2⟩ := g7 i x hx
    exact ⟨u, u1, u2.kept hK⟩

def upd {α : Type} (f : Nat → α) (i : Nat) (x : α) : Nat → α := fun j => bif Nat.beq j i then x else f j
theorem upd_same {α : Type} (f : Nat → α) (i : Nat) (x : α) : upd f i x i = x := by
  simp [upd]
theorem upd_ne {α : Type} (f : Nat → α) {i j : Nat} (x : α) (h : j ≠ i) : upd f i x j = f j := by
  have : Nat.beq j i = false := by
    cases hb : Nat.beq j i with
    | false => rfl
    | true => exact absurd (Nat.eq_of_beq_eq_true hb) h
  simp [upd, this]

/-- a new block -/
theorem RM.alloc {ob : Array Value} {t : TypeId} {lo hi : Nat} {id : Nat} {blk : Blk} (h : RM X p w) (w' : World) (hw : w'.heap = w.heap.push (.cells ob t (lo, hi))) (h1 : w'.os = w.os) (h2 : w'.tape = w.tape) (h3 : w'.output = w.output)
    (hok : blk.body.ok) (hfz : lo < hi → ob.size ≤ lo) (hlen : blk.cells.length ≤ ob.size) (hpub : blk.pub ≤ blk.cells.length)
    (hver : ∀ b, p.mem id = some b → b.ver < blk.ver)
    (hcells : ∀ (i : Nat) x, blk.cells[i]? = some x → ∃ u, ob[i]? = some u ∧ Rep0 p (CW X p w) w x u) :
    RM X ⟨upd p.mem id (some blk), upd p.μ id (some w.heap.size)⟩ w' ∧
      Kept p (CW X p w) w ⟨upd p.mem id (some blk), upd p.μ id (some w.heap.size)⟩ (CW X ⟨upd p.mem id (some blk), upd p.μ id (some w.heap.size)⟩ w') w' := by
  have hold : ∀ k, k < w.heap.size → w'.heap[k]? = w.heap[k]? := fun k hk => by rw [hw, Array.getElem?_push, if_neg (by omega)]
  have hcell : ∀ b o, b < w.heap.size → w'.cell? ⟨b, o, none⟩ = w.cell? ⟨b, o, none⟩ := fun b o hb => by unfold World.cell?; simp only [hold b hb]
  have hK : Kept p (CW X p w) w ⟨upd p.mem id (some blk), upd p.μ id (some w.heap.size)⟩ (CW X ⟨upd p.mem id (some blk), upd p.μ id (some w.heap.size)⟩ w') w' := by
    refine Kept.of (fun b o u ⟨k1, k2, k3⟩ => ⟨by rw [hcell _ _ (cell_lt k1)]; exact k1, k2, fun hb id' blk' m1 m2 => ?_⟩) (fun g n ⟨cur, e, fr, z1, z2⟩ => ⟨cur, e, fr, by rw [hold _ (Array.getElem?_eq_some_iff.1 z1).1]; exact z1, z2⟩) (fun id' b hb => ?_)
    · by_cases hi : id' = id
      · subst hi
        simp only [upd_same, Option.some.injEq] at m2
        have := cell_lt k1
        omega
      · simp only [upd_ne _ _ hi] at m1 m2
        exact k3 hb id' blk' m1 m2
    · by_cases hi : id' = id
      · subst hi
        exact ⟨blk, upd_same _ _ _, Nat.le_of_lt (hver _ hb), fun e => absurd e (Nat.ne_of_lt (hver _ hb))⟩
      · exact ⟨b, by simp only [upd_ne _ _ hi]; exact hb, Nat.le_refl _, fun _ => ⟨by simp only [upd_ne _ _ hi], rfl⟩⟩
  refine ⟨⟨⟨h1.trans h.bel.os, h2.trans h.bel.tape, h3.trans h.bel.output, by rw [hw]; simp; have := h.bel.size; omega, fun k hk hx => ?_⟩, fun id' b hb => ?_⟩, hK⟩
  · rw [hold k (Nat.lt_of_lt_of_le hk h.bel.size)]; exact h.bel.block k hk hx
  · by_cases hi : id' = id
    · subst hi
      simp only [upd_same, Option.some.injEq] at hb
      subst hb
      simp only [BlkOk, upd_same]
      refine ⟨hok, .inl h.bel.size, fun id'' b'' q1 q2 => ?_, hpub, ob, t, lo, _, by rw [hw]; simp, hfz, hlen, fun i x hx => ?_⟩
      · by_cases hj : id'' = id'
        · exact hj
        · simp only [upd_ne _ _ hj] at q1 q2
          have := h.blk id'' b'' q1
          simp only [BlkOk, q2] at this
          obtain ⟨_, _, _, _, cur, e, lo, hi, g4, _⟩ := this
          have := (Array.getElem?_eq_some_iff.1 g4).1
          omega
      · obtain ⟨u, u1, u2⟩ := hcells i x hx
        exact ⟨u, u1, u2.kept hK⟩
    · simp only [upd_ne _ _ hi] at hb
      have := h.blk id' b hb
      unfold BlkOk at *
      simp only [upd_ne _ _ hi]
      split
      · rename_i hg; simpa [hg] using this
      · rename_i g hg
        simp only [hg] at this
        obtain ⟨g0, g1, g2, g3, cur, e, lo, hi', g4, g5, g6, g7⟩ := this
        have hgl := (Array.getElem?_eq_some_iff.1 g4).1
        refine ⟨g0, g1, fun id'' b'' q1 q2 => ?_, g3, cur, e, lo, hi', by rw [hold _ hgl]; exact g4, g5, g6, fun i x hx => ?_⟩
        · by_cases hj : id'' = id
          · subst hj
            simp only [upd_same, Option.some.injEq] at q2
            omega
          · simp only [upd_ne _ _ hj] at q1 q2
            exact g2 id'' b'' q1 q2
        · obtain ⟨u, u1, u2⟩ := g7 i x hx
          exact ⟨u, u1, u2.kept hK⟩

/-- cells of an own block are written: behind what is published -/
theorem RM.write {g : Nat} {cur cur' : Array Value} {t : TypeId} {lo hi : Nat} {id : Nat} {blk blk' : Blk} (h : RM X p w) (w' : World) (hb : p.mem id = some blk) (hμ : p.μ id = some g)
    (hg : w.heap[g]? = some (.cells cur t (lo, hi))) (hg' : w'.heap[g]? = some (.cells cur' t (lo, hi))) (hoth : ∀ k, k ≠ g → w'.heap[k]? = w.heap[k]?) (hsz : w'.heap.size = w.heap.size)
    (h1 : w'.os = w.os) (h2 : w'.tape = w.tape) (h3 : w'.output = w.output) (hcs : cur'.size = cur.size)
    (hpre : ∀ o, o < blk.pub → cur'[o]? = cur[o]?) (hp1 : blk.pub ≤ blk'.pub) (hp2 : blk'.pub ≤ blk'.cells.length) (hlen : blk'.cells.length ≤ cur.size)
    (hok : blk'.body.ok) (hver : blk.ver ≤ blk'.ver) (hvl : blk.ver = blk'.ver → blk'.body.shape = blk.body.shape)
    (hcells : ∀ (i : Nat) x, blk'.cells[i]? = some x → ∃ u, cur'[i]? = some u ∧ Rep0 p (CW X p w) w x u) :
    RM X ⟨upd p.mem id (some blk'), p.μ⟩ w' ∧ Kept p (CW X p w) w ⟨upd p.mem id (some blk'), p.μ⟩ (CW X ⟨upd p.mem id (some blk'), p.μ⟩ w') w' := by
  have hb0 := h.blk id blk hb
  simp only [BlkOk, hμ] at hb0
  obtain ⟨b0, b1, b2, b3, cur0, e0, lo0, hi0, b4, b5, b6, b7⟩ := hb0
  rw [hg] at b4
  simp only [Option.some.injEq, Obj.cells.injEq, Prod.mk.injEq] at b4
  obtain ⟨rfl, rfl, rfl, rfl⟩ := b4
  have hK : Kept p (CW X p w) w ⟨upd p.mem id (some blk'), p.μ⟩ (CW X ⟨upd p.mem id (some blk'), p.μ⟩ w') w' := by
    refine Kept.of (fun b o u ⟨k1, k2, k3⟩ => ⟨?_, k2, fun hbs id' blk'' m1 m2 => ?_⟩) (fun g' n ⟨c, e, fr, z1, z2⟩ => ?_) (fun id' b hb' => ?_)
    · by_cases hbg : b = g
      · subst hbg
        rw [cell_row hg', hpre o (k3 b1 id blk hb hμ), ← cell_row hg]
        exact k1
      · unfold World.cell? at *
        simp only [hoth b hbg]
        exact k1
    · by_cases hi : id' = id
      · subst hi
        simp only [upd_same, Option.some.injEq] at m1
        subst m1
        exact Nat.lt_of_lt_of_le (k3 hbs id' blk hb m2) hp1
      · simp only [upd_ne _ _ hi] at m1
        exact k3 hbs id' blk'' m1 m2
    · by_cases hgg : g' = g
      · subst hgg
        rw [hg] at z1
        cases z1
        exact ⟨cur', _, _, hg', by omega⟩
      · exact ⟨c, e, fr, by rw [hoth _ hgg]; exact z1, z2⟩
    · by_cases hi : id' = id
      · subst hi
        rw [hb] at hb'
        cases hb'
        exact ⟨blk', upd_same _ _ _, hver, fun e => ⟨rfl, hvl e⟩⟩
      · exact ⟨b, by simp only [upd_ne _ _ hi]; exact hb', Nat.le_refl _, fun _ => ⟨rfl, rfl⟩⟩
  refine ⟨⟨⟨h1.trans h.bel.os, h2.trans h.bel.tape, h3.trans h.bel.output, by rw [hsz]; exact h.bel.size, fun k hk hx => ?_⟩, fun id' b hb' => ?_⟩, hK⟩
  · rw [hoth k (fun e => b1.elim (fun q => absurd (Nat.lt_of_lt_of_le hk (e ▸ q)) (Nat.lt_irrefl _)) (fun q => hx (e ▸ q)))]; exact h.bel.block k hk hx
  · have hinj : ∀ g2 id2, (∀ id' blk', p.mem id' = some blk' → p.μ id' = some g2 → id' = id2) → ∀ id3 b3, upd p.mem id (some blk') id3 = some b3 → p.μ id3 = some g2 → id3 = id2 := by
      intro g2 id2 hh id3 b3 q1 q2
      by_cases hj : id3 = id
      · subst hj
        exact hh id3 blk hb q2
      · simp only [upd_ne _ _ hj] at q1
        exact hh id3 b3 q1 q2
    by_cases hi : id' = id
    · subst hi
      simp only [upd_same, Option.some.injEq] at hb'
      subst hb'
      simp only [BlkOk, hμ]
      refine ⟨hok, b1, hinj g id' b2, hp2, cur', t, lo, _, hg', by rw [hcs]; exact b5, by rw [hcs]; exact hlen, fun i x hx => ?_⟩
      obtain ⟨u, u1, u2⟩ := hcells i x hx
      exact ⟨u, u1, u2.kept hK⟩
    · simp only [upd_ne _ _ hi] at hb'
      have := h.blk id' b hb'
      unfold BlkOk at *
      simp only
      split
      · rename_i hg2; simpa [hg2] using this
      · rename_i g2 hg2
        simp only [hg2] at this
        obtain ⟨g0, g1, g2', g3, cur2, e, lo', hi', g4, g5, g6, g7⟩ := this
        have hne : g2 ≠ g := fun e => hi (b2 id' b hb' (e ▸ hg2))
        refine ⟨g0, g1, hinj g2 id' g2', g3, cur2, e, lo', hi', by rw [hoth _ hne]; exact g4, g5, g6, fun i x hx => ?_⟩
        obtain ⟨u, u1, u2⟩ := g7 i x hx
        exact ⟨u, u1, u2.kept hK⟩

/-- an own row with no block as yet -/
theorem RM.ghost {id ver z : Nat} (h : RM X p w) (hz : 0 < z) (hver : ∀ b, p.mem id = some b → b.ver < ver) :
    RM X ⟨upd p.mem id (some ⟨ver, .row z [], 0⟩), upd p.μ id none⟩ w ∧
      Kept p (CW X p w) w ⟨upd p.mem id (some ⟨ver, .row z [], 0⟩), upd p.μ id none⟩ (CW X ⟨upd p.mem id (some ⟨ver, .row z [], 0⟩), upd p.μ id none⟩ w) w := by
  have hK : Kept p (CW X p w) w ⟨upd p.mem id (some ⟨ver, .row z [], 0⟩), upd p.μ id none⟩ (CW X ⟨upd p.mem id (some ⟨ver, .row z [], 0⟩), upd p.μ id none⟩ w) w := by
    refine Kept.of (fun b o u ⟨k1, k2, k3⟩ => ⟨k1, k2, fun hb id' blk' m1 m2 => ?_⟩) (fun g n hz => hz) (fun id' b hb => ?_)
    · by_cases hi : id' = id
      · subst hi
        simp only [upd_same] at m2
        cases m2
      · simp only [upd_ne _ _ hi] at m1 m2
        exact k3 hb id' blk' m1 m2
    · by_cases hi : id' = id
      · subst hi
        exact ⟨_, upd_same _ _ _, Nat.le_of_lt (hver _ hb), fun e => absurd e (Nat.ne_of_lt (hver _ hb))⟩
      · exact ⟨b, by simp only [upd_ne _ _ hi]; exact hb, Nat.le_refl _, fun _ => ⟨by simp only [upd_ne _ _ hi], rfl⟩⟩
  refine ⟨⟨h.bel, fun id' b hb => ?_⟩, hK⟩
  by_cases hi : id' = id
  · subst hi
    simp only [upd_same, Option.some.injEq] at hb
    subst hb
    simp only [BlkOk, upd_same]
    exact ⟨rfl, by simp, hz, by simp⟩
  · simp only [upd_ne _ _ hi] at hb
    have := h.blk id' b hb
    unfold BlkOk at *
    simp only [upd_ne _ _ hi]
    split
    · rename_i hg; simpa [hg] using this
    · rename_i g hg
      simp only [hg] at this
      obtain ⟨g0, g1, g2, g3, cur, e, lo, hi', g4, g5, g6, g7⟩ := this
      refine ⟨g0, g1, fun id'' b'' q1 q2 => ?_, g3, cur, e, lo, hi', g4, g5, g6, fun i x hx => ?_⟩
      · by_cases hj : id'' = id
        · subst hj
          simp only [upd_same] at q2
          cases q2
        · simp only [upd_ne _ _ hj] at q1 q2
          exact g2 id'' b'' q1 q2
      · obtain ⟨u, u1, u2⟩ := g7 i x hx
        exact ⟨u, u1, u2.kept hK⟩

/-- more of an own block is published -/
theorem RM.pub {id n : Nat} {blk : Blk} (h : RM X p w) (hb : p.mem id = some blk) (h1 : blk.pub ≤ n) (h2 : n ≤ blk.cells.length) :
    RM X ⟨upd p.mem id (some ⟨blk.ver, blk.body, n⟩), p.μ⟩ w ∧ Kept p (CW X p w) w ⟨upd p.mem id (some ⟨blk.ver, blk.body, n⟩), p.μ⟩ (CW X ⟨upd p.mem id (some ⟨blk.ver, blk.body, n⟩), p.μ⟩ w) w := by
  have hb0 := h.blk id blk hb
  cases hμ : p.μ id with
  | some g =>
    simp only [BlkOk, hμ] at hb0
    obtain ⟨b0, b1, b2, b3, cur, e, lo, hi, b4, b5, b6, b7⟩ := hb0
    exact h.write (blk' := ⟨blk.ver, blk.body, n⟩) w hb hμ b4 b4 (fun _ _ => rfl) rfl rfl rfl rfl rfl (fun _ _ => rfl) h1 h2 b6 b0 (Nat.le_refl _) (fun _ => rfl) b7
  | none =>
    simp only [BlkOk, hμ] at hb0
    have hn : n = 0 := by rw [hb0.1] at h2; simpa using h2
    have he : upd p.mem id (some ⟨blk.ver, blk.body, n⟩) = p.mem := by
      funext j
      by_cases hj : j = id
      · subst hj
        rw [upd_same, hb, hn, ← hb0.2.1]
      · rw [upd_ne _ _ hj]
    rw [he]
    exact ⟨h, ⟨fun _ _ _ h => h, fun id blk hb => ⟨blk, hb, Nat.le_refl _, fun _ => ⟨rfl, rfl, fun _ _ _ _ h => h⟩⟩⟩⟩
end

theorem Kept.rfl' {p : Rho} {C : Nat → Nat → Value → Prop} {w : World} : Kept p C w p C w :=
  ⟨fun _ _ _ h => h, fun _ blk hb => ⟨blk, hb, Nat.le_refl _, fun _ => ⟨rfl, rfl, fun _ _ _ _ h => h⟩⟩⟩
theorem Kept.trans {p p' p'' : Rho} {C C' C'' : Nat → Nat → Value → Prop} {w w' w'' : World} (h : Kept p C w p' C' w') (k : Kept p' C' w' p'' C'' w'') : Kept p C w p'' C'' w'' :=
  ⟨fun _ _ _ x => k.hC _ _ _ (h.hC _ _ _ x), fun id blk hb => by
    obtain ⟨b1, e1, e2, e3⟩ := h.hm _ _ hb
    obtain ⟨b2, f1, f2, f3⟩ := k.hm _ _ e1
    refine ⟨b2, f1, by omega, fun e => ?_⟩
    have a1 := e3 (by omega)
    have a2 := f3 (by omega)
    exact ⟨a2.1.trans a1.1, a2.2.1.trans a1.2.1, fun h0 g n hg hz => a2.2.2 (by rw [a1.2.1]; exact h0) g n (a1.1.trans hg) (a1.2.2 h0 g n hg hz)⟩⟩
end Go.Proofs.YtcjeeoimjkhijaaDoor.Ab
