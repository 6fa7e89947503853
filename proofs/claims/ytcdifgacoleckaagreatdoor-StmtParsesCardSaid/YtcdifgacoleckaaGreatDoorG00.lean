/- Part of the proof: steps of the program over abstract states. No condition. -/
import Derived.Test.YtcdifgacoleckaaGreatDoorRows
import Derived.WalkKit
import Derived.ProofKit
import Derived.OpenShut
import Derived.ShutString
import Derived.ChangeOld
import Derived.Below
import Derived.JoinedCond
import Derived.Deep.Slices
import Derived.Lib.Hide
import Derived.Deep.Draws
import Derived.Deep.Quiet
import Derived.Laws.Cells
import Derived.Laws.StructEq
set_option linter.unusedVariables false
set_option linter.unusedSimpArgs false
namespace Go.Proofs.YtcdifgacoleckaaGreatDoor
open Go.ChangeShapes Go.WideShapes Go.ChangeAt Go.RowKit Go.Deep
def At (w : World) (b o : Nat) (cs : List Value) : Prop := ∀ j u, cs[j]? = some u -> w.cell? ⟨b, o + j, none⟩ = some u
theorem At.keep {w w' : World} {S : Nat -> Prop} {b o : Nat} {cs : List Value} (h : At w b o cs) (hb : S b) (hk : ∀ p : Addr, S p.block -> w'.cell? p = w.cell? p) : At w' b o cs :=
 fun j u hu => (hk _ hb).trans (h j u hu)
structure Cd (α : Type) where
 size : Nat
 rel : World -> (Nat -> Prop) -> List Value -> α -> Prop
 bulk : α -> Nat
 len : ∀ {w : World} {S : Nat -> Prop} {cs : List Value} {x : α}, rel w S cs x -> cs.length = size
 keep : ∀ {w w' : World} {S : Nat -> Prop} {cs : List Value} {x : α}, rel w S cs x -> (∀ p : Addr, S p.block -> w'.cell? p = w.cell? p) -> rel w' S cs x
 more : ∀ {w : World} {S S' : Nat -> Prop} {cs : List Value} {x : α}, rel w S cs x -> (∀ b, S b -> S' b) -> rel w S' cs x
section
variable {α β : Type}
def lt (B : Nat) : Nat -> Prop := fun b => b < B
theorem Cd.below (c : Cd α) {w w' : World} {B : Nat} {cs : List Value} {x : α} (h : c.rel w (lt B) cs x) (hb : Below B w w') : c.rel w' (lt B) cs x :=
 c.keep h fun _ hp => hb.cell hp
theorem Cd.up (c : Cd α) {w : World} {B B' : Nat} {cs : List Value} {x : α} (h : c.rel w (lt B) cs x) (hB : B <= B') : c.rel w (lt B') cs x :=
 c.more h fun b hb => by unfold lt at *; omega
def zLs (k : IntKind) : Cd Int where
 size := 1
 rel _ _ cs x := cs = [.int k x] /\ (Lit.int k x).wf = true
 bulk _ := 1
 len h := by rw [h.1]; rfl
 keep h _ := h
 more h _ := h
def zS6 : Cd ByteArray where
 size := 1
 rel _ _ cs x := cs = [.string x] /\ x.size <= maxLen
 bulk x := x.size + 1
 len h := by rw [h.1]; rfl
 keep h _ := h
 more h _ := h
def SlR (c : Cd α) (w : World) (S : Nat -> Prop) (A : Option Addr) (n : Nat) (xs : List α) : Prop :=
 xs.length = n /\ (0 < n -> ∃ b o, A = some ⟨b, o, none⟩ /\ S b /\ ∀ i x, xs[i]? = some x -> ∃ cs, At w b (o + i * c.size) cs /\ c.rel w S cs x)
theorem SlR.keep {c : Cd α} {w w' : World} {S : Nat -> Prop} {A : Option Addr} {n : Nat} {xs : List α} (h : SlR c w S A n xs) (hk : ∀ p : Addr, S p.block -> w'.cell? p = w.cell? p) : SlR c w' S A n xs :=
 ⟨h.1, fun hn => by
  obtain ⟨b, o, e, hb, hx⟩ := h.2 hn
  refine ⟨b, o, e, hb, fun i x hi => ?_⟩
  obtain ⟨cs, h1, h2⟩ := hx i x hi
  exact ⟨cs, h1.keep hb hk, c.keep h2 hk⟩⟩
theorem SlR.more {c : Cd α} {w : World} {S S' : Nat -> Prop} {A : Option Addr} {n : Nat} {xs : List α} (h : SlR c w S A n xs) (hS : ∀ b, S b -> S' b) : SlR c w S' A n xs :=
 ⟨h.1, fun hn => by
  obtain ⟨b, o, e, hb, hx⟩ := h.2 hn
  refine ⟨b, o, e, hS b hb, fun i x hi => ?_⟩
  obtain ⟨cs, h1, h2⟩ := hx i x hi
  exact ⟨cs, h1, c.more h2 hS⟩⟩
theorem SlR.up {c : Cd α} {w : World} {B B' : Nat} {A : Option Addr} {n : Nat} {xs : List α} (h : SlR c w (lt B) A n xs) (hB : B <= B') : SlR c w (lt B') A n xs :=
 h.more fun b hb => by unfold lt at *; omega
theorem SlR.below {c : Cd α} {w w' : World} {B : Nat} {A : Option Addr} {n : Nat} {xs : List α} (h : SlR c w (lt B) A n xs) (hb : Below B w w') : SlR c w' (lt B) A n xs :=
 h.keep fun _ hp => hb.cell hp
theorem SlR.nil (c : Cd α) (w : World) (S : Nat -> Prop) (A : Option Addr) : SlR c w S A 0 ([] : List α) := ⟨rfl, fun h => absurd h (by omega)⟩
def zD7 (c : Cd α) : Cd (List α) where
 size := 1
 rel w S cs xs := ∃ A n cap, cs = [.slice A n cap] /\ n <= cap /\ cap <= maxLen /\ SlR c w S A n xs
 bulk xs := (xs.map c.bulk).sum + 1
 len h := by obtain ⟨A, n, cap, rfl, _⟩ := h; rfl
 keep h hk := by obtain ⟨A, n, cap, rfl, h1, h2, h3⟩ := h; exact ⟨A, n, cap, rfl, h1, h2, h3.keep hk⟩
 more h hB := by obtain ⟨A, n, cap, rfl, h1, h2, h3⟩ := h; exact ⟨A, n, cap, rfl, h1, h2, h3.more hB⟩
def zS7 : Cd Unit where
 size := 0
 rel _ _ cs _ := cs = []
 bulk _ := 0
 len h := by rw [h]; rfl
 keep h _ := h
 more h _ := h
def zDv (c : Cd α) (d : Cd β) : Cd (α × β) where
 size := c.size + d.size
 rel w S cs x := ∃ l r, cs = l ++ r /\ c.rel w S l x.1 /\ d.rel w S r x.2
 bulk x := c.bulk x.1 + d.bulk x.2
 len h := by obtain ⟨l, r, rfl, h1, h2⟩ := h; rw [List.length_append, c.len h1, d.len h2]
 keep h hk := by obtain ⟨l, r, rfl, h1, h2⟩ := h; exact ⟨l, r, rfl, c.keep h1 hk, d.keep h2 hk⟩
 more h hB := by obtain ⟨l, r, rfl, h1, h2⟩ := h; exact ⟨l, r, rfl, c.more h1 hB, d.more h2 hB⟩
def zER (c : Cd α) : Cd α := { c with bulk := fun x => c.bulk x + 1 }
end
section
variable {α β : Type} {H : Type} {enc : TypeId × Value -> H} {P : Program} {W : World}
def zNP (P : Program) (t : TypeId) (c : Cd α) : Prop :=
 P.cellsOf t = c.size /\ ∀ (H : Type) (enc : TypeId × Value -> H) (W : World) (fuel : Nat) (cs : List Value) (x : DataW H × List MemPlace),
  DataW.trod enc P W 0 (fun _ => true) true fuel t cs = some x -> ∃ a, c.rel W (lt W.heap.size) cs a /\ c.bulk a <= Rows.uptoBulk x.1
theorem zGE {t : TypeId} {k : IntKind} (ht : P.underlying t = some (.int k)) (hc : P.cellsOf t = 1) : zNP P t (zLs k) :=
 ⟨hc, fun _ _ _ _ _ _ h => by
  obtain ⟨n, rfl, rfl, hw⟩ := DataW.trod_int ht h
  exact ⟨n, ⟨rfl, hw⟩, by simp [zLs, Rows.uptoBulk]⟩⟩
theorem zOs {t : TypeId} (ht : P.underlying t = some .string) (hc : P.cellsOf t = 1) : zNP P t zS6 :=
 ⟨hc, fun _ _ _ _ _ _ h => by
  obtain ⟨s, rfl, rfl, hm⟩ := DataW.trod_string ht h
  refine ⟨s, ⟨rfl, hm⟩, ?_⟩
  simp [zS6, Rows.uptoBulk]⟩
theorem pick {n : Nat} {p : Nat -> α -> Prop} (h : ∀ i, i < n -> ∃ a, p i a) : ∃ xs : List α, xs.length = n /\ ∀ i x, xs[i]? = some x -> p i x := by
 induction n with
 | zero => exact ⟨[], rfl, fun i x hx => by simp at hx⟩
 | succ n ih =>
  obtain ⟨xs, hl, hx⟩ := ih fun i hi => h i (by omega)
  obtain ⟨a, ha⟩ := h n (by omega)
  refine ⟨xs ++ [a], by simp [hl], fun i x hi => ?_⟩
  by_cases hin : i < n
  ·rw [List.getElem?_append_left (by omega)] at hi
   exact hx i x hi
  ·rw [List.getElem?_append_right (by omega), hl] at hi
   by_cases he : i = n
   ·subst he
    simp at hi
    subst hi
    exact ha
   ·have : i - n = (i - n - 1) + 1 := by omega
    rw [this] at hi
    simp at hi
theorem zNK {H : Type} {c : Cd α} (xs : List α) (D : Nat -> DataW H) (h : ∀ i x, xs[i]? = some x -> c.bulk x <= Rows.uptoBulk (D i)) :
  (xs.map c.bulk).sum <= Rows.uptoBulkAll ((List.range xs.length).map D) := by
 induction xs generalizing D with
 | nil => simp
 | cons x xs ih =>
  have h0 := h 0 x rfl
  have h1 := ih (fun i => D (i + 1)) fun i y hy => h (i + 1) y (by simpa using hy)
  rw [List.length_cons, List.range_succ_eq_map, List.map_cons, List.map_cons, List.map_map, Rows.uptoBulkAll, List.sum_cons]
  have e : (List.range xs.length).map (D ∘ Nat.succ) = (List.range xs.length).map fun i => D (i + 1) := rfl
  rw [e]
  omega
theorem zKU {t e : TypeId} {c : Cd α} (ht : P.underlying t = some (.slice e)) (hc : P.cellsOf t = 1) (hs : 0 < c.size) (he : zNP P e c) : zNP P t (zD7 c) :=
 ⟨hc, fun _ _ W _ _ _ h => by
  rcases open_slice ht h with ⟨rfl, rfl⟩ | ⟨a, len, cap, m, n, D, Pl, rfl, hb, hl, hm, hmm, rfl, hi⟩
  ·exact ⟨[], ⟨none, 0, 0, rfl, Nat.le_refl _, Nat.zero_le _, SlR.nil _ _ _ _⟩, by simp [zD7, Rows.uptoBulk]⟩
  ·have hml : len <= m := by simp only [if_true] at hmm; omega
   obtain ⟨xs, hxl, hx⟩ := pick (n := len) (p := fun i x => ∃ cs', W.cells? 0 (a.add (i * c.size)) c.size = some cs' /\ c.rel W (lt W.heap.size) cs' x /\ c.bulk x <= Rows.uptoBulk (D i)) (fun i hil => by
    obtain ⟨cs', h1, h2⟩ := hi i (by omega)
    rw [he.1] at h1
    obtain ⟨y, hy, hyb⟩ := he.2 _ _ _ _ _ _ h2
    exact ⟨y, cs', h1, hy, hyb⟩)
   refine ⟨xs, ⟨some a, len, cap, rfl, hl, hm, hxl, fun hn => ?_⟩, ?_⟩
   ·have hspot : a.spot = none /\ a.block < W.heap.size := by
     obtain ⟨cs', h1, h2, _⟩ := hx 0 xs[0] (List.getElem?_eq_getElem (by omega))
     obtain ⟨_, hlen, hcell⟩ := World.cells?_some h1
     have h0 := hcell 0 hs
     have hsome : cs'[0]? = some (cs'[0]'(by omega)) := List.getElem?_eq_getElem (by omega)
     rw [hsome] at h0
     simp only [Nat.zero_mul, Addr.add, if_true] at h0
     exact ⟨World.cell?_spot h0, block_lt_of_cell h0⟩
    obtain ⟨b, o, spot⟩ := a
    obtain rfl : spot = none := hspot.1
    refine ⟨b, o, rfl, hspot.2, fun i x hix => ?_⟩
    obtain ⟨cs', h1, h2, _⟩ := hx i x hix
    obtain ⟨_, hlen, hcell⟩ := World.cells?_some h1
    refine ⟨cs', fun j u hu => ?_, h2⟩
    have hj : j < c.size := by
     rw [<-hlen]
     exact (List.getElem?_eq_some_iff.1 hu).1
    have e1 : ((⟨b, o, none⟩ : Addr).add (i * c.size)).add j = ⟨b, o + i * c.size + j, none⟩ := by
     unfold Addr.add
     by_cases h1 : i * c.size = 0 <;> by_cases h2 : j = 0 <;> simp [h1, h2]
    rw [<-e1, hcell j hj, hu]
   ·have := zNK xs D fun i x hix => (hx i x hix).choose_spec.2.2
    rw [hxl] at this
    simp only [zD7, Rows.uptoBulk]
    omega⟩
def zJb (P : Program) (off : Nat) (fs : List Field) (c : Cd α) : Prop :=
 ∀ (H : Type) (enc : TypeId × Value -> H) (W : World) (n : Nat) (cs : List Value) (ys : List (DataW H × List MemPlace)), cs.length = off + c.size -> ys.length = fs.length ->
  (∀ (i : Nat) (f : Field), fs[i]? = some f -> DataW.trod enc P W 0 (fun _ => true) true n f.type ((cs.drop f.offset).take (P.cellsOf f.type)) = ys[i]?) ->
  ∃ a, c.rel W (lt W.heap.size) (cs.drop off) a /\ c.bulk a <= Rows.uptoBulkAll (ys.map (·.1))
theorem zKV (off : Nat) : zJb P off [] zS7 := fun _ _ _ _ cs ys hl _ _ => ⟨(), by
 simp only [zS7] at hl ⊢
 exact List.drop_eq_nil_of_le (by omega), Nat.zero_le _⟩
theorem zC7 {off : Nat} {f : Field} {fs : List Field} {c : Cd α} {d : Cd β} (hoff : f.offset = off) (hf : zNP P f.type c) (hr : zJb P (off + c.size) fs d) : zJb P off (f :: fs) (zDv c d) :=
 fun H enc W n cs ys hl hyl hi => by
  obtain ⟨y, ys, rfl⟩ : ∃ y ys', ys = y :: ys' := by cases ys with
   | nil => simp at hyl
   | cons y ys => exact ⟨y, ys, rfl⟩
  have h0 := hi 0 f rfl
  rw [hf.1, hoff] at h0
  obtain ⟨a, ha, hab⟩ := hf.2 _ _ _ _ _ y (by simpa using h0)
  obtain ⟨b, hb, hbb⟩ := hr H enc W n cs ys (by simp only [zDv] at hl; omega) (by simpa using hyl) fun i g hg => by
   have := hi (i + 1) g (by simpa using hg)
   simpa using this
  refine ⟨(a, b), ⟨(cs.drop off).take c.size, cs.drop (off + c.size), ?_, ha, hb⟩, ?_⟩
  ·rw [<-List.drop_drop, List.take_append_drop]
  ·simp only [zDv, List.map_cons, Rows.uptoBulkAll]
   omega
theorem zJH {t : TypeId} {fs : Array Field} {c : Cd α} (ht : P.underlying t = some (.struct fs)) (hc : P.cellsOf t = c.size) (hf : zJb P 0 fs.toList c) : zNP P t (zER c) :=
 ⟨hc, fun H enc W _ cs _ h => by
  obtain ⟨ys, n, _, rfl, hcl, hyl, hi⟩ := DataW.trod_struct ht h
  obtain ⟨a, ha, hb⟩ := hf H enc W n cs ys (by rw [hcl, hc]; omega) (by simpa using hyl) (fun i f hif => hi i f (by simpa using hif))
  have ha' : c.rel W (lt W.heap.size) cs a := by simpa using ha
  refine ⟨a, ha', ?_⟩
  simp only [zER, Rows.uptoBulk]
  omega⟩
end
end Go.Proofs.YtcdifgacoleckaaGreatDoor
namespace Go.Proofs.YtcdifgacoleckaaGreatDoor.Ab
open Go Go.RowKit
inductive E where
  | v (x : Value)
  | sl (xs : List (List E))
  | pt (cs : List E)
inductive RepE (C : Nat -> Nat -> Value -> Prop) : E -> Value -> Prop
  | v (x : Value) (h1 : x.oneCell' = true) : RepE C (.v x) x
  | sl (A : Option Addr) (n cap z b o : Nat) (U : Nat -> Nat -> Value) (xs : List (List E))
      (hn : xs.length = n) (hc : n <= cap) (hm : cap <= maxLen) (hA : 0 < n -> A = some ⟨b, o, none⟩)
      (hz : ∀ cs ∈ xs, cs.length = z)
      (hC : ∀ i cs j e, xs[i]? = some cs -> cs[j]? = some e -> C b (o + i * z + j) (U i j))
      (hr : ∀ i cs j e, xs[i]? = some cs -> cs[j]? = some e -> RepE C e (U i j)) :
      RepE C (.sl xs) (.slice A n cap)
  | pt (b o : Nat) (U : Nat -> Value) (cs : List E) (hC : ∀ j e, cs[j]? = some e -> C b (o + j) (U j)) (hr : ∀ j e, cs[j]? = some e -> RepE C e (U j)) :
      RepE C (.pt cs) (.pointer (some ⟨b, o, none⟩))
theorem RepE.mono {C C' : Nat -> Nat -> Value -> Prop} (h : ∀ b o u, C b o u -> C' b o u) {x : E} {v : Value} (hr : RepE C x v) : RepE C' x v := by
  induction hr with
  | v x h1 => exact .v x h1
  | sl A n cap z b o U xs hn hc hm hA hz hC hr ih =>
    exact .sl A n cap z b o U xs hn hc hm hA hz (fun i cs j e h1 h2 => h _ _ _ (hC i cs j e h1 h2)) ih
  | pt b o U cs hC hr ih => exact .pt b o U cs (fun j e h1 => h _ _ _ (hC j e h1)) ih
theorem RepE.one {C : Nat -> Nat -> Value -> Prop} {x : E} {v : Value} (hr : RepE C x v) : v.oneCell' = true := by
  cases hr with
  | v x h1 => exact h1
  | sl => rfl
  | pt => rfl
inductive D0 where
  | e (x : E)
  | nil
  | ptr (id ver off : Nat)
  | rptr (id ver i j : Nat)
  | eptr (cs : List E)
  | own (id ver : Nat)
  | clo (f : Nat) (caps : List (Nat × Nat × Nat))
  | bsl (id ver off z n : Nat)
  | hnd (id ver : Nat)
inductive Cs where
  | es (xs : List E)
  | ds (xs : List D0)
def Cs.d0 : Cs -> List D0
  | .es xs => xs.map .e
  | .ds xs => xs
inductive D where
  | any
  | one (x : D0)
  | agg (c : Cs)
  | tup (xs : List (Bool × Cs))
  | gd (p : Prop) (d : D)
def zPK (s : ByteArray) : Nat -> List (Nat × Nat) -> Prop
  | pos, [] => s.size <= pos
  | pos, x :: r => pos < s.size /\ Utf8.decode s pos = x /\ zPK s (pos + x.2) r
inductive Raw where
  | iter (s : ByteArray) (pos : Nat) (l : List (Nat × Nat))
  | smap (l : List (ByteArray × Int))
def zBb : Nat -> List (ByteArray × Int) -> List MapEntry
  | _, [] => []
  | i, (k, v) :: r => { key := .string k, val := .int .i64 v, born := i } :: zBb (i + 1) r
def Raw.obj : Raw -> Obj
  | .iter s pos _ => .stringIter s pos
  | .smap l => .map (zBb 0 l).toArray l.length
def Raw.ok : Raw -> Prop
  | .iter s pos l => zPK s pos l
  | .smap _ => True
theorem Raw.obj_ne (o : Raw) : ∀ c e f, o.obj ≠ .cells c e f := by
  cases o with
  | iter s pos l => exact fun c e f h => nomatch h
  | smap l => exact fun c e f h => nomatch h
inductive Body where
  | box (c : Cs)
  | row (z : Nat) (xs : List (List E))
  | raw (o : Raw)
def Body.cells : Body -> List D0
  | .box c => c.d0
  | .row _ xs => xs.flatten.map .e
  | .raw _ => []
def Body.shape : Body -> Nat × Nat
  | .box c => (0, c.d0.length)
  | .row z xs => (z, xs.length)
  | .raw _ => (0, 0)
def Body.ok : Body -> Prop
  | .box _ => True
  | .row z xs => 0 < z /\ ∀ cs ∈ xs, cs.length = z
  | .raw o => o.ok
def Body.okN : Body -> Prop
  | .raw _ => False
  | b => b.ok
def Body.obj (b : Body) (cur : Array Value) (e : TypeId) (lo hi : Nat) : Obj := match b with
  | .raw o => o.obj
  | _ => .cells cur e (lo, hi)
structure Blk where
  ver : Nat
  body : Body
  pub : Nat
def Blk.cells (b : Blk) : List D0 := b.body.cells
structure St where
  tm : Nat -> D
  mem : Nat -> Option Blk
structure Ctx where
  W : World
  I : Nat -> Nat -> Prop
  nt : Nat
  big : nt <= 900000
  ex : Nat -> Prop
  xg : Nat -> Nat
  df : List Deferred
def Ctx.own (X : Ctx) (b : Nat) : Prop := X.W.heap.size <= b \/ X.ex b
structure BelS (W : World) (ex : Nat -> Prop) (w : World) : Prop where
  os : w.os = W.os
  tape : w.tape = W.tape
  output : w.output = W.output
  size : W.heap.size <= w.heap.size
  block : ∀ k, k < W.heap.size -> ¬ ex k -> w.heap[k]? = W.heap[k]?
def Bel (X : Ctx) (w : World) : Prop := BelS X.W X.ex w
theorem Bel.refl (X : Ctx) : Bel X X.W := (⟨rfl, rfl, rfl, Nat.le_refl _, fun _ _ _ => rfl⟩ : BelS X.W X.ex X.W)
theorem Bel.below {X : Ctx} {w w' : World} (h : Bel X w) (k : Below w.heap.size w w') : Bel X w' :=
  (⟨k.os.trans h.os, k.tape.trans h.tape, k.output.trans h.output, Nat.le_trans h.size k.size, fun i hi hx => (k.block i (Nat.lt_of_lt_of_le hi h.size)).trans (h.block i hi hx)⟩ : BelS X.W X.ex w')
theorem Bel.toBelow {X : Ctx} {w : World} (h : Bel X w) (hx : ∀ k, ¬ X.ex k) : Below X.W.heap.size X.W w := ⟨h.os, h.tape, h.output, h.size, fun k hk => h.block k hk (hx k)⟩
def zAL (x : Nat -> Nat) (tmps : Array Value) (t : Nat) : Value := bif Nat.ble 1000000 t then .pointer (some ⟨t - 1000000, 0, none⟩) else bif Nat.ble 900000 t then .pointer (some ⟨x t, 0, none⟩) else tmps.getD t undef
theorem zCq {x : Nat -> Nat} {tmps : Array Value} {t : Nat} (h : t < 900000) : zAL x tmps t = tmps.getD t undef := by
  have e : Nat.ble 1000000 t = false := by
    cases hb : Nat.ble 1000000 t with
    | false => rfl
    | true => have := Nat.le_of_ble_eq_true hb; omega
  have e2 : Nat.ble 900000 t = false := by
    cases hb : Nat.ble 900000 t with
    | false => rfl
    | true => have := Nat.le_of_ble_eq_true hb; omega
  unfold zAL
  rw [e, e2]
  rfl
theorem zBH {x : Nat -> Nat} {tmps : Array Value} (g : Nat) : zAL x tmps (1000000 + g) = .pointer (some ⟨g, 0, none⟩) := by
  have e : Nat.ble 1000000 (1000000 + g) = true := Nat.ble_eq_true_of_le (by omega)
  unfold zAL
  rw [e, Nat.add_sub_cancel_left]
  rfl
def zS3 (f : Nat) (vs : List Value) : Value := bif Nat.ble 1048576 f then .func (.func (f - 1048576)) vs.toArray #[] else .func (.func f) #[] vs.toArray
theorem zCG {f : Nat} {vs : List Value} (h : Nat.ble 1048576 f = false) : zS3 f vs = .func (.func f) #[] vs.toArray := by
  unfold zS3
  rw [h]
  rfl
theorem zLr {f : Nat} {vs : List Value} : zS3 (1048576 + f) vs = .func (.func f) vs.toArray #[] := by
  unfold zS3
  rw [Nat.ble_eq_true_of_le (Nat.le_add_right ..), Nat.add_sub_cancel_left]
  rfl
theorem zQ4 (f : Nat) (vs : List Value) : (zS3 f vs).oneCell' = true := by
  unfold zS3
  cases Nat.ble 1048576 f <;> rfl
structure Rho where
  mem : Nat -> Option Blk
  μ : Nat -> Option Nat
def CW (X : Ctx) (p : Rho) (w : World) (b o : Nat) (u : Value) : Prop :=
  w.cell? ⟨b, o, none⟩ = some u /\ (¬ X.own b -> X.I b o) /\ (X.own b -> ∀ id blk, p.mem id = some blk -> p.μ id = some b -> o < blk.pub)
def Zb (w : World) (g n : Nat) : Prop := ∃ cur e fr, w.heap[g]? = some (.cells cur e fr) /\ n <= cur.size
def zKv (p : Rho) (id ver : Nat) (K : Nat -> Prop) : Prop :=
  ∃ blk, p.mem id = some blk /\ ver <= blk.ver /\ (ver = blk.ver -> ∃ g, p.μ id = some g /\ K g)
def zCQ (p : Rho) (C : Nat -> Nat -> Value -> Prop) (w : World) : D0 -> Value -> Prop
  | .e x, v => RepE C x v
  | .nil, v => v = .slice none 0 0
  | .rptr id ver i j, v => v.oneCell' = true /\ ∃ blk, p.mem id = some blk /\ ver <= blk.ver /\ (ver = blk.ver -> ∃ g, p.μ id = some g /\ v = .pointer (some ⟨g, i * blk.body.shape.1 + j, none⟩))
  | .ptr id ver off, v => v.oneCell' = true /\ zKv p id ver fun g => v = .pointer (some ⟨g, off, none⟩)
  | .eptr cs, v => ∃ b o, v = .pointer (some ⟨b, o, none⟩) /\ ∀ j e, cs[j]? = some e -> ∃ u, C b (o + j) u /\ RepE C e u
  | .own id ver, v => v.oneCell' = true /\ ∃ blk, p.mem id = some blk /\ ver <= blk.ver /\ (ver = blk.ver -> ∃ z n, blk.body.shape = (z, n) /\ 0 < z /\ ((n = 0 /\ ∃ A, v = .slice A 0 0) ∨
      ∃ g cap, p.μ id = some g /\ v = .slice (some ⟨g, 0, none⟩) n cap /\ n <= cap /\ cap <= maxLen /\ Zb w g (cap * z)))
  | .clo f caps, v => ∃ vs : List Value, v = zS3 f vs /\ caps.length = vs.length ∧
      ∀ (i : Nat) c u, caps[i]? = some c -> vs[i]? = some u -> zKv p c.1 c.2.1 fun g => u = .pointer (some ⟨g, c.2.2, none⟩)
  | .bsl id ver off z n, v => v.oneCell' = true /\ ∃ blk, p.mem id = some blk /\ ver <= blk.ver /\ (ver = blk.ver -> 0 < z /\ off + n * z <= blk.body.shape.2 /\ ∃ g cap, p.μ id = some g /\ v = .slice (some ⟨g, off, none⟩) n cap /\ n <= cap /\ cap <= maxLen)
  | .hnd id ver, v => v.oneCell' = true /\ zKv p id ver fun g => v = .map (some g)
theorem zCQ.one {p : Rho} {C : Nat -> Nat -> Value -> Prop} {w : World} {x : D0} {v : Value} (h : zCQ p C w x v) : v.oneCell' = true := by
  cases x with
  | e x => exact RepE.one h
  | nil => rw [show v = .slice none 0 0 from h]; rfl
  | ptr => exact h.1
  | rptr => exact h.1
  | eptr cs => obtain ⟨b, o, rfl, _⟩ := h; rfl
  | own => exact h.1
  | clo f caps => obtain ⟨vs, rfl, _⟩ := h; exact zQ4 _ _
  | bsl => exact h.1
  | hnd => exact h.1
def zBA (p : Rho) (C : Nat -> Nat -> Value -> Prop) (w : World) (xs : List D0) (vs : List Value) : Prop :=
  xs.length = vs.length /\ ∀ (i : Nat) x u, xs[i]? = some x -> vs[i]? = some u -> zCQ p C w x u
def zMP (p : Rho) (C : Nat -> Nat -> Value -> Prop) (w : World) (x : Bool × Cs) (v : Value) : Prop :=
  match x with
  | (true, xs) => ∃ vs : List Value, v = .agg vs.toArray /\ zBA p C w xs.d0 vs
  | (false, xs) => zBA p C w xs.d0 [v]
def zAy (p : Rho) (C : Nat -> Nat -> Value -> Prop) (w : World) : D -> Value -> Prop
  | .any, _ => True
  | .one x, v => zCQ p C w x v
  | .agg xs, v => ∃ vs : List Value, v = .agg vs.toArray /\ zBA p C w xs.d0 vs
  | .tup xs, v => ∃ vs : List Value, v = .tuple vs.toArray /\ xs.length = vs.length /\ ∀ (i : Nat) x u, xs[i]? = some x -> vs[i]? = some u -> zMP p C w x u
  | .gd q d, v => (q -> zAy p C w d v) /\ (¬ q -> v = undef)
structure Kept (p : Rho) (C : Nat -> Nat -> Value -> Prop) (w : World) (p' : Rho) (C' : Nat -> Nat -> Value -> Prop) (w' : World) : Prop where
  hC : ∀ b o u, C b o u -> C' b o u
  hm : ∀ id blk, p.mem id = some blk -> ∃ blk', p'.mem id = some blk' /\ blk.ver <= blk'.ver /\ (blk.ver = blk'.ver -> p'.μ id = p.μ id /\ blk'.body.shape = blk.body.shape /\ (0 < blk.body.shape.1 -> ∀ g n, p.μ id = some g -> Zb w g n -> Zb w' g n))
theorem Kept.of {p : Rho} {C : Nat -> Nat -> Value -> Prop} {w : World} {p' : Rho} {C' : Nat -> Nat -> Value -> Prop} {w' : World} (hC : ∀ b o u, C b o u -> C' b o u) (hZ : ∀ g n, Zb w g n -> Zb w' g n)
    (hm : ∀ id blk, p.mem id = some blk -> ∃ blk', p'.mem id = some blk' /\ blk.ver <= blk'.ver /\ (blk.ver = blk'.ver -> p'.μ id = p.μ id /\ blk'.body.shape = blk.body.shape)) : Kept p C w p' C' w' :=
  ⟨hC, fun id blk h => by
    obtain ⟨b, h1, h2, h3⟩ := hm id blk h
    exact ⟨b, h1, h2, fun e => ⟨(h3 e).1, (h3 e).2, fun _ g n _ => hZ g n⟩⟩⟩
section
variable {p p' : Rho} {C C' : Nat -> Nat -> Value -> Prop} {w w' : World}
theorem zKv.kept (h : Kept p C w p' C' w') {id ver : Nat} {K : Nat -> Prop} (hl : zKv p id ver K) : zKv p' id ver K := by
  obtain ⟨blk, h1, h2, h3⟩ := hl
  obtain ⟨blk', e1, e2, e3⟩ := h.hm _ _ h1
  refine ⟨blk', e1, by omega, fun e => ?_⟩
  have hv : blk.ver = blk'.ver := by omega
  obtain ⟨g, hg, hk⟩ := h3 (by omega)
  exact ⟨g, by rw [(e3 hv).1, hg], hk⟩
theorem zCQ.kept (h : Kept p C w p' C' w') {x : D0} {v : Value} (hr : zCQ p C w x v) : zCQ p' C' w' x v := by
  cases x with
  | e x => exact RepE.mono h.hC hr
  | nil => exact hr
  | ptr id ver off => exact ⟨hr.1, hr.2.kept h⟩
  | hnd id ver => exact ⟨hr.1, hr.2.kept h⟩
  | rptr id ver i j =>
    obtain ⟨h0, blk, h1, h2, h3⟩ := hr
    obtain ⟨blk', e1, e2, e3⟩ := h.hm _ _ h1
    refine ⟨h0, blk', e1, by omega, fun e => ?_⟩
    have hv : blk.ver = blk'.ver := by omega
    obtain ⟨g, g1, g2⟩ := h3 (by omega)
    exact ⟨g, by rw [(e3 hv).1, g1], by rw [(e3 hv).2.1, g2]⟩
  | eptr cs =>
    obtain ⟨b, o, rfl, hc⟩ := hr
    refine ⟨b, o, rfl, fun j e he => ?_⟩
    obtain ⟨u, h1, h2⟩ := hc j e he
    exact ⟨u, h.hC _ _ _ h1, h2.mono h.hC⟩
  | own id ver =>
    obtain ⟨h0, blk, h1, h2, h3⟩ := hr
    obtain ⟨blk', e1, e2, e3⟩ := h.hm _ _ h1
    refine ⟨h0, blk', e1, by omega, fun e => ?_⟩
    have hv : blk.ver = blk'.ver := by omega
    obtain ⟨z, n, z1, z2, z3⟩ := h3 (by omega)
    refine ⟨z, n, by rw [(e3 hv).2.1, z1], z2, ?_⟩
    rcases z3 with z3 | ⟨g, cap, g1, g2, g3, g4, g5⟩
    · exact .inl z3
    · exact .inr ⟨g, cap, by rw [(e3 hv).1, g1], g2, g3, g4, (e3 hv).2.2 (by rw [z1]; exact z2) _ _ g1 g5⟩
  | clo f caps =>
    obtain ⟨vs, rfl, hl, hc⟩ := hr
    exact ⟨vs, rfl, hl, fun i c u h1 h2 => (hc i c u h1 h2).kept h⟩
  | bsl id ver off z n =>
    obtain ⟨h0, blk, h1, h2, h3⟩ := hr
    obtain ⟨blk', e1, e2, e3⟩ := h.hm _ _ h1
    refine ⟨h0, blk', e1, by omega, fun e => ?_⟩
    have hv : blk.ver = blk'.ver := by omega
    obtain ⟨z1, z2, g, cap, g1, g2⟩ := h3 (by omega)
    exact ⟨z1, by rw [(e3 hv).2.1]; exact z2, g, cap, by rw [(e3 hv).1, g1], g2⟩
theorem zBA.kept (h : Kept p C w p' C' w') {xs : List D0} {vs : List Value} (hr : zBA p C w xs vs) : zBA p' C' w' xs vs :=
  ⟨hr.1, fun i x u h1 h2 => (hr.2 i x u h1 h2).kept h⟩
theorem zMP.kept (h : Kept p C w p' C' w') {x : Bool × Cs} {v : Value} (hr : zMP p C w x v) : zMP p' C' w' x v := by
  obtain ⟨b, xs⟩ := x
  cases b with
  | true => obtain ⟨vs, rfl, h1⟩ := hr; exact ⟨vs, rfl, h1.kept h⟩
  | false => exact zBA.kept h hr
theorem zAy.kept (h : Kept p C w p' C' w') {d : D} {v : Value} (hr : zAy p C w d v) : zAy p' C' w' d v := by
  induction d with
  | any => trivial
  | one x => exact zCQ.kept h hr
  | agg xs => obtain ⟨vs, rfl, h1⟩ := hr; exact ⟨vs, rfl, h1.kept h⟩
  | tup xs => obtain ⟨vs, rfl, hl, hx⟩ := hr; exact ⟨vs, rfl, hl, fun i x u h1 h2 => (hx i x u h1 h2).kept h⟩
  | gd q d ih => exact ⟨fun hq => ih (hr.1 hq), hr.2⟩
end
def zAP (X : Ctx) (p : Rho) (w : World) (id : Nat) (blk : Blk) : Prop :=
  match p.μ id with
  | none => blk.cells = [] /\ blk.pub = 0 /\ blk.body.okN
  | some g => blk.body.ok /\ X.own g /\ (∀ id' blk', p.mem id' = some blk' -> p.μ id' = some g -> id' = id) /\ blk.pub <= blk.cells.length ∧
      ∃ cur e lo hi, w.heap[g]? = some (blk.body.obj cur e lo hi) /\ (lo < hi -> cur.size <= lo) /\ blk.cells.length <= cur.size ∧
        ∀ (i : Nat) x, blk.cells[i]? = some x -> ∃ u, cur[i]? = some u /\ zCQ p (CW X p w) w x u
theorem zKX {blk : Blk} {j : Nat} {x : D0} (hx : blk.cells[j]? = some x) (c : Array Value) (e : TypeId) (l h : Nat) : blk.body.obj c e l h = .cells c e (l, h) := by
  obtain ⟨ver, bd, pub⟩ := blk
  cases bd with
  | raw o => cases hx
  | box c => rfl
  | row z xs => rfl
structure RM (X : Ctx) (p : Rho) (w : World) : Prop where
  bel : Bel X w
  blk : ∀ id blk, p.mem id = some blk -> zAP X p w id blk
def R (X : Ctx) (s : St) (a : Act) (w : World) : Prop :=
  ∃ μ, RM X ⟨s.mem, μ⟩ w /\ a.tmps.size = X.nt /\ a.defers = X.df /\ ∀ t, zAy ⟨s.mem, μ⟩ (CW X ⟨s.mem, μ⟩ w) w (s.tm t) (zAL X.xg a.tmps t)
theorem zCN {w : World} {b : Nat} {cur : Array Value} {e : TypeId} {fr : Nat × Nat} (h : w.heap[b]? = some (.cells cur e fr)) (o : Nat) : w.cell? ⟨b, o, none⟩ = cur[o]? := by
  simp [World.cell?, h]
theorem zPv {w : World} {b o : Nat} {u : Value} (h : w.cell? ⟨b, o, none⟩ = some u) : ∃ cur e fr, w.heap[b]? = some (.cells cur e fr) /\ cur[o]? = some u := by
  unfold World.cell? at h
  split at h
  · rename_i c e fr hh
    exact ⟨c, e, fr, hh, by simpa using h⟩
  · cases h
theorem zEQ {w : World} {b o : Nat} {u : Value} (h : w.cell? ⟨b, o, none⟩ = some u) : b < w.heap.size := by
  obtain ⟨cur, e, fr, h1, _⟩ := zPv h
  exact (Array.getElem?_eq_some_iff.1 h1).1
section
variable {X : Ctx} {p : Rho} {w : World}
theorem RM.same {w' : World} (h : RM X p w) (hh : w'.heap = w.heap) (h1 : w'.os = w.os) (h2 : w'.tape = w.tape) (h3 : w'.output = w.output) :
    RM X p w' /\ Kept p (CW X p w) w p (CW X p w') w' := by
  have hc : ∀ a, w'.cell? a = w.cell? a := fun a => by unfold World.cell?; rw [hh]
  have hK : Kept p (CW X p w) w p (CW X p w') w' :=
    Kept.of (fun b o u ⟨k1, k2, k3⟩ => ⟨by rw [hc]; exact k1, k2, k3⟩) (fun g n hz => by unfold Zb at *; rw [hh]; exact hz) (fun id blk hb => ⟨blk, hb, Nat.le_refl _, fun _ => ⟨rfl, rfl⟩⟩)
  refine ⟨⟨⟨h1.trans h.bel.os, h2.trans h.bel.tape, h3.trans h.bel.output, by rw [hh]; exact h.bel.size, fun k hk hx => by rw [hh]; exact h.bel.block k hk hx⟩, fun id blk hb => ?_⟩, hK⟩
  have := h.blk id blk hb
  unfold zAP at *
  split
  · rename_i hg; simpa [hg] using this
  · rename_i g hg
    simp only [hg] at this
    obtain ⟨g0, g1, g2, g3, cur, e, lo, hi, g4, g5, g6, g7⟩ := this
    refine ⟨g0, g1, g2, g3, cur, e, lo, hi, by rw [hh]; exact g4, g5, g6, fun i x hx => ?_⟩
    obtain ⟨u, u1, u2⟩ := g7 i x hx
    exact ⟨u, u1, u2.kept hK⟩
theorem RM.call {w' : World} (h : RM X p w) (hb : Below w.heap.size w w') : RM X p w' /\ Kept p (CW X p w) w p (CW X p w') w' := by
  have hK : Kept p (CW X p w) w p (CW X p w') w' :=
    Kept.of (fun b o u ⟨k1, k2, k3⟩ => ⟨by rw [hb.cell (p := ⟨b, o, none⟩) (zEQ k1)]; exact k1, k2, k3⟩)
     (fun g n ⟨cur, e, fr, z1, z2⟩ => ⟨cur, e, fr, by rw [hb.block _ (Array.getElem?_eq_some_iff.1 z1).1]; exact z1, z2⟩)
     (fun id blk hb => ⟨blk, hb, Nat.le_refl _, fun _ => ⟨rfl, rfl⟩⟩)
  refine ⟨⟨h.bel.below hb, fun id blk hbk => ?_⟩, hK⟩
  have := h.blk id blk hbk
  unfold zAP at *
  split
  · rename_i hg; simpa [hg] using this
  · rename_i g hg
    simp only [hg] at this
    obtain ⟨g0, g1, g2, g3, cur, e, lo, hi, g4, g5, g6, g7⟩ := this
    refine ⟨g0, g1, g2, g3, cur, e, lo, hi, by rw [hb.block _ (Array.getElem?_eq_some_iff.1 g4).1]; exact g4, g5, g6, fun i x hx => ?_⟩
    obtain ⟨u, u1, u2⟩ := g7 i x hx
    exact ⟨u, u1, u2.kept hK⟩
def upd {α : Type} (f : Nat -> α) (i : Nat) (x : α) : Nat -> α := fun j => bif Nat.beq j i then x else f j
theorem zAn {α : Type} (f : Nat -> α) (i : Nat) (x : α) : upd f i x i = x := by
  simp [upd]
theorem zAB {α : Type} (f : Nat -> α) {i j : Nat} (x : α) (h : j ≠ i) : upd f i x j = f j := by
  have : Nat.beq j i = false := by
    cases hb : Nat.beq j i with
    | false => rfl
    | true => exact absurd (Nat.eq_of_beq_eq_true hb) h
  simp [upd, this]
theorem RM.alloc {ob : Array Value} {t : TypeId} {lo hi : Nat} {id : Nat} {blk : Blk} (h : RM X p w) (w' : World) (hw : w'.heap = w.heap.push (.cells ob t (lo, hi))) (h1 : w'.os = w.os) (h2 : w'.tape = w.tape) (h3 : w'.output = w.output)
    (hok : blk.body.ok) (hfz : lo < hi -> ob.size <= lo) (hlen : blk.cells.length <= ob.size) (hpub : blk.pub <= blk.cells.length)
    (hver : ∀ b, p.mem id = some b -> b.ver < blk.ver)
    (hcells : ∀ (i : Nat) x, blk.cells[i]? = some x -> ∃ u, ob[i]? = some u /\ zCQ p (CW X p w) w x u) (hob : ∀ c e l h, blk.body.obj c e l h = .cells c e (l, h) := by intros; rfl) :
    RM X ⟨upd p.mem id (some blk), upd p.μ id (some w.heap.size)⟩ w' ∧
      Kept p (CW X p w) w ⟨upd p.mem id (some blk), upd p.μ id (some w.heap.size)⟩ (CW X ⟨upd p.mem id (some blk), upd p.μ id (some w.heap.size)⟩ w') w' := by
  have hold : ∀ k, k < w.heap.size -> w'.heap[k]? = w.heap[k]? := fun k hk => by rw [hw, Array.getElem?_push, if_neg (by omega)]
  have hcell : ∀ b o, b < w.heap.size -> w'.cell? ⟨b, o, none⟩ = w.cell? ⟨b, o, none⟩ := fun b o hb => by unfold World.cell?; simp only [hold b hb]
  have hK : Kept p (CW X p w) w ⟨upd p.mem id (some blk), upd p.μ id (some w.heap.size)⟩ (CW X ⟨upd p.mem id (some blk), upd p.μ id (some w.heap.size)⟩ w') w' := by
    refine Kept.of (fun b o u ⟨k1, k2, k3⟩ => ⟨by rw [hcell _ _ (zEQ k1)]; exact k1, k2, fun hb id' blk' m1 m2 => ?_⟩) (fun g n ⟨cur, e, fr, z1, z2⟩ => ⟨cur, e, fr, by rw [hold _ (Array.getElem?_eq_some_iff.1 z1).1]; exact z1, z2⟩) (fun id' b hb => ?_)
    · by_cases hi : id' = id
      · subst hi
        simp only [zAn, Option.some.injEq] at m2
        have := zEQ k1
        omega
      · simp only [zAB _ _ hi] at m1 m2
        exact k3 hb id' blk' m1 m2
    · by_cases hi : id' = id
      · subst hi
        exact ⟨blk, zAn _ _ _, Nat.le_of_lt (hver _ hb), fun e => absurd e (Nat.ne_of_lt (hver _ hb))⟩
      · exact ⟨b, by simp only [zAB _ _ hi]; exact hb, Nat.le_refl _, fun _ => ⟨by simp only [zAB _ _ hi], rfl⟩⟩
  refine ⟨⟨⟨h1.trans h.bel.os, h2.trans h.bel.tape, h3.trans h.bel.output, by rw [hw]; simp; have := h.bel.size; omega, fun k hk hx => ?_⟩, fun id' b hb => ?_⟩, hK⟩
  · rw [hold k (Nat.lt_of_lt_of_le hk h.bel.size)]; exact h.bel.block k hk hx
  · by_cases hi : id' = id
    · subst hi
      simp only [zAn, Option.some.injEq] at hb
      subst hb
      simp only [zAP, zAn]
      refine ⟨hok, .inl h.bel.size, fun id'' b'' q1 q2 => ?_, hpub, ob, t, lo, hi, by rw [hw, hob]; simp, hfz, hlen, fun i x hx => ?_⟩
      · by_cases hj : id'' = id'
        · exact hj
        · simp only [zAB _ _ hj] at q1 q2
          have := h.blk id'' b'' q1
          simp only [zAP, q2] at this
          obtain ⟨_, _, _, _, cur, e, lo, hi, g4, _⟩ := this
          have := (Array.getElem?_eq_some_iff.1 g4).1
          omega
      · obtain ⟨u, u1, u2⟩ := hcells i x hx
        exact ⟨u, u1, u2.kept hK⟩
    · simp only [zAB _ _ hi] at hb
      have := h.blk id' b hb
      unfold zAP at *
      simp only [zAB _ _ hi]
      split
      · rename_i hg; simpa [hg] using this
      · rename_i g hg
        simp only [hg] at this
        obtain ⟨g0, g1, g2, g3, cur, e, lo, hi', g4, g5, g6, g7⟩ := this
        have hgl := (Array.getElem?_eq_some_iff.1 g4).1
        refine ⟨g0, g1, fun id'' b'' q1 q2 => ?_, g3, cur, e, lo, hi', by rw [hold _ hgl]; exact g4, g5, g6, fun i x hx => ?_⟩
        · by_cases hj : id'' = id
          · subst hj
            simp only [zAn, Option.some.injEq] at q2
            omega
          · simp only [zAB _ _ hj] at q1 q2
            exact g2 id'' b'' q1 q2
        · obtain ⟨u, u1, u2⟩ := g7 i x hx
          exact ⟨u, u1, u2.kept hK⟩
theorem RM.write {g : Nat} {cur cur' : Array Value} {t : TypeId} {lo hi : Nat} {id : Nat} {blk blk' : Blk} (h : RM X p w) (w' : World) (hb : p.mem id = some blk) (hμ : p.μ id = some g)
    (hg : w.heap[g]? = some (.cells cur t (lo, hi))) (hg' : w'.heap[g]? = some (.cells cur' t (lo, hi))) (hoth : ∀ k, k ≠ g -> w'.heap[k]? = w.heap[k]?) (hsz : w'.heap.size = w.heap.size)
    (h1 : w'.os = w.os) (h2 : w'.tape = w.tape) (h3 : w'.output = w.output) (hcs : cur'.size = cur.size)
    (hpre : ∀ o, o < blk.pub -> cur'[o]? = cur[o]?) (hp1 : blk.pub <= blk'.pub) (hp2 : blk'.pub <= blk'.cells.length) (hlen : blk'.cells.length <= cur.size)
    (hok : blk'.body.ok) (hver : blk.ver <= blk'.ver) (hvl : blk.ver = blk'.ver -> blk'.body.shape = blk.body.shape)
    (hcells : ∀ (i : Nat) x, blk'.cells[i]? = some x -> ∃ u, cur'[i]? = some u /\ zCQ p (CW X p w) w x u) (hob : ∀ c e l h, blk.body.obj c e l h = .cells c e (l, h) := by intros; rfl) (hob' : ∀ c e l h, blk'.body.obj c e l h = .cells c e (l, h) := by intros; rfl) :
    RM X ⟨upd p.mem id (some blk'), p.μ⟩ w' /\ Kept p (CW X p w) w ⟨upd p.mem id (some blk'), p.μ⟩ (CW X ⟨upd p.mem id (some blk'), p.μ⟩ w') w' := by
  have hb0 := h.blk id blk hb
  simp only [zAP, hμ] at hb0
  obtain ⟨b0, b1, b2, b3, cur0, e0, lo0, hi0, b4, b5, b6, b7⟩ := hb0
  rw [hg, hob] at b4
  simp only [Option.some.injEq, Obj.cells.injEq, Prod.mk.injEq] at b4
  obtain ⟨rfl, rfl, rfl, rfl⟩ := b4
  have hK : Kept p (CW X p w) w ⟨upd p.mem id (some blk'), p.μ⟩ (CW X ⟨upd p.mem id (some blk'), p.μ⟩ w') w' := by
    refine Kept.of (fun b o u ⟨k1, k2, k3⟩ => ⟨?_, k2, fun hbs id' blk'' m1 m2 => ?_⟩) (fun g' n ⟨c, e, fr, z1, z2⟩ => ?_) (fun id' b hb' => ?_)
    · by_cases hbg : b = g
      · subst hbg
        rw [zCN hg', hpre o (k3 b1 id blk hb hμ), <-zCN hg]
        exact k1
      · unfold World.cell? at *
        simp only [hoth b hbg]
        exact k1
    · by_cases hi : id' = id
      · subst hi
        simp only [zAn, Option.some.injEq] at m1
        subst m1
        exact Nat.lt_of_lt_of_le (k3 hbs id' blk hb m2) hp1
      · simp only [zAB _ _ hi] at m1
        exact k3 hbs id' blk'' m1 m2
    · by_cases hgg : g' = g
      · subst hgg
        rw [hg] at z1
        cases z1
        exact ⟨cur', _, _, hg', by omega⟩
      · exact ⟨c, e, fr, by rw [hoth _ hgg]; exact z1, z2⟩
    · by_cases hi : id' = id
      · subst hi
        rw [hb] at hb'
        cases hb'
        exact ⟨blk', zAn _ _ _, hver, fun e => ⟨rfl, hvl e⟩⟩
      · exact ⟨b, by simp only [zAB _ _ hi]; exact hb', Nat.le_refl _, fun _ => ⟨rfl, rfl⟩⟩
  refine ⟨⟨⟨h1.trans h.bel.os, h2.trans h.bel.tape, h3.trans h.bel.output, by rw [hsz]; exact h.bel.size, fun k hk hx => ?_⟩, fun id' b hb' => ?_⟩, hK⟩
  · rw [hoth k (fun e => b1.elim (fun q => absurd (Nat.lt_of_lt_of_le hk (e ▸ q)) (Nat.lt_irrefl _)) (fun q => hx (e ▸ q)))]; exact h.bel.block k hk hx
  · have hinj : ∀ g2 id2, (∀ id' blk', p.mem id' = some blk' -> p.μ id' = some g2 -> id' = id2) -> ∀ id3 b3, upd p.mem id (some blk') id3 = some b3 -> p.μ id3 = some g2 -> id3 = id2 := by
      intro g2 id2 hh id3 b3 q1 q2
      by_cases hj : id3 = id
      · subst hj
        exact hh id3 blk hb q2
      · simp only [zAB _ _ hj] at q1
        exact hh id3 b3 q1 q2
    by_cases hi : id' = id
    · subst hi
      simp only [zAn, Option.some.injEq] at hb'
      subst hb'
      simp only [zAP, hμ]
      refine ⟨hok, b1, hinj g id' b2, hp2, cur', t, lo, _, (hg'.trans (congrArg some (hob' ..).symm)), by rw [hcs]; exact b5, by rw [hcs]; exact hlen, fun i x hx => ?_⟩
      obtain ⟨u, u1, u2⟩ := hcells i x hx
      exact ⟨u, u1, u2.kept hK⟩
    · simp only [zAB _ _ hi] at hb'
      have := h.blk id' b hb'
      unfold zAP at *
      simp only
      split
      · rename_i hg2; simpa [hg2] using this
      · rename_i g2 hg2
        simp only [hg2] at this
        obtain ⟨g0, g1, g2', g3, cur2, e, lo', hi', g4, g5, g6, g7⟩ := this
        have hne : g2 ≠ g := fun e => hi (b2 id' b hb' (e ▸ hg2))
        refine ⟨g0, g1, hinj g2 id' g2', g3, cur2, e, lo', hi', by rw [hoth _ hne]; exact g4, g5, g6, fun i x hx => ?_⟩
        obtain ⟨u, u1, u2⟩ := g7 i x hx
        exact ⟨u, u1, u2.kept hK⟩
theorem RM.ghost {id ver z : Nat} (h : RM X p w) (hz : 0 < z) (hver : ∀ b, p.mem id = some b -> b.ver < ver) :
    RM X ⟨upd p.mem id (some ⟨ver, .row z [], 0⟩), upd p.μ id none⟩ w ∧
      Kept p (CW X p w) w ⟨upd p.mem id (some ⟨ver, .row z [], 0⟩), upd p.μ id none⟩ (CW X ⟨upd p.mem id (some ⟨ver, .row z [], 0⟩), upd p.μ id none⟩ w) w := by
  have hK : Kept p (CW X p w) w ⟨upd p.mem id (some ⟨ver, .row z [], 0⟩), upd p.μ id none⟩ (CW X ⟨upd p.mem id (some ⟨ver, .row z [], 0⟩), upd p.μ id none⟩ w) w := by
    refine Kept.of (fun b o u ⟨k1, k2, k3⟩ => ⟨k1, k2, fun hb id' blk' m1 m2 => ?_⟩) (fun g n hz => hz) (fun id' b hb => ?_)
    · by_cases hi : id' = id
      · subst hi
        simp only [zAn] at m2
        cases m2
      · simp only [zAB _ _ hi] at m1 m2
        exact k3 hb id' blk' m1 m2
    · by_cases hi : id' = id
      · subst hi
        exact ⟨_, zAn _ _ _, Nat.le_of_lt (hver _ hb), fun e => absurd e (Nat.ne_of_lt (hver _ hb))⟩
      · exact ⟨b, by simp only [zAB _ _ hi]; exact hb, Nat.le_refl _, fun _ => ⟨by simp only [zAB _ _ hi], rfl⟩⟩
  refine ⟨⟨h.bel, fun id' b hb => ?_⟩, hK⟩
  by_cases hi : id' = id
  · subst hi
    simp only [zAn, Option.some.injEq] at hb
    subst hb
    simp only [zAP, zAn]
    exact ⟨rfl, by simp, hz, by simp⟩
  · simp only [zAB _ _ hi] at hb
    have := h.blk id' b hb
    unfold zAP at *
    simp only [zAB _ _ hi]
    split
    · rename_i hg; simpa [hg] using this
    · rename_i g hg
      simp only [hg] at this
      obtain ⟨g0, g1, g2, g3, cur, e, lo, hi', g4, g5, g6, g7⟩ := this
      refine ⟨g0, g1, fun id'' b'' q1 q2 => ?_, g3, cur, e, lo, hi', g4, g5, g6, fun i x hx => ?_⟩
      · by_cases hj : id'' = id
        · subst hj
          simp only [zAn] at q2
          cases q2
        · simp only [zAB _ _ hj] at q1 q2
          exact g2 id'' b'' q1 q2
      · obtain ⟨u, u1, u2⟩ := g7 i x hx
        exact ⟨u, u1, u2.kept hK⟩
theorem RM.allocRaw {ob : Raw} {id ver : Nat} (h : RM X p w) (w' : World) (hw : w'.heap = w.heap.push ob.obj) (h1 : w'.os = w.os) (h2 : w'.tape = w.tape) (h3 : w'.output = w.output)
    (hok : ob.ok) (hver : ∀ b, p.mem id = some b -> b.ver < ver) :
    RM X ⟨upd p.mem id (some ⟨ver, .raw ob, 0⟩), upd p.μ id (some w.heap.size)⟩ w' ∧
      Kept p (CW X p w) w ⟨upd p.mem id (some ⟨ver, .raw ob, 0⟩), upd p.μ id (some w.heap.size)⟩ (CW X ⟨upd p.mem id (some ⟨ver, .raw ob, 0⟩), upd p.μ id (some w.heap.size)⟩ w') w' := by
  have hold : ∀ k, k < w.heap.size -> w'.heap[k]? = w.heap[k]? := fun k hk => by rw [hw, Array.getElem?_push, if_neg (by omega)]
  have hcell : ∀ b o, b < w.heap.size -> w'.cell? ⟨b, o, none⟩ = w.cell? ⟨b, o, none⟩ := fun b o hb => by unfold World.cell?; simp only [hold b hb]
  have hK : Kept p (CW X p w) w ⟨upd p.mem id (some ⟨ver, .raw ob, 0⟩), upd p.μ id (some w.heap.size)⟩ (CW X ⟨upd p.mem id (some ⟨ver, .raw ob, 0⟩), upd p.μ id (some w.heap.size)⟩ w') w' := by
    refine Kept.of (fun b o u ⟨k1, k2, k3⟩ => ⟨by rw [hcell _ _ (zEQ k1)]; exact k1, k2, fun hb id' blk' m1 m2 => ?_⟩) (fun g n ⟨cur, e, fr, z1, z2⟩ => ⟨cur, e, fr, by rw [hold _ (Array.getElem?_eq_some_iff.1 z1).1]; exact z1, z2⟩) (fun id' b hb => ?_)
    · by_cases hi : id' = id
      · subst hi
        simp only [zAn, Option.some.injEq] at m2
        have := zEQ k1
        omega
      · simp only [zAB _ _ hi] at m1 m2
        exact k3 hb id' blk' m1 m2
    · by_cases hi : id' = id
      · subst hi
        exact ⟨_, zAn _ _ _, Nat.le_of_lt (hver _ hb), fun e => absurd e (Nat.ne_of_lt (hver _ hb))⟩
      · exact ⟨b, by simp only [zAB _ _ hi]; exact hb, Nat.le_refl _, fun _ => ⟨by simp only [zAB _ _ hi], rfl⟩⟩
  refine ⟨⟨⟨h1.trans h.bel.os, h2.trans h.bel.tape, h3.trans h.bel.output, by rw [hw]; simp; have := h.bel.size; omega, fun k hk hx => ?_⟩, fun id' b hb => ?_⟩, hK⟩
  · rw [hold k (Nat.lt_of_lt_of_le hk h.bel.size)]; exact h.bel.block k hk hx
  · by_cases hi : id' = id
    · subst hi
      simp only [zAn, Option.some.injEq] at hb
      subst hb
      simp only [zAP, zAn]
      refine ⟨hok, .inl h.bel.size, fun id'' b'' q1 q2 => ?_, Nat.zero_le _, #[], 0, 0, 0, by rw [hw]; simp [Body.obj], fun h => absurd h (Nat.lt_irrefl _), Nat.zero_le _, fun i x hx => nomatch hx⟩
      by_cases hj : id'' = id'
      · exact hj
      · simp only [zAB _ _ hj] at q1 q2
        have := h.blk id'' b'' q1
        simp only [zAP, q2] at this
        obtain ⟨_, _, _, _, cur, e, lo, hi, g4, _⟩ := this
        have := (Array.getElem?_eq_some_iff.1 g4).1
        omega
    · simp only [zAB _ _ hi] at hb
      have := h.blk id' b hb
      unfold zAP at *
      simp only [zAB _ _ hi]
      split
      · rename_i hg; simpa [hg] using this
      · rename_i g hg
        simp only [hg] at this
        obtain ⟨g0, g1, g2, g3, cur, e, lo, hi', g4, g5, g6, g7⟩ := this
        have hgl := (Array.getElem?_eq_some_iff.1 g4).1
        refine ⟨g0, g1, fun id'' b'' q1 q2 => ?_, g3, cur, e, lo, hi', by rw [hold _ hgl]; exact g4, g5, g6, fun i x hx => ?_⟩
        · by_cases hj : id'' = id
          · subst hj
            simp only [zAn, Option.some.injEq] at q2
            omega
          · simp only [zAB _ _ hj] at q1 q2
            exact g2 id'' b'' q1 q2
        · obtain ⟨u, u1, u2⟩ := g7 i x hx
          exact ⟨u, u1, u2.kept hK⟩
theorem RM.writeRaw {g : Nat} {ob ob' : Raw} {id ver : Nat} (h : RM X p w) (w' : World) (hb : p.mem id = some ⟨ver, .raw ob, 0⟩) (hμ : p.μ id = some g)
    (hg' : w'.heap[g]? = some ob'.obj) (hoth : ∀ k, k ≠ g -> w'.heap[k]? = w.heap[k]?) (hsz : w'.heap.size = w.heap.size)
    (h1 : w'.os = w.os) (h2 : w'.tape = w.tape) (h3 : w'.output = w.output) (hok : ob'.ok) :
    RM X ⟨upd p.mem id (some ⟨ver, .raw ob', 0⟩), p.μ⟩ w' /\ Kept p (CW X p w) w ⟨upd p.mem id (some ⟨ver, .raw ob', 0⟩), p.μ⟩ (CW X ⟨upd p.mem id (some ⟨ver, .raw ob', 0⟩), p.μ⟩ w') w' := by
  have hb0 := h.blk id _ hb
  simp only [zAP, hμ] at hb0
  obtain ⟨b0, b1, b2, b3, cur0, e0, lo0, hi0, b4, b5, b6, b7⟩ := hb0
  have b4 : w.heap[g]? = some ob.obj := b4
  have hno : ∀ {c e f}, w.heap[g]? = some (.cells c e f) -> False := fun hh => by rw [b4] at hh; exact ob.obj_ne _ _ _ (Option.some.inj hh)
  have hK : Kept p (CW X p w) w ⟨upd p.mem id (some ⟨ver, .raw ob', 0⟩), p.μ⟩ (CW X ⟨upd p.mem id (some ⟨ver, .raw ob', 0⟩), p.μ⟩ w') w' := by
    refine Kept.of (fun b o u ⟨k1, k2, k3⟩ => ⟨?_, k2, fun hbs id' blk'' m1 m2 => ?_⟩) (fun g' n ⟨c, e, fr, z1, z2⟩ => ?_) (fun id' b hb' => ?_)
    · by_cases hbg : b = g
      · subst hbg
        exact absurd (k3 b1 id _ hb hμ) (Nat.not_lt_zero _)
      · unfold World.cell? at *
        simp only [hoth b hbg]
        exact k1
    · by_cases hi : id' = id
      · subst hi
        simp only [zAn, Option.some.injEq] at m1
        subst m1
        have hk := k3 hbs id' ⟨ver, .raw ob, 0⟩ hb m2
        exact hk
      · simp only [zAB _ _ hi] at m1
        exact k3 hbs id' blk'' m1 m2
    · by_cases hg : g' = g
      · subst hg
        exact (hno z1).elim
      · exact ⟨c, e, fr, by rw [hoth g' hg]; exact z1, z2⟩
    · by_cases hi : id' = id
      · subst hi
        rw [hb] at hb'
        cases hb'
        exact ⟨_, zAn _ _ _, Nat.le_refl _, fun _ => ⟨rfl, rfl⟩⟩
      · exact ⟨b, by simp only [zAB _ _ hi]; exact hb', Nat.le_refl _, fun _ => ⟨rfl, rfl⟩⟩
  refine ⟨⟨⟨h1.trans h.bel.os, h2.trans h.bel.tape, h3.trans h.bel.output, by rw [hsz]; exact h.bel.size, fun k hk hx => ?_⟩, fun id' b hb' => ?_⟩, hK⟩
  · rw [hoth k ?_]
    · exact h.bel.block k hk hx
    · rintro rfl
      rcases b1 with b1 | b1
      · omega
      · exact hx b1
  · have hinj : ∀ g1 id1, (∀ id' blk', p.mem id' = some blk' -> p.μ id' = some g1 -> id' = id1) -> ∀ id' blk', upd p.mem id (some ⟨ver, .raw ob', 0⟩) id' = some blk' -> p.μ id' = some g1 -> id' = id1 := fun g1 id1 hh id' blk' m1 m2 => by
      by_cases hi : id' = id
      · subst hi
        exact hh id' _ hb m2
      · rw [zAB _ _ hi] at m1
        exact hh id' blk' m1 m2
    by_cases hi : id' = id
    · subst hi
      simp only [zAn, Option.some.injEq] at hb'
      subst hb'
      simp only [zAP, hμ]
      exact ⟨hok, b1, hinj g id' b2, Nat.zero_le _, #[], 0, 0, 0, hg', fun h => absurd h (Nat.lt_irrefl _), Nat.zero_le _, fun i x hx => nomatch hx⟩
    · simp only [zAB _ _ hi] at hb'
      have := h.blk id' b hb'
      unfold zAP at *
      show match p.μ id' with | none => _ | some g => _
      split
      · rename_i hg; simpa [hg] using this
      · rename_i g2 hg
        simp only [hg] at this
        obtain ⟨g0, g1, g2', g3, cur, e, lo, hi', g4, g5, g6, g7⟩ := this
        have hne : g2 ≠ g := fun e => hi (b2 id' b hb' (by rw [hg, e]))
        refine ⟨g0, g1, hinj g2 id' g2', g3, cur, e, lo, hi', by rw [hoth g2 hne]; exact g4, g5, g6, fun i x hx => ?_⟩
        obtain ⟨u, u1, u2⟩ := g7 i x hx
        exact ⟨u, u1, u2.kept hK⟩
theorem RM.pub {id n : Nat} {blk : Blk} (h : RM X p w) (hb : p.mem id = some blk) (h1 : blk.pub <= n) (h2 : n <= blk.cells.length) :
    RM X ⟨upd p.mem id (some ⟨blk.ver, blk.body, n⟩), p.μ⟩ w /\ Kept p (CW X p w) w ⟨upd p.mem id (some ⟨blk.ver, blk.body, n⟩), p.μ⟩ (CW X ⟨upd p.mem id (some ⟨blk.ver, blk.body, n⟩), p.μ⟩ w) w := by
  have hb0 := h.blk id blk hb
  cases hμ : p.μ id with
  | some g =>
    simp only [zAP, hμ] at hb0
    obtain ⟨b0, b1, b2, b3, cur, e, lo, hi, b4, b5, b6, b7⟩ := hb0
    obtain ⟨ver, bd, pub⟩ := blk
    cases bd with
    | box c => exact h.write (blk' := ⟨ver, .box c, n⟩) w hb hμ b4 b4 (fun _ _ => rfl) rfl rfl rfl rfl rfl (fun _ _ => rfl) h1 h2 b6 b0 (Nat.le_refl _) (fun _ => rfl) b7
    | row z xs => exact h.write (blk' := ⟨ver, .row z xs, n⟩) w hb hμ b4 b4 (fun _ _ => rfl) rfl rfl rfl rfl rfl (fun _ _ => rfl) h1 h2 b6 b0 (Nat.le_refl _) (fun _ => rfl) b7
    | raw o =>
      have h1 : pub <= n := h1
      have h2 : n <= 0 := h2
      have he : upd p.mem id (some ⟨ver, .raw o, n⟩) = p.mem := by
        funext j
        by_cases hj : j = id
        · subst hj
          rw [zAn, hb, show n = pub by omega]
        · rw [zAB _ _ hj]
      show RM X ⟨upd p.mem id (some ⟨ver, .raw o, n⟩), p.μ⟩ w /\ Kept p (CW X p w) w ⟨upd p.mem id (some ⟨ver, .raw o, n⟩), p.μ⟩ (CW X ⟨upd p.mem id (some ⟨ver, .raw o, n⟩), p.μ⟩ w) w
      rw [he]
      exact ⟨h, ⟨fun _ _ _ h => h, fun id blk hb => ⟨blk, hb, Nat.le_refl _, fun _ => ⟨rfl, rfl, fun _ _ _ _ h => h⟩⟩⟩⟩
  | none =>
    simp only [zAP, hμ] at hb0
    have hn : n = 0 := by rw [hb0.1] at h2; simpa using h2
    have he : upd p.mem id (some ⟨blk.ver, blk.body, n⟩) = p.mem := by
      funext j
      by_cases hj : j = id
      · subst hj
        rw [zAn, hb, hn, <-hb0.2.1]
      · rw [zAB _ _ hj]
    rw [he]
    exact ⟨h, ⟨fun _ _ _ h => h, fun id blk hb => ⟨blk, hb, Nat.le_refl _, fun _ => ⟨rfl, rfl, fun _ _ _ _ h => h⟩⟩⟩⟩
end
theorem Kept.rfl' {p : Rho} {C : Nat -> Nat -> Value -> Prop} {w : World} : Kept p C w p C w :=
  ⟨fun _ _ _ h => h, fun _ blk hb => ⟨blk, hb, Nat.le_refl _, fun _ => ⟨rfl, rfl, fun _ _ _ _ h => h⟩⟩⟩
theorem Kept.trans {p p' p'' : Rho} {C C' C'' : Nat -> Nat -> Value -> Prop} {w w' w'' : World} (h : Kept p C w p' C' w') (k : Kept p' C' w' p'' C'' w'') : Kept p C w p'' C'' w'' :=
  ⟨fun _ _ _ x => k.hC _ _ _ (h.hC _ _ _ x), fun id blk hb => by
    obtain ⟨b1, e1, e2, e3⟩ := h.hm _ _ hb
    obtain ⟨b2, f1, f2, f3⟩ := k.hm _ _ e1
    refine ⟨b2, f1, by omega, fun e => ?_⟩
    have a1 := e3 (by omega)
    have a2 := f3 (by omega)
    exact ⟨a2.1.trans a1.1, a2.2.1.trans a1.2.1, fun h0 g n hg hz => a2.2.2 (by rw [a1.2.1]; exact h0) g n (a1.1.trans hg) (a1.2.2 h0 g n hg hz)⟩⟩
inductive K where
 | slice (e : Nat)
 | arr (n e : Nat)
 | struct (fs : List (Nat × Nat))
 | str
 | int (k : IntKind)
 | bool
 | ptr (e : Nat)
 | map (k e : Nat)
 | other
structure TI where
 size : Nat
 bytes : Nat
 k : K
 zero : List Value
def K.agg : K -> Bool
 | .arr .. | .struct _ => true
 | _ => false
def KOk : K -> TypeDesc -> Prop
 | .slice e, d => d = .slice e
 | .arr n e, d => d = .array n e
 | .struct fs, d => ∃ F : Array Field, d = .struct F /\ F.toList.map (fun f => (f.offset, f.type)) = fs
 | .str, d => d = .string
 | .int k, d => d = .int k
 | .bool, d => d = .bool
 | .ptr e, d => d = .pointer e
 | .map k e, d => d = .map k e
 | .other, d => (∀ F, d ≠ .struct F) /\ (∀ n e, d ≠ .array n e) /\ (∀ e, d ≠ .slice e) /\ d ≠ .string
def zWZ (P : Program) (t : Nat) (d : TypeDesc) : Prop :=
 P.stoodInHeld t = false /\ P.eqGuardType P.depth t = false /\ ∀ F, d = .struct F -> ∀ f ∈ F.toList, f.name ≠ "_"
def zDX : Value -> Bool
 | .nilIface => false
 | _ => true
structure TIOk (P : Program) (t : Nat) (ti : TI) : Prop where
 out : ∃ i d z, P.info? t = some i /\ P.underlying t = some d /\ i.size = ti.size /\ i.bytes = ti.bytes /\ KOk ti.k d /\ i.zero = some z /\ z.cells.toList = ti.zero /\ ∀ u ∈ ti.zero, u.oneCell' = true
 len : ti.zero.length = ti.size
 wide : ti.k.agg = true -> ti.zero.all zDX = true -> ∀ d, P.underlying t = some d -> zWZ P t d
 nz : ∀ i z k, P.info? t = some i -> i.zero = some z -> ti.k = .int k -> ∀ cs, z ≠ .agg cs
 az : ∀ i z, P.info? t = some i -> i.zero = some z -> ti.k.agg = true -> ∃ cs, z = .agg cs
def TOk (P : Program) (T : Nat -> Option TI) : Prop := ∀ t ti, T t = some ti -> TIOk P t ti
section
variable {P : Program} {t : Nat} {ti : TI} (w : World)
theorem TIOk.size (h : TIOk P t ti) : (sizeOf t).run P w = .ok ti.size w := by
 obtain ⟨i, d, z, h1, _, h3, _⟩ := h.out
 simp [sizeOf, typeInfo, h1, h3]
theorem TIOk.isAgg (h : TIOk P t ti) : (isAgg t).run P w = .ok ti.k.agg w := by
 obtain ⟨i, d, z, _, h2, _, _, h5, _⟩ := h.out
 have hu := run_underlying h2 (w := w)
 unfold Go.isAgg
 simp only [Sem.run_bind, hu, Result.andThen_ok]
 cases hk : ti.k with
 | struct fs => rw [hk] at h5; obtain ⟨F, rfl, _⟩ := h5; rfl
 | arr n e => rw [hk] at h5; rw [show d = .array n e from h5]; rfl
 | slice e => rw [hk] at h5; rw [show d = .slice e from h5]; rfl
 | str => rw [hk] at h5; rw [show d = .string from h5]; rfl
 | int k => rw [hk] at h5; rw [show d = .int k from h5]; rfl
 | bool => rw [hk] at h5; rw [show d = .bool from h5]; rfl
 | ptr e => rw [hk] at h5; rw [show d = .pointer e from h5]; rfl
 | map k e => rw [hk] at h5; rw [show d = .map k e from h5]; rfl
 | other =>
  rw [hk] at h5
  obtain ⟨h6, h7, _⟩ := h5
  cases d with
  | struct F => exact absurd rfl (h6 F)
  | array n e => exact absurd rfl (h7 n e)
  | _ => rfl
end
def zPu (w : World) (b o : Nat) (vs : List Value) : Prop := ∀ (j : Nat) u, vs[j]? = some u -> w.cell? ⟨b, o + j, none⟩ = some u
theorem zCz (b o j : Nat) : (⟨b, o, none⟩ : Addr).add j = ⟨b, o + j, none⟩ := by
 unfold Addr.add
 split <;> simp_all
section
variable {P : Program} {t : Nat} {ti : TI} {w : World}
theorem zJy (h : TIOk P t ti) (ha : ti.k.agg = true) {b o : Nat} {vs : List Value} (hl : vs.length = ti.size) (hc : zPu w b o vs) :
  (Instr.loadAt t (.pointer (some ⟨b, o, none⟩))).run P w = .ok (.agg vs.toArray) w := by
 have hcl := run_loadCells_list (P := P) w ⟨b, o, none⟩ vs (fun j v hv => by rw [zCz]; exact hc j v hv)
 rw [hl] at hcl
 simp [Instr.loadAt, Instr.sureAddr, loadVar, h.isAgg, h.size, ha, hcl]
theorem zJx (h : TIOk P t ti) (ha : ti.k.agg = false) {b o : Nat} {u : Value} (hc : w.cell? ⟨b, o, none⟩ = some u) :
  (Instr.loadAt t (.pointer (some ⟨b, o, none⟩))).run P w = .ok u w := by
 simp [Instr.loadAt, Instr.sureAddr, loadVar, h.isAgg, ha, hc]
end
def E.int : E -> Int
 | .v (.int _ n) => n
 | _ => 0
def E.str : E -> ByteArray
 | .v (.string s) => s
 | _ => .empty
def E.bool : E -> Bool
 | .v (.bool b) => b
 | _ => false
def E.xs : E -> List (List E)
 | .sl xs => xs
 | _ => []
def E.cs : E -> List E
 | .pt cs => cs
 | _ => []
def E.dflt : E := .sl []
def E.as (k : K) (x : E) : E :=
 match k with
 | .int k => .v (.int k x.int)
 | .str => .v (.string x.str)
 | .bool => .v (.bool x.bool)
 | .slice _ => .sl x.xs
 | .ptr _ => .pt x.cs
 | _ => x
def D0.as (k : K) : D0 -> D0
 | .e x => .e (x.as k)
 | x => x
def D0.isA (k : K) : D0 -> Prop
 | .e x => x.as k = x
 | _ => True
theorem D0.as_eq {k : K} {x : D0} (h : x.isA k) : x.as k = x := by
 cases x with
 | e x => exact congrArg D0.e h
 | _ => rfl
def Cs.len : Cs -> Nat
 | .es xs => xs.length
 | .ds xs => xs.length
theorem Cs.len_eq (c : Cs) : c.d0.length = c.len := by cases c <;> simp [Cs.d0, Cs.len]
def Cs.sub (c : Cs) (o n : Nat) : Cs :=
 match c with
 | .es xs => .es ((xs.drop o).take n)
 | .ds xs => .ds ((xs.drop o).take n)
theorem Cs.sub_d0 (c : Cs) (o n : Nat) : (c.sub o n).d0 = (c.d0.drop o).take n := by
 cases c with
 | es xs => simp only [Cs.sub, Cs.d0, List.map_drop, List.map_take]
 | ds xs => rfl
def Cs.at (c : Cs) (o : Nat) : D0 :=
 match c with
 | .es xs => .e (xs.getD o E.dflt)
 | .ds xs => xs.getD o .nil
theorem Cs.at_eq {c : Cs} {o : Nat} (h : o < c.len) : c.d0[o]? = some (c.at o) := by
 cases c with
 | es xs => simp only [Cs.len] at h; simp [Cs.d0, Cs.at, h]
 | ds xs => simp only [Cs.len] at h; simp [Cs.d0, Cs.at, h]
def Cs.load (c : Cs) (ti : TI) (o : Nat) : Prop × D :=
 bif ti.k.agg then (o + ti.size <= c.len, .agg (c.sub o ti.size))
 else (o < c.len /\ (c.at o).isA ti.k, .one ((c.at o).as ti.k))
section
variable {P : Program} {t : Nat} {ti : TI} {w : World} {p : Rho} {C : Nat -> Nat -> Value -> Prop}
def zFP (p : Rho) (C : Nat -> Nat -> Value -> Prop) (w : World) (b o : Nat) (xs : List D0) : Prop :=
 ∀ (j : Nat) x, xs[j]? = some x -> ∃ u, w.cell? ⟨b, o + j, none⟩ = some u /\ zCQ p C w x u
theorem zFP.list {b o : Nat} {xs : List D0} (h : zFP p C w b o xs) : ∃ vs, zBA p C w xs vs /\ zPu w b o vs := by
 induction xs generalizing o with
 | nil => exact ⟨[], ⟨rfl, fun i x u h => by cases h⟩, fun j u h => by cases h⟩
 | cons x xs ih =>
  obtain ⟨u, h1, h2⟩ := h 0 x rfl
  obtain ⟨vs, h3, h4⟩ := ih (o := o + 1) (fun j y hy => by
   obtain ⟨u, k1, k2⟩ := h (j + 1) y (by simpa using hy)
   exact ⟨u, by rw [show o + 1 + j = o + (j + 1) by omega]; exact k1, k2⟩)
  refine ⟨u :: vs, ⟨by simp [h3.1], fun i y v hy hv => ?_⟩, fun j v hv => ?_⟩
  ·cases i with
   | zero => simp at hy hv; subst hy; subst hv; exact h2
   | succ i => exact h3.2 i y v (by simpa using hy) (by simpa using hv)
  ·cases j with
   | zero => simp at hv; subst hv; exact h1
   | succ j => rw [show o + (j + 1) = o + 1 + j by omega]; exact h4 j v (by simpa using hv)
theorem zFP.sub {b o : Nat} {xs : List D0} (h : zFP p C w b o xs) (k n : Nat) : zFP p C w b (o + k) ((xs.drop k).take n) := fun j x hx => by
 rw [List.getElem?_take] at hx
 split at hx
 ·rw [List.getElem?_drop] at hx
  rw [show o + k + j = o + (k + j) by omega]
  exact h _ x hx
 ·cases hx
theorem zGP (hT : TIOk P t ti) {c : Cs} {b o k : Nat} (hm : zFP p C w b o c.d0) (hφ : (c.load ti k).1) :
  ∃ v, (Instr.loadAt t (.pointer (some ⟨b, o + k, none⟩))).run P w = .ok v w /\ zAy p C w (c.load ti k).2 v := by
 unfold Cs.load at *
 cases ha : ti.k.agg with
 | true =>
  simp only [ha, cond_true] at hφ ⊢
  have h1 := hm.sub k ti.size
  rw [<-Cs.sub_d0] at h1
  obtain ⟨vs, h2, h3⟩ := h1.list
  refine ⟨_, zJy hT ha ?_ h3, vs, rfl, h2⟩
  rw [<-h2.1, Cs.sub_d0, List.length_take, List.length_drop, Cs.len_eq]
  omega
 | false =>
  simp only [ha, cond_false] at hφ ⊢
  obtain ⟨u, h1, h2⟩ := hm k _ (Cs.at_eq hφ.1)
  exact ⟨u, zJx hT ha h1, by rw [D0.as_eq hφ.2]; exact h2⟩
end
def zKo (op : BinOp) (k : IntKind) (x y : Int) : Value :=
 let a := BitVec.ofInt k.bits x
 let b := BitVec.ofInt k.bits y
 match op with
 | .and => .int k (k.wrap ((a &&& b).toNat : Int))
 | .or => .int k (k.wrap ((a ||| b).toNat : Int))
 | .xor => .int k (k.wrap ((a ^^^ b).toNat : Int))
 | _ => .int k (k.wrap ((a &&& ~~~b).toNat : Int))
def zUI (op : BinOp) (k : IntKind) (a : Int) (k' : IntKind) (b : Int) : Option (Prop × Value) :=
 match op with
 | .add => some (k = k', .int k (k.wrap (a + b)))
 | .sub => some (k = k', .int k (k.wrap (a - b)))
 | .mul => some (k = k', .int k (k.wrap (a * b)))
 | .quo => some (k = k' /\ b ≠ 0, .int k (k.wrap (a.tdiv b)))
 | .rem => some (k = k' /\ b ≠ 0, .int k (a.tmod b))
 | .and => some (k = k', zKo .and k a b)
 | .or => some (k = k', zKo .or k a b)
 | .xor => some (k = k', zKo .xor k a b)
 | .andNot => some (k = k', zKo .andNot k a b)
 | .shl => some (0 <= b, .int k (k.wrap (a * 2 ^ (min b.toNat k.bits))))
 | .shr => some (0 <= b, .int k (a.fdiv (2 ^ (min b.toNat k.bits))))
 | .eql => some (k = k', .bool (decide (a = b)))
 | .neq => some (k = k', .bool (!decide (a = b)))
 | .lss => some (k = k', .bool (decide (a < b)))
 | .leq => some (k = k', .bool (decide (a <= b)))
 | .gtr => some (k = k', .bool (decide (b < a)))
 | .geq => some (k = k', .bool (decide (b <= a)))
def zP8 (a b : ByteArray) : Bool := Op.bytesLess a.toList b.toList
def zA1 (a b : ByteArray) : Bool := a.toList == b.toList
def zTQ (op : BinOp) (a b : ByteArray) : Option (Prop × Value) :=
 match op with
 | .add => some (a.size + b.size <= maxLen, .string (a ++ b))
 | .eql => some (True, .bool (zA1 a b))
 | .neq => some (True, .bool (!zA1 a b))
 | .lss => some (True, .bool (zP8 a b))
 | .leq => some (True, .bool (zP8 a b || zA1 a b))
 | .gtr => some (True, .bool (!(zP8 a b || zA1 a b)))
 | .geq => some (True, .bool (!zP8 a b))
 | _ => none
def zJ5 (op : BinOp) (k : FloatKind) (a : Nat) (k' : FloatKind) (b : Nat) : Option (Prop × Value) :=
 match op with
 | .eql => some (k = k', .bool (k.format.order a b == some .eq))
 | .neq => some (k = k', .bool (k.format.order a b != some .eq))
 | .lss => some (k = k', .bool (k.format.order a b == some .lt))
 | .leq => some (k = k', .bool (k.format.order a b == some .lt || k.format.order a b == some .eq))
 | .gtr => some (k = k', .bool (k.format.order a b == some .gt))
 | .geq => some (k = k', .bool (k.format.order a b == some .gt || k.format.order a b == some .eq))
 | _ => none
theorem zM9 {P : Program} (w : World) {op : BinOp} {t : TypeId} {k k' : FloatKind} {a b : Nat} {φ : Prop} {v : Value} (h : zJ5 op k a k' b = some (φ, v)) (hφ : φ) :
  (binOp op t (.float k a) (.float k' b)).run P w = .ok v w := by
 cases op <;> simp only [zJ5, Option.some.injEq, Prod.mk.injEq, reduceCtorEq] at h <;> obtain ⟨rfl, rfl⟩ := h
 all_goals
  subst hφ
  simp only [binOp, ne_eq, not_true_eq_false, if_false, Op.floatCmp]
  rfl
theorem zQl {P : Program} (w : World) {op : BinOp} {t : TypeId} {k k' : IntKind} {a b : Int} {φ : Prop} {v : Value} (h : zUI op k a k' b = some (φ, v)) (hφ : φ) :
  (binOp op t (.int k a) (.int k' b)).run P w = .ok v w := by
 cases op <;> simp only [zUI, Option.some.injEq, Prod.mk.injEq] at h <;> obtain ⟨rfl, rfl⟩ := h
 case shl =>
  simp only [binOp, Op.shift]
  rw [if_neg (by omega)]; rfl
 case shr =>
  simp only [binOp, Op.shift]
  rw [if_neg (by omega)]; rfl
 case quo =>
  obtain ⟨rfl, h0⟩ := hφ
  simp only [binOp, ne_eq, not_true_eq_false, if_false, Op.intDiv]
  rw [if_neg h0]; rfl
 case rem =>
  obtain ⟨rfl, h0⟩ := hφ
  simp only [binOp, ne_eq, not_true_eq_false, if_false, Op.intDiv]
  rw [if_neg h0]; rfl
 all_goals
  subst hφ
  simp only [binOp, ne_eq, not_true_eq_false, if_false, Op.intArith, Op.intBits, Op.intCmp, zKo]
  first
   | rfl
   | (show Result.ok _ _ = _; congr 2; first | rfl | (rw [Bool.eq_iff_iff]; simp))
theorem zQj {P : Program} (w : World) {op : BinOp} {t : TypeId} {a b : ByteArray} {φ : Prop} {v : Value} (h : zTQ op a b = some (φ, v)) (hφ : φ) :
  (binOp op t (.string a) (.string b)).run P w = .ok v w := by
 cases op <;> simp only [zTQ, Option.some.injEq, Prod.mk.injEq, reduceCtorEq] at h <;> obtain ⟨rfl, rfl⟩ := h
 case add =>
  simp only [binOp, Op.stringOp]
  rw [if_neg (by simp only [maxLen] at hφ; simp only [IntKind.max, IntKind.bits, IntKind.signed, if_true]; omega)]; rfl
 all_goals rfl
abbrev D.v (x : Value) : D := .one (.e (.v x))
abbrev Ev := Operand -> D
abbrev Mem := Nat -> Option Blk
theorem zCu {p : Rho} {C : Nat -> Nat -> Value -> Prop} {w : World} {x u : Value} (h : zAy p C w (.v x) u) : u = x := by
 have h : RepE C (.v x) u := h
 cases h
 rfl
theorem zAF {p : Rho} {C : Nat -> Nat -> Value -> Prop} {w : World} {x : Value} (h : x.oneCell' = true) : zAy p C w (.v x) x := RepE.v x h
theorem zKn (op : BinOp) (k : IntKind) (a b : Int) : (zKo op k a b).oneCell' = true := by
 unfold zKo
 dsimp only
 split <;> rfl
theorem zQL {op : BinOp} {k k' : IntKind} {a b : Int} {φ : Prop} {v : Value} (h : zUI op k a k' b = some (φ, v)) : v.oneCell' = true := by
 cases op <;> simp only [zUI, Option.some.injEq, Prod.mk.injEq] at h <;> obtain ⟨rfl, rfl⟩ := h <;> first | rfl | exact zKn _ _ _ _
theorem zP7 {op : BinOp} {a b : ByteArray} {φ : Prop} {v : Value} (h : zTQ op a b = some (φ, v)) : v.oneCell' = true := by
 cases op <;> simp only [zTQ, Option.some.injEq, Prod.mk.injEq, reduceCtorEq] at h <;> obtain ⟨rfl, rfl⟩ := h <;> rfl
theorem zNw {op : BinOp} {k k' : FloatKind} {a b : Nat} {φ : Prop} {v : Value} (h : zJ5 op k a k' b = some (φ, v)) : v.oneCell' = true := by
 cases op <;> simp only [zJ5, Option.some.injEq, Prod.mk.injEq, reduceCtorEq] at h <;> obtain ⟨rfl, rfl⟩ := h <;> rfl
def zVx (f : Nat -> D -> D -> Prop × Bool) (T : Nat -> Option TI) (c c' : Cs) : List (Nat × Nat) -> Prop × Bool
 | [] => (True, true)
 | (o, ft) :: r =>
  match T ft with
  | some fti =>
   let e := f ft (c.load fti o).2 (c'.load fti o).2
   let r' := zVx f T c c' r
   ((c.load fti o).1 /\ (c'.load fti o).1 /\ e.1 /\ r'.1, e.2 && r'.2)
  | none => (False, false)
def eqD (T : Nat -> Option TI) : Nat -> Nat -> D -> D -> Prop × Bool
 | 0, _, _, _ => (False, false)
 | d + 1, t, x, y =>
  match T t, x, y with
  | some ⟨_, _, .int _, _⟩, .one (.e (.v (.int k a))), .one (.e (.v (.int k' b))) => (k = k', a == b)
  | some ⟨_, _, .bool, _⟩, .one (.e (.v (.bool a))), .one (.e (.v (.bool b))) => (True, a == b)
  | some ⟨_, _, .str, _⟩, .one (.e (.v (.string a))), .one (.e (.v (.string b))) => (True, zA1 a b)
  | some ⟨_, _, .struct fs, z⟩, .agg c, .agg c' => bif z.all zDX then zVx (eqD T d) T c c' fs else (False, false)
  | some ⟨_, _, .arr n e, z⟩, .agg c, .agg c' =>
   match bif z.all zDX then T e else none with
   | some ti => (∀ i, i < n -> (c.load ti (i * ti.size)).1 /\ (c'.load ti (i * ti.size)).1 /\ (eqD T d e (c.load ti (i * ti.size)).2 (c'.load ti (i * ti.size)).2).1,
     (List.range n).all fun i => (eqD T d e (c.load ti (i * ti.size)).2 (c'.load ti (i * ti.size)).2).2)
   | none => (False, false)
  | _, _, _ => (False, false)
def zL3 (x : D) : Option Bool :=
 match x with
 | .one (.e (.v (.pointer none))) => some true
 | .one (.e (.pt _)) => some false
 | .one (.eptr _) => some false
 | _ => none
def zPd (T : Nat -> Option TI) (op : BinOp) (t : Nat) (x y : D) : Option (Prop × D) :=
 match T t, zL3 x, zL3 y with
 | some ⟨_, _, .ptr _, _⟩, some b, some true =>
  match op with
  | .eql => some (True, .v (.bool b))
  | .neq => some (True, .v (.bool (!b)))
  | _ => none
 | _, _, _ => none
def zPe (T : Nat -> Option TI) (op : BinOp) (t : Nat) (x y : D) : Option (Prop × D) :=
 match x, y with
 | .one (.e (.v (.int k a))), .one (.e (.v (.int k' b))) => (zUI op k a k' b).map fun r => (r.1, .v r.2)
 | .one (.e (.v (.string a))), .one (.e (.v (.string b))) => (zTQ op a b).map fun r => (r.1, .v r.2)
 | .one (.e (.v (.float k a))), .one (.e (.v (.float k' b))) => (zJ5 op k a k' b).map fun r => (r.1, .v r.2)
 | .one (.e (.v (.bool a))), .one (.e (.v (.bool b))) =>
  match T t, op with
  | some ⟨_, _, .bool, _⟩, .eql => some (True, .v (.bool (a == b)))
  | some ⟨_, _, .bool, _⟩, .neq => some (True, .v (.bool (!(a == b))))
  | _, _ => none
 | .agg c, .agg c' =>
  match op with
  | .eql => some ((eqD T 9 t (.agg c) (.agg c')).1, .v (.bool (eqD T 9 t (.agg c) (.agg c')).2))
  | .neq => some ((eqD T 9 t (.agg c) (.agg c')).1, .v (.bool (!(eqD T 9 t (.agg c) (.agg c')).2)))
  | _ => none
 | _, _ => zPd T op t x y
def zSZ (op : UnOp) (x : D) : Option (Prop × D) :=
 match op, x with
 | .not, .one (.e (.v (.bool a))) => some (True, .v (.bool (!a)))
 | .neg, .one (.e (.v (.int k a))) => some (True, .v (.int k (k.wrap (0 - a))))
 | .xor, .one (.e (.v (.int k a))) => some (True, .v (zKo .xor k (if k.signed then -1 else k.max) a))
 | _, _ => none
def zGS (cs : List E) : Prop := ∃ b : UInt8, cs = [.v (.int .u8 (b.toNat : Int))]
def zES (xs : List (List E)) : ByteArray := ⟨(xs.map fun cs => UInt8.ofNat (cs.getD 0 E.dflt).int.toNat).toArray⟩
def zBo (z n : Nat) (cs : List E) : List (List E) := (List.range n).map fun i => (cs.drop (i * z)).take z
def zFK (T : Nat -> Option TI) (mem : Mem) (src dst : Nat) (x : D) : Option (Prop × D) :=
 match T src, T dst, x with
 | some _, some ⟨_, _, .int k, _⟩, .one (.e (.v (.int _ n))) => some (True, .v (.int k (k.wrap n)))
 | some _, some ⟨_, _, .str, _⟩, .one (.e (.v (.string s))) => some (True, .v (.string s))
 | some ⟨_, _, .slice e, _⟩, some ⟨_, _, .str, _⟩, .one y =>
  match T e, y with
  | some ⟨_, _, .int .u8, _⟩, .e (.sl xs) => some (∀ cs ∈ xs, zGS cs, .v (.string (zES xs)))
  | some ⟨_, _, .int .u8, _⟩, .nil => some (True, .v (.string .empty))
  | some ⟨_, _, .int .u8, _⟩, .own id ver =>
   match mem id with
   | some ⟨bv, .row _ xs, _⟩ => bif Nat.beq bv ver then some (∀ cs ∈ xs, zGS cs, .v (.string (zES xs))) else none
   | _ => none
  | some ⟨_, _, .int .u8, _⟩, .bsl id ver off z n =>
   match mem id with
   | some ⟨bv, .box (.es cs), _⟩ => bif Nat.beq bv ver && Nat.beq z 1 then some (∀ c ∈ zBo 1 n (cs.drop off), zGS c, .v (.string (zES (zBo 1 n (cs.drop off))))) else none
   | _ => none
  | _, _ => none
 | _, _, _ => none
def zEN (ti : TI) (mem : Mem) (x : D) : Option (Prop × D) :=
 match x with
 | .one (.eptr cs) => some ((Cs.es cs).load ti 0)
 | .one (.ptr id ver off) =>
  match mem id with
  | some ⟨bv, .box c, _⟩ => bif Nat.beq bv ver then some (c.load ti off) else none
  | _ => none
 | .one (.rptr id ver i j) =>
  match mem id with
  | some ⟨bv, .row _ xs, _⟩ => bif Nat.beq bv ver then
    let r := (Cs.es (xs.getD i [])).load ti j
    some (r.1, r.2) else none
  | _ => none
 | _ => none
def zIU (T : Nat -> Option TI) (s f : Nat) (x : D) : Option (Prop × D) :=
 match T s with
 | some ⟨_, _, .struct fs, _⟩ =>
  match fs[f]? with
  | some (o, ft) =>
   match T ft with
   | some ti => bif Nat.beq ti.size 0 then none else
    match x with
    | .one (.ptr id ver off) => some (True, .one (.ptr id ver (off + o)))
    | .one (.eptr cs) => some (True, .one (.eptr (cs.drop o)))
    | .one (.rptr id ver i j) => some (True, .one (.rptr id ver i (j + o)))
    | _ => none
   | none => none
  | none => none
 | _ => none
def zG3 (T : Nat -> Option TI) (s f : Nat) (x : D) : Option (Prop × D) :=
 match T s with
 | some ⟨_, _, .struct fs, _⟩ =>
  match fs[f]? with
  | some (o, ft) =>
   match T ft, x with
   | some ti, .agg c => some (c.load ti o)
   | _, _ => none
  | none => none
 | _ => none
def zDt (T : Nat -> Option TI) (mem : Mem) (t : Nat) (x i : D) : Option (Prop × D) :=
 match i with
 | .one (.e (.v (.int _ n))) =>
  match T t with
  | some ⟨_, _, .slice e, _⟩ =>
   match T e, x with
   | some ti, .one (.e (.sl xs)) => some (0 <= n /\ n < xs.length /\ (xs.getD n.toNat []).length = ti.size, .one (.eptr (xs.getD n.toNat [])))
   | some ti, .one (.own id ver) =>
    match mem id with
    | some ⟨bv, .row z xs, _⟩ => bif Nat.beq bv ver && Nat.beq z ti.size then some (0 <= n /\ n < xs.length, .one (.rptr id ver n.toNat 0)) else none
    | _ => none
   | some ti, .one (.bsl id ver off z m) =>
    match mem id with
    | some ⟨bv, _, _⟩ => bif Nat.beq bv ver && Nat.beq z ti.size then some (0 <= n /\ n < (m : Int), .one (.ptr id ver (off + n.toNat * ti.size))) else none
    | none => none
   | _, _ => none
  | some ⟨_, _, .arr len e, _⟩ =>
   match T e, x with
   | some ti, .one (.eptr cs) => some (0 <= n /\ n < len, .one (.eptr (cs.drop (n.toNat * ti.size))))
   | some ti, .one (.ptr id ver off) => some (0 <= n /\ n < len, .one (.ptr id ver (off + n.toNat * ti.size)))
   | some ti, .one (.rptr id ver a j) => some (0 <= n /\ n < len, .one (.rptr id ver a (j + n.toNat * ti.size)))
   | _, _ => none
  | _ => none
 | _ => none
def zG1 (T : Nat -> Option TI) (t : Nat) (x i : D) : Option (Prop × D) :=
 match i with
 | .one (.e (.v (.int _ n))) =>
  match T t, x with
  | some ⟨_, _, .arr len e, _⟩, .agg c =>
   match T e with
   | some ti => let r := c.load ti (n.toNat * ti.size); some (0 <= n /\ n < len /\ r.1, r.2)
   | none => none
  | some ⟨_, _, .str, _⟩, .one (.e (.v (.string s))) => some (0 <= n /\ n < s.size, .v (.int .u8 ((s.data.toList.getD n.toNat 0).toNat : Int)))
  | _, _ => none
 | _ => none
def zHZ (T : Nat -> Option TI) (mem : Mem) (t : Nat) (x : D) : Option (Prop × D) :=
 match T t with
 | some ⟨_, _, .slice _, _⟩ =>
  match x with
  | .one (.e (.sl xs)) => some (True, .v (.int .i64 (xs.length : Int)))
  | .one .nil => some (True, .v (.int .i64 0))
  | .one (.own id ver) =>
   match mem id with
   | some ⟨bv, .row _ xs, _⟩ => bif Nat.beq bv ver then some (True, .v (.int .i64 (xs.length : Int))) else none
   | _ => none
  | .one (.bsl id ver off z n) =>
   match mem id with
   | some ⟨bv, _, _⟩ => bif Nat.beq bv ver then some (True, .v (.int .i64 (n : Int))) else none
   | none => none
  | _ => none
 | some ⟨_, _, .str, _⟩ =>
  match x with
  | .one (.e (.v (.string s))) => some (True, .v (.int .i64 (s.size : Int)))
  | _ => none
 | _ => none
def zFy (x : Option D) : Option Int :=
 match x with
 | none => some 0
 | some (.one (.e (.v (.int _ n)))) => some n
 | _ => none
def zLb (x : Option D) (l : Int) : Option Int :=
 match x with
 | none => some l
 | some (.one (.e (.v (.int _ n)))) => some n
 | _ => none
def zEr (T : Nat -> Option TI) (t : Nat) (x : D) (lo hi : Option D) : Option (Prop × D) :=
 match T t, x with
 | some ⟨_, _, .str, _⟩, .one (.e (.v (.string s))) =>
  match zFy lo, zLb hi s.size with
  | some l, some h => some (0 <= l /\ l <= h /\ h <= s.size, .v (.string (s.extract l.toNat h.toNat)))
  | _, _ => none
 | some ⟨_, _, .slice e, _⟩, .one (.e (.sl xs)) =>
  match T e, zFy lo, zLb hi xs.length with
  | some ti, some l, some h => some (0 <= l /\ l <= h /\ h <= xs.length /\ ∀ cs ∈ xs, cs.length = ti.size, .one (.e (.sl ((xs.drop l.toNat).take (h.toNat - l.toNat)))))
  | _, _, _ => none
 | some ⟨_, _, .arr len e, _⟩, .one (.eptr cs) =>
  match T e, zFy lo, zLb hi len with
  | some ti, some l, some h => some (0 <= l /\ l < len /\ l <= h /\ h <= len /\ h.toNat * ti.size <= cs.length /\ len <= 16777216, .one (.e (.sl (zBo ti.size (h.toNat - l.toNat) (cs.drop (l.toNat * ti.size))))))
  | _, _, _ => none
 | _, _ => none
def zGY (T : Nat -> Option TI) (t : Nat) (x : D) (lo : Option D) (hi mx : D) : Option (Prop × D) :=
 match T t, x with
 | some ⟨_, _, .slice e, _⟩, .one (.e (.sl xs)) =>
  match T e, zFy lo, zFy (some hi), zFy (some mx) with
  | some ti, some l, some h, some k => some (0 <= l /\ l <= h /\ h <= k /\ k <= xs.length /\ ∀ cs ∈ xs, cs.length = ti.size, .one (.e (.sl ((xs.drop l.toNat).take (h.toNat - l.toNat)))))
  | _, _, _, _ => none
 | _, _ => none
def zFI (x : D) (i : Nat) : Option (Prop × D) :=
 match x with
 | .tup xs =>
  match xs[i]? with
  | some (true, c) => some (True, .agg c)
  | some (false, c) => some (c.len = 1, .one (c.at 0))
  | none => none
 | _ => none
def zFh (mn : Bool) (x y : D) : Option (Prop × D) :=
 match x, y with
 | .one (.e (.v (.int k a))), .one (.e (.v (.int k' b))) => some (k = k', .v (.int k (bif mn then (if b < a then b else a) else (if a < b then b else a))))
 | _, _ => none
def zLl (c x y : D) : Option (Prop × D) :=
 match c, x, y with
 | .one (.e (.v (.bool c))), .one (.e (.v (.bool x))), .one (.e (.v (.bool y))) => some (True, .v (.bool (bif c then x else y)))
 | _, _, _ => none
def zFz (mem : Mem) (x : D) : Bool :=
 match x with
 | .one (.ptr id ver _) => match mem id with
  | some b => Nat.beq b.ver ver
  | none => false
 | .one (.rptr id ver _ _) => match mem id with
  | some b => Nat.beq b.ver ver
  | none => false
 | .one (.eptr _) => true
 | .one (.e (.sl _)) => true
 | .one (.own _ _) => true
 | .one (.bsl _ _ _ _ _) => true
 | _ => false
def D.ptn (x : D) : D :=
 match x with
 | .one (.e (.pt cs)) => .one (.eptr cs)
 | x => x
def zRL : List (ByteArray × Int) -> ByteArray -> Int
 | [], _ => 0
 | (k, v) :: r, s => bif zA1 s k then v else zRL r s
def zNS : List (ByteArray × Int) -> ByteArray -> Int -> List (ByteArray × Int)
 | [], s, n => [(s, n)]
 | (k, v) :: r, s, n => bif zA1 s k then (s, n) :: r else (k, v) :: zNS r s n
def zQJ : List Value -> Bool
 | [.int .i64 (.ofNat 0)] => true
 | _ => false
def zDs (T : Nat -> Option TI) (m : Mem) (t : Nat) (x i : D) : Option (Prop × D) :=
 match T t, x, i with
 | some ⟨_, _, .map k e, _⟩, .one (.hnd id ver), .one (.e (.v (.string s))) =>
  match T k, T e, m id with
  | some ⟨_, _, .str, _⟩, some ⟨_, _, .int .i64, z⟩, some ⟨bv, .raw (.smap l), _⟩ => bif Nat.beq bv ver && zQJ z then some (True, .v (.int .i64 (zRL l s))) else none
  | _, _, _ => none
 | _, _, _ => none
def zVd : List E -> Option (List Value)
 | [] => some []
 | .v u :: r => match zVd r with
  | some s => some (u :: s)
  | none => none
 | _ :: _ => none
theorem zPI : ∀ {cs : List E} {vs : List Value}, zVd cs = some vs -> cs = vs.map .v
 | [], vs, h => by cases h; rfl
 | x :: r, vs, h => by
  cases x with
  | v u =>
   rw [zVd] at h
   cases hr : zVd r with
   | none => rw [hr] at h; cases h
   | some s => rw [hr] at h; cases h; rw [zPI hr]; rfl
  | _ => cases h
def zIT (T : Nat -> Option TI) (t : Nat) (x : D) : Option (Prop × D) :=
 match T t, x with
 | some ⟨_, _, .struct _, _⟩, .agg (.es cs) =>
  match zVd cs with
  | some vs => some (True, .v (.iface t (.agg vs.toArray)))
  | none => none
 | _, _ => none
def zG4 (T : Nat -> Option TI) (a : Nat) (x : D) : Option (Prop × D) :=
 match T a, x with
 | some ⟨_, _, .struct _, z⟩, .one (.e (.v (.iface t (.agg vs)))) =>
  bif Nat.beq t a then some (vs.toList.all (·.oneCell') = true, .tup [(true, .es (vs.toList.map .v)), (false, .es [.v (.bool true)])])
  else some (True, .tup [(true, .es (z.map .v)), (false, .es [.v (.bool false)])])
 | _, _ => none
def zIP (T : Nat -> Option TI) (mem : Mem) (op : Op) (ev : Ev) : Option (Prop × D) :=
 match op with
 | .move x => some (True, ev x)
 | .assign x => some (True, ev x)
 | .pick c a b => zLl (ev c) (ev a) (ev b)
 | .binOp op t x y _ => zPe T op t (ev x) (ev y)
 | .unOp op _ x => zSZ op (ev x)
 | .convert s d x => zFK T mem s d (ev x)
 | .load t x =>
  match T t with
  | some ti => zEN ti mem (ev x).ptn
  | none => none
 | .nilCheck x =>
  match (ev x).ptn with
  | .one (.ptr id ver off) => bif zFz mem (.one (.ptr id ver off)) then some (True, .one (.ptr id ver off)) else none
  | .one (.eptr cs) => some (True, .one (.eptr cs))
  | _ => none
 | .fieldAddr s x f => bif zFz mem (ev x).ptn then zIU T s f (ev x).ptn else none
 | .field s x f => zG3 T s f (ev x)
 | .indexAddr t x i => bif zFz mem (ev x).ptn then zDt T mem t (ev x).ptn (ev i) else none
 | .index t x i => zG1 T t (ev x) (ev i)
 | .slice t x lo hi none => zEr T t (ev x) (lo.map ev) (hi.map ev)
 | .slice t x lo (some hi) (some mx) => zGY T t (ev x) (lo.map ev) (ev hi) (ev mx)
 | .extract x i => zFI (ev x) i
 | .lookup t x i false => zDs T mem t (ev x) (ev i)
 | .makeInterface t x => zIT T t (ev x)
 | .typeAssert x _ a true => zG4 T a (ev x)
 | .call ⟨.builtin .len, args, ts⟩ =>
  match args.toList, ts.toList with
  | [x], [t] => zHZ T mem t (ev x)
  | _, _ => none
 | .call ⟨.builtin .min, args, _⟩ =>
  match args.toList with
  | [x, y] => zFh true (ev x) (ev y)
  | _ => none
 | .call ⟨.builtin .max, args, _⟩ =>
  match args.toList with
  | [x, y] => zFh false (ev x) (ev y)
  | _ => none
 | _ => none
section
variable {P : Program} {T : Nat -> Option TI} {X : Ctx} {p : Rho} {w : World} {C : Nat -> Nat -> Value -> Prop}
theorem zCB (d : Nat) {t : TypeId} (a b : Bool) (hu : P.underlying t = some .bool) : (Op.equalIn (d + 1) t (.bool a) (.bool b)).run P w = .ok (a == b) w := by
 simp [Op.equalIn, run_underlying hu]
theorem zJz {t : TypeId} (a b : Bool) (hu : P.underlying t = some .bool) : (binOp .eql t (.bool a) (.bool b)).run P w = .ok (.bool (a == b)) w := by
 simp only [binOp]
 simp [Op.equal, Op.maxDepth, zCB 9999 a b hu]
theorem zJw {t : TypeId} (a b : Bool) (hu : P.underlying t = some .bool) : (binOp .neq t (.bool a) (.bool b)).run P w = .ok (.bool (!(a == b))) w := by
 simp only [binOp]
 simp [Op.equal, Op.maxDepth, zCB 9999 a b hu]
theorem zDg (hT : TOk P T) {s : Nat} {a b : Nat} {fs : List (Nat × Nat)} {z : List Value} (h : T s = some ⟨a, b, .struct fs, z⟩) :
  ∃ F : Array Field, P.underlying s = some (.struct F) /\ F.toList.map (fun f => (f.offset, f.type)) = fs := by
 obtain ⟨i, d, z, h1, h2, h3, h4, h5, _⟩ := (hT _ _ h).out
 obtain ⟨F, rfl, h6⟩ := h5
 exact ⟨F, h2, h6⟩
theorem zIM {F : Array Field} {fs : List (Nat × Nat)} (h : F.toList.map (fun f => (f.offset, f.type)) = fs) {f o ft : Nat} (hf : fs[f]? = some (o, ft)) : ∃ fd, F[f]? = some fd /\ fd.offset = o /\ fd.type = ft := by
 subst h
 simp only [List.getElem?_map, Option.map_eq_some_iff, Prod.mk.injEq] at hf
 obtain ⟨fd, h1, h2, h3⟩ := hf
 exact ⟨fd, by simpa using h1, h2, h3⟩
theorem zSu {c : Cs} {vs : List Value} (hr : zBA p C w c.d0 vs) {o : Nat} (ho : o < c.len) : ∃ u, vs[o]? = some u /\ zCQ p C w (c.at o) u := by
 have h1 := Cs.at_eq ho
 have h2 : o < vs.length := by rw [<-hr.1, Cs.len_eq]; exact ho
 exact ⟨vs[o], List.getElem?_eq_getElem h2, hr.2 o _ _ h1 (List.getElem?_eq_getElem h2)⟩
theorem zLZ {xs : List D0} {vs : List Value} (hr : zBA p C w xs vs) (o n : Nat) : zBA p C w ((xs.drop o).take n) ((vs.drop o).take n) := by
 refine ⟨by simp [hr.1], fun i x u h1 h2 => ?_⟩
 rw [List.getElem?_take] at h1 h2
 split at h1
 ·rename_i hi
  rw [if_pos hi] at h2
  rw [List.getElem?_drop] at h1 h2
  exact hr.2 _ _ _ h1 h2
 ·cases h1
theorem zDk {t : Nat} {ti : TI} (hti : TIOk P t ti) {c : Cs} {vs : List Value} (hr : zBA p C w c.d0 vs) {o : Nat} (hφ : (c.load ti o).1) :
  ∃ v, (part t vs.toArray o).run P w = .ok v w /\ zAy p C w (c.load ti o).2 v := by
 unfold Cs.load at *
 have ha := hti.isAgg w
 have hs := hti.size w
 cases hk : ti.k.agg with
 | true =>
  simp only [hk, cond_true] at hφ ⊢
  rw [hk] at ha
  refine ⟨.agg (vs.toArray.extract o (o + ti.size)), by simp [part, ha, hs], (vs.drop o).take ti.size, ?_, by rw [Cs.sub_d0]; exact zLZ hr _ _⟩
  congr 1
  apply Array.ext'
  simp [List.extract_eq_take_drop]
 | false =>
  simp only [hk, cond_false] at hφ ⊢
  rw [hk] at ha
  obtain ⟨u, h1, h2⟩ := zSu hr hφ.1
  exact ⟨u, by simp [part, ha, h1], by rw [D0.as_eq hφ.2]; exact h2⟩
theorem zBI (hT : TOk P T) {s : Nat} {a b e : Nat} {z : List Value} (h : T s = some ⟨a, b, .slice e, z⟩) : P.underlying s = some (.slice e) := by
 obtain ⟨i, d, z, h1, h2, h3, h4, h5, _⟩ := (hT _ _ h).out
 rw [h2, show d = .slice e from h5]
theorem zH4 (hT : TOk P T) {s : Nat} {a b n e : Nat} {z : List Value} (h : T s = some ⟨a, b, .arr n e, z⟩) : P.underlying s = some (.array n e) := by
 obtain ⟨i, d, z, h1, h2, h3, h4, h5, _⟩ := (hT _ _ h).out
 rw [h2, show d = .array n e from h5]
theorem zEZ (hT : TOk P T) {s : Nat} {a b : Nat} {z : List Value} (h : T s = some ⟨a, b, .str, z⟩) : P.underlying s = some .string := by
 obtain ⟨i, d, z, h1, h2, h3, h4, h5, _⟩ := (hT _ _ h).out
 rw [h2, show d = .string from h5]
theorem zHR (hT : TOk P T) {s : Nat} {a b : Nat} {k : IntKind} {z : List Value} (h : T s = some ⟨a, b, .int k, z⟩) : P.underlying s = some (.int k) := by
 obtain ⟨i, d, z, h1, h2, h3, h4, h5, _⟩ := (hT _ _ h).out
 rw [h2, show d = .int k from h5]
theorem zJ1 {β : Type} (b0 b1 : β) (f : Nat -> β -> Sem (ForInStep β)) (g : Nat -> Bool) : ∀ (l : List Nat), (∀ i ∈ l, (f i b0).run P w = .ok (bif g i then .yield b0 else .done b1) w) -> (forIn l b0 f).run P w = .ok (bif l.all g then b0 else b1) w
 | [], _ => by simp
 | i :: l, h => by
  rw [List.forIn_cons, Sem.run_bind, h i (List.mem_cons_self ..)]
  have ih := zJ1 b0 b1 f g l fun j hj => h j (List.mem_cons_of_mem _ hj)
  cases hg : g i with
  | false => simp [hg]
  | true => simpa [hg] using ih
theorem zGW (hT : TOk P T) : ∀ (d : Nat) {t : Nat} {x y : D} {vx vy : Value}, zAy p C w x vx -> zAy p C w y vy -> (eqD T d t x y).1 -> ∀ D, d <= D -> (Op.equalIn D t vx vy).run P w = .ok (eqD T d t x y).2 w
 | 0, _, _, _, _, _, _, _, h, _, _ => by cases h
 | d + 1, t, x, y, vx, vy, hx, hy, h, D, hD => by
  obtain ⟨D, rfl⟩ : ∃ e, D = e + 1 := ⟨D - 1, by omega⟩
  have hD : d <= D := by omega
  have ih := @zGW hT d
  unfold eqD at h ⊢
  split at h
  ·rename_i k0 _ k a k' b hti
   obtain rfl := zCu hx
   obtain rfl := zCu hy
   obtain rfl : k = k' := h
   obtain ⟨i, dd, z, h1, h2, h3, h4, h5, _⟩ := (hT _ _ hti).out
   obtain rfl : dd = _ := h5
   exact run_equalIn_int w D t k _ a b h2
  ·rename_i a b hti
   obtain rfl := zCu hx
   obtain rfl := zCu hy
   obtain ⟨i, dd, z, h1, h2, h3, h4, h5, _⟩ := (hT _ _ hti).out
   obtain rfl : dd = .bool := h5
   exact zCB D a b h2
  ·rename_i a b hti
   obtain rfl := zCu hx
   obtain rfl := zCu hy
   obtain ⟨i, dd, z, h1, h2, h3, h4, h5, _⟩ := (hT _ _ hti).out
   obtain rfl : dd = .string := h5
   exact run_equalIn_string w D t a b h2
  ·rename_i _ _ fs zz c c' hti
   cases hzz : zz.all zDX with
   | false => rw [hzz] at h; exact h.elim
   | true =>
   rw [hzz] at h
   rw [cond_true] at h ⊢
   obtain ⟨F, hF, hfs⟩ := zDg hT hti
   obtain ⟨vs, rfl, hr⟩ := hx
   obtain ⟨us, rfl, hs⟩ := hy
   have hw := (hT _ _ hti).wide rfl hzz _ hF
   have hF' : P.fieldsOf t = F := by unfold Program.fieldsOf; rw [hF]
   rw [run_equalIn_struct w D t _ _ (by rw [hF', hF]) hw.1, hF']
   have hn := hw.2.2 F rfl
   subst hfs
   generalize F.toList = l at h hn ⊢
   clear hF hF' hw hti
   induction l with
   | nil => simp [Op.eqFields, zVx]
   | cons f l ihl =>
    rw [List.map_cons] at h ⊢
    unfold zVx at h ⊢
    dsimp only at h ⊢
    cases hft : T f.type with
    | none => rw [hft] at h; cases h
    | some fti =>
     rw [hft] at h
     dsimp only at h ⊢
     obtain ⟨v, k1, k2⟩ := zDk (hT _ _ hft) hr h.1
     obtain ⟨u, l1, l2⟩ := zDk (hT _ _ hft) hs h.2.1
     have e := ih k2 l2 h.2.2.1 D hD
     have e2 := ihl h.2.2.2 (fun g hg => hn g (List.mem_cons_of_mem _ hg))
     rw [Op.eqFields, if_pos (hn f (List.mem_cons_self ..))]
     simp only [Sem.run_bind, k1, l1, e, Result.andThen_ok]
     cases (eqD T d f.type (c.load fti f.offset).2 (c'.load fti f.offset).2).2 with
     | false => simp
     | true => simpa using e2
  ·rename_i _ _ n e zz c c' hti
   cases hzz : zz.all zDX with
   | false => rw [hzz] at h; exact h.elim
   | true =>
   rw [hzz] at h
   rw [cond_true] at h ⊢
   obtain ⟨vs, rfl, hr⟩ := hx
   obtain ⟨us, rfl, hs⟩ := hy
   have ha := zH4 hT hti
   cases he : T e with
   | none => rw [he] at h; cases h
   | some ti =>
    rw [he] at h
    dsimp only at h ⊢
    have hsz := (hT _ _ he).size
    have hbody : ∀ i, i < n -> ∃ v u, (part e vs.toArray (i * ti.size)).run P w = .ok v w /\ (part e us.toArray (i * ti.size)).run P w = .ok u w /\ (Op.equalIn D e v u).run P w = .ok (eqD T d e (c.load ti (i * ti.size)).2 (c'.load ti (i * ti.size)).2).2 w := fun i hi => by
     obtain ⟨q1, q2, q3⟩ := h i hi
     obtain ⟨v, k1, k2⟩ := zDk (hT _ _ he) hr q1
     obtain ⟨u, l1, l2⟩ := zDk (hT _ _ he) hs q2
     exact ⟨v, u, k1, l1, ih k2 l2 q3 D hD⟩
    simp only [Op.equalIn, Sem.run_bind, run_underlying ha, Result.andThen_ok, hsz w, Std.Legacy.Range.forIn_eq_forIn_range', Std.Legacy.Range.size, Nat.sub_zero, Nat.add_sub_cancel, Nat.div_one]
    rw [zJ1 _ (some false, ()) _ (fun i => (eqD T d e (c.load ti (i * ti.size)).2 (c'.load ti (i * ti.size)).2).2) (List.range' 0 n)]
    rotate_left
    ·intro i hi
     have hin : i < n := by simpa using hi
     obtain ⟨v, u, k1, k2, k3⟩ := hbody i hin
     simp only [Sem.run_bind, k1, k2, k3, Result.andThen_ok]
     cases (eqD T d e (c.load ti (i * ti.size)).2 (c'.load ti (i * ti.size)).2).2 <;> simp
    rw [List.range_eq_range']
    cases (List.range' 0 n).all fun i => (eqD T d e (c.load ti (i * ti.size)).2 (c'.load ti (i * ti.size)).2).2 <;> simp [Result.andThen]
  ·cases h
theorem zUW {T : Nat -> Option TI} {d t : Nat} {c c' : Cs} (h : (eqD T (d + 1) t (.agg c) (.agg c')).1) : ∃ ti, T t = some ti /\ ti.k.agg = true /\ ti.zero.all zDX = true := by
 unfold eqD at h
 split at h
 all_goals first | (exact h.elim) | (rename_i e1 e2; cases e1; done) | skip
 ·rename_i zz _ _ hti e1 e2
  cases hzz : zz.all zDX with
  | false => rw [hzz] at h; exact h.elim
  | true => exact ⟨_, hti, rfl, hzz⟩
 ·rename_i zz _ _ hti e1 e2
  cases hzz : zz.all zDX with
  | false => rw [hzz] at h; exact h.elim
  | true => exact ⟨_, hti, rfl, hzz⟩
theorem zEy (n : Nat) {t e : TypeId} (q : Option Addr) (hu : P.underlying t = some (.pointer e)) : (Op.equalIn (n + 1) t (.pointer q) (.pointer none)).run P w = .ok q.isNone w := by
 cases q <;> simp [Op.equalIn, run_underlying hu]
theorem zNa {t e : TypeId} (q : Option Addr) (hu : P.underlying t = some (.pointer e)) : (binOp .eql t (.pointer q) (.pointer none)).run P w = .ok (.bool q.isNone) w := by
 simp only [binOp]
 simp [Op.equal, Op.maxDepth, zEy 9999 q hu]
theorem zM7 {t e : TypeId} (q : Option Addr) (hu : P.underlying t = some (.pointer e)) : (binOp .neq t (.pointer q) (.pointer none)).run P w = .ok (.bool (!q.isNone)) w := by
 simp only [binOp]
 simp [Op.equal, Op.maxDepth, zEy 9999 q hu]
theorem zRB (hT : TOk P T) {t a b e : Nat} {z : List Value} (h : T t = some ⟨a, b, .ptr e, z⟩) : P.underlying t = some (.pointer e) := by
 obtain ⟨i, dd, z, h1, h2, h3, h4, h5, _⟩ := (hT _ _ h).out
 rw [show dd = .pointer e from h5] at h2
 exact h2
theorem zHJ {x : D} {v : Value} {b : Bool} (h : zL3 x = some b) (hr : zAy p C w x v) : ∃ q : Option Addr, v = .pointer q /\ q.isNone = b := by
 unfold zL3 at h
 split at h
 ·cases h
  obtain rfl := zCu hr
  exact ⟨none, rfl, rfl⟩
 ·cases h
  cases hr with
  | pt b o U cs hC hr => exact ⟨_, rfl, rfl⟩
 ·cases h
  obtain ⟨b, o, rfl, _⟩ := hr
  exact ⟨_, rfl, rfl⟩
 ·cases h
theorem zQy (hT : TOk P T) {op : BinOp} {t : Nat} {dx dy d : D} {vx vy : Value} {φ : Prop} (hx : zAy p C w dx vx) (hy : zAy p C w dy vy) (h : zPd T op t dx dy = some (φ, d)) :
  ∃ v, (∀ x y, (do eqGuard op t x y vx vy; binOp op t vx vy : Sem Value).run P w = .ok v w) /\ zAy p C w d v := by
 unfold zPd at h
 split at h
 ·rename_i hti h1 h2
  obtain ⟨q, rfl, rfl⟩ := zHJ h1 hx
  obtain ⟨q', rfl, hq⟩ := zHJ h2 hy
  cases q' with
  | some a => cases hq
  | none =>
   split at h
   ·cases h
    refine ⟨_, fun x y => ?_, zAF rfl⟩
    have hg : (eqGuard .eql t x y (.pointer q) (.pointer none)).run P w = .ok () w := rfl
    simp only [Sem.run_bind, hg, Result.andThen_ok]
    exact zNa q (zRB hT hti)
   ·cases h
    refine ⟨_, fun x y => ?_, zAF rfl⟩
    have hg : (eqGuard .neq t x y (.pointer q) (.pointer none)).run P w = .ok () w := rfl
    simp only [Sem.run_bind, hg, Result.andThen_ok]
    exact zM7 q (zRB hT hti)
   ·cases h
 ·cases h
theorem zQ7 (hT : TOk P T) {op : BinOp} {t : Nat} {dx dy d : D} {vx vy : Value} {φ : Prop} (hx : zAy p C w dx vx) (hy : zAy p C w dy vy) (h : zPe T op t dx dy = some (φ, d)) (hφ : φ) :
  ∃ v, (∀ x y, (do eqGuard op t x y vx vy; binOp op t vx vy : Sem Value).run P w = .ok v w) /\ zAy p C w d v := by
 unfold zPe at h
 split at h
 ·rename_i k a k' b
  obtain rfl := zCu hx
  obtain rfl := zCu hy
  rw [Option.map_eq_some_iff] at h
  obtain ⟨⟨φ', v⟩, h1, h2⟩ := h
  simp only [Prod.mk.injEq] at h2
  obtain ⟨rfl, rfl⟩ := h2
  refine ⟨v, fun x y => ?_, zAF (zQL h1)⟩
  have := zQl (P := P) w (t := t) h1 hφ
  have hg : (eqGuard op t x y (.int k a) (.int k' b)).run P w = .ok () w := by cases op <;> rfl
  simp only [Sem.run_bind, hg, Result.andThen_ok, this]
 ·rename_i a b
  obtain rfl := zCu hx
  obtain rfl := zCu hy
  rw [Option.map_eq_some_iff] at h
  obtain ⟨⟨φ', v⟩, h1, h2⟩ := h
  simp only [Prod.mk.injEq] at h2
  obtain ⟨rfl, rfl⟩ := h2
  refine ⟨v, fun x y => ?_, zAF (zP7 h1)⟩
  have := zQj (P := P) w (t := t) h1 hφ
  have hg : (eqGuard op t x y (.string a) (.string b)).run P w = .ok () w := by cases op <;> rfl
  simp only [Sem.run_bind, hg, Result.andThen_ok, this]
 ·rename_i k a k' b
  obtain rfl := zCu hx
  obtain rfl := zCu hy
  rw [Option.map_eq_some_iff] at h
  obtain ⟨⟨φ', v⟩, h1, h2⟩ := h
  simp only [Prod.mk.injEq] at h2
  obtain ⟨rfl, rfl⟩ := h2
  refine ⟨v, fun x y => ?_, zAF (zNw h1)⟩
  have := zM9 (P := P) w (t := t) h1 hφ
  have hg : (eqGuard op t x y (.float k a) (.float k' b)).run P w = .ok () w := by cases op <;> rfl
  simp only [Sem.run_bind, hg, Result.andThen_ok, this]
 ·rename_i a b
  obtain rfl := zCu hx
  obtain rfl := zCu hy
  split at h
  ·rename_i hti
   cases h
   obtain ⟨i, dd, z, h1, h2, h3, h4, h5, _⟩ := (hT _ _ hti).out
   obtain rfl : dd = .bool := h5
   refine ⟨_, fun x y => ?_, zAF rfl⟩
   have hg : (eqGuard .eql t x y (.bool a) (.bool b)).run P w = .ok () w := rfl
   simp only [Sem.run_bind, hg, Result.andThen_ok]
   exact zJz a b h2
  ·rename_i hti
   cases h
   obtain ⟨i, dd, z, h1, h2, h3, h4, h5, _⟩ := (hT _ _ hti).out
   obtain rfl : dd = .bool := h5
   refine ⟨_, fun x y => ?_, zAF rfl⟩
   have hg : (eqGuard .neq t x y (.bool a) (.bool b)).run P w = .ok () w := rfl
   simp only [Sem.run_bind, hg, Result.andThen_ok]
   exact zJw a b h2
  ·cases h
 ·rename_i c c'
  obtain ⟨vs, rfl, hr⟩ := hx
  obtain ⟨us, rfl, hs⟩ := hy
  have key : (eqD T 9 t (.agg c) (.agg c')).1 -> P.eqGuardType P.depth t = false /\ (Op.equalIn 10000 t (.agg vs.toArray) (.agg us.toArray)).run P w = .ok (eqD T 9 t (.agg c) (.agg c')).2 w := fun hφ => by
   refine ⟨?_, zGW hT 9 (x := .agg c) (y := .agg c') (vx := .agg vs.toArray) (vy := .agg us.toArray) ⟨vs, rfl, hr⟩ ⟨us, rfl, hs⟩ hφ 10000 (by decide)⟩
   obtain ⟨ti, hti, e1, e2⟩ := zUW hφ
   obtain ⟨i, dd, z, h1, h2, _⟩ := (hT _ _ hti).out
   exact ((hT _ _ hti).wide e1 e2 _ h2).2.1
  split at h
  ·cases h
   obtain ⟨k1, k2⟩ := key hφ
   refine ⟨_, fun x y => ?_, zAF rfl⟩
   simp only [Sem.run_bind, run_eqGuard_agg w .eql t x y _ _ k1, Result.andThen_ok, run_eql_struct, k2]
  ·cases h
   obtain ⟨k1, k2⟩ := key hφ
   refine ⟨_, fun x y => ?_, zAF rfl⟩
   simp only [Sem.run_bind, run_eqGuard_agg w .neq t x y _ _ k1, Result.andThen_ok, run_neq_struct, k2]
  ·cases h
 ·exact zQy hT hx hy h
theorem zSd {op : UnOp} {dx d : D} {vx : Value} {φ : Prop} (hx : zAy p C w dx vx) (h : zSZ op dx = some (φ, d)) :
  ∃ v, (Op.unary op vx).run P w = .ok v w /\ zAy p C w d v := by
 unfold zSZ at h
 split at h
 ·obtain rfl := zCu hx; cases h; exact ⟨_, rfl, zAF rfl⟩
 ·obtain rfl := zCu hx; cases h; exact ⟨_, rfl, zAF rfl⟩
 ·obtain rfl := zCu hx; cases h; exact ⟨_, rfl, zAF (zKn _ _ _ _)⟩
 ·cases h
theorem zE8 {id : Nat} {blk : Blk} {g : Nat} (hR : RM X p w) (hb : p.mem id = some blk) (hg : p.μ id = some g) : zFP p (CW X p w) w g 0 blk.cells := by
 have := hR.blk id blk hb
 simp only [zAP, hg] at this
 obtain ⟨_, _, _, _, cur, e, lo, hi, g4, _, _, g7⟩ := this
 intro j x hx
 obtain ⟨u, h1, h2⟩ := g7 j x hx
 rw [zKX hx] at g4
 exact ⟨u, by rw [Nat.zero_add, zCN g4]; exact h1, h2⟩
theorem zUk {b o : Nat} {cs : List E} (h : ∀ j e, cs[j]? = some e -> ∃ u, C b (o + j) u /\ RepE C e u) (hC : ∀ b o u, C b o u -> w.cell? ⟨b, o, none⟩ = some u) : zFP p C w b o (Cs.es cs).d0 := by
 intro j x hx
 simp only [Cs.d0, List.getElem?_map, Option.map_eq_some_iff] at hx
 obtain ⟨e, h1, rfl⟩ := hx
 obtain ⟨u, h2, h3⟩ := h j e h1
 exact ⟨u, hC _ _ _ h2, h3⟩
theorem zEp {z : Nat} : ∀ (xs : List (List E)), (∀ cs ∈ xs, cs.length = z) -> ∀ i j, j < z -> xs.flatten[i * z + j]? = (xs.getD i [])[j]?
 | [], _, i, j, _ => by simp
 | x :: xs, h, i, j, hj => by
  have hx : x.length = z := h x (by simp)
  cases i with
  | zero => simp [hj, hx, List.getElem?_append_left]
  | succ i =>
   have ih := zEp xs (fun cs hc => h cs (by simp [hc])) i j hj
   rw [List.flatten_cons, List.getElem?_append_right (by rw [hx, Nat.succ_mul]; omega)]
   have : (i + 1) * z + j - x.length = i * z + j := by rw [hx, Nat.succ_mul]; omega
   rw [this, ih]
   simp
theorem zK1 {id z : Nat} {xs : List (List E)} {ver pub g : Nat} (hR : RM X p w) (hb : p.mem id = some ⟨ver, .row z xs, pub⟩) (hg : p.μ id = some g) (i : Nat) :
  zFP p (CW X p w) w g (i * z) (Cs.es (xs.getD i [])).d0 := by
 have hm := zE8 hR hb hg
 have hok : (Body.row z xs).ok := by
  have := hR.blk id _ hb
  simp only [zAP, hg] at this
  exact this.1
 intro j x hx
 simp only [Cs.d0, List.getElem?_map, Option.map_eq_some_iff] at hx
 obtain ⟨e, h1, rfl⟩ := hx
 have hj : j < z := by
  have hjl := (List.getElem?_eq_some_iff.1 h1).1
  by_cases hi : i < xs.length
  ·rw [List.getD_eq_getElem?_getD, List.getElem?_eq_getElem hi] at hjl
   simp only [Option.getD_some] at hjl
   rw [hok.2 _ (List.getElem_mem hi)] at hjl
   exact hjl
  ·simp [List.getD_eq_getElem?_getD, List.getElem?_eq_none (Nat.le_of_not_lt hi)] at hjl
 have := zEp xs hok.2 i j hj
 obtain ⟨u, h2, h3⟩ := hm (i * z + j) (.e e) (by
  show (xs.flatten.map D0.e)[i * z + j]? = _
  rw [List.getElem?_map, this, h1]; rfl)
 exact ⟨u, by rw [Nat.zero_add] at h2; exact h2, h3⟩
theorem zHO (hT : TOk P T) (hR : RM X p w) {t : Nat} {ti : TI} (ht : T t = some ti) {dx d : D} {vx : Value} {φ : Prop} (hx : zAy p (CW X p w) w dx vx) (h : zEN ti p.mem dx = some (φ, d)) (hφ : φ) :
  ∃ v, (Instr.loadAt t vx).run P w = .ok v w /\ zAy p (CW X p w) w d v := by
 have hti := hT _ _ ht
 unfold zEN at h
 split at h
 ·rename_i cs
  simp only [Option.some.injEq] at h
  obtain ⟨b, o, rfl, hc⟩ := hx
  have := zGP (p := p) (C := CW X p w) (b := b) hti (c := .es cs) (o := o) (k := 0) (zUk (p := p) hc fun _ _ _ h => h.1) (by rw [h]; exact hφ)
  rw [h] at this
  exact this
 ·rename_i id ver off
  split at h
  ·rename_i bv c pub hb
   cases hv : Nat.beq bv ver with
   | false => simp [hv] at h
   | true =>
    obtain rfl := Nat.eq_of_beq_eq_true hv
    simp only [hv, cond_true, Option.some.injEq] at h
    obtain ⟨blk, h1, h2, h3⟩ := hx.2
    rw [hb] at h1
    cases h1
    obtain ⟨g, hg, rfl⟩ := h3 rfl
    have hm := zE8 hR hb hg
    have := zGP hti (c := c) (o := 0) (k := off) hm (by rw [h]; exact hφ)
    rw [h] at this
    simpa using this
  ·cases h
 ·rename_i id ver i j
  split at h
  ·rename_i bv z xs pub hb
   cases hv : Nat.beq bv ver with
   | false => simp [hv] at h
   | true =>
    obtain rfl := Nat.eq_of_beq_eq_true hv
    simp only [hv, cond_true, Option.some.injEq, Prod.mk.injEq] at h
    obtain ⟨rfl, rfl⟩ := h
    obtain ⟨_, blk, h1, h2, h3⟩ := hx
    rw [hb] at h1
    cases h1
    obtain ⟨g, hg, rfl⟩ := h3 rfl
    exact zGP hti (zK1 hR hb hg i) hφ
  ·cases h
 ·cases h
theorem zCW {z n : Nat} {cs : List E} : (zBo z n cs).length = n := by simp [zBo]
theorem zEP {z n : Nat} {cs : List E} {i : Nat} {ch : List E} (h : (zBo z n cs)[i]? = some ch) : i < n /\ ch = (cs.drop (i * z)).take z := by
 have hi := (List.getElem?_eq_some_iff.1 h).1
 rw [zCW] at hi
 refine ⟨hi, ?_⟩
 unfold zBo at h
 rw [List.getElem?_map, List.getElem?_range hi] at h
 exact (Option.some.inj h).symm
theorem zG9 {z n : Nat} {cs : List E} (h : n * z <= cs.length) : ∀ c ∈ zBo z n cs, c.length = z := by
 intro c hc
 obtain ⟨i, hi⟩ := List.getElem?_of_mem hc
 obtain ⟨h1, rfl⟩ := zEP hi
 have : (i + 1) * z <= n * z := Nat.mul_le_mul_right _ h1
 rw [Nat.succ_mul] at this
 rw [List.length_take, List.length_drop]
 omega
theorem zKj {z n : Nat} {cs : List E} : zBo z (n + 1) cs = zBo z n cs ++ [(cs.drop (n * z)).take z] := by
 unfold zBo
 rw [List.range_succ, List.map_append]
 rfl
theorem zD6 {z : Nat} {cs : List E} : ∀ n, n * z <= cs.length -> (zBo z n cs).flatten = cs.take (n * z)
 | 0, _ => by simp [zBo]
 | n + 1, h => by
  have h' : n * z <= cs.length := by rw [Nat.succ_mul] at h; omega
  rw [zKj, List.flatten_append, zD6 n h', Nat.succ_mul, List.take_add]
  simp
theorem zI5 {id ver pub g : Nat} {cs : List E} (hR : RM X p w) (hb : p.mem id = some ⟨ver, .box (.es cs), pub⟩) (hg : p.μ id = some g) (off m : Nat) :
  zFP p (CW X p w) w g off (((cs.drop off).take m).map .e) := by
 have h := (zE8 hR hb hg).sub off m
 rw [Nat.zero_add] at h
 have e : (((Blk.mk ver (.box (.es cs)) pub).cells.drop off).take m) = ((cs.drop off).take m).map D0.e := by
  simp only [Blk.cells, Body.cells, Cs.d0, List.map_drop, List.map_take]
 rw [e] at h
 exact h
end
section
variable {P : Program} {T : Nat -> Option TI} {X : Ctx} {p : Rho} {w : World} {C : Nat -> Nat -> Value -> Prop}
theorem zNx (hT : TOk P T) {s f : Nat} {dx d : D} {vx : Value} {φ : Prop} (hx : zAy p C w dx vx) (h : zIU T s f dx = some (φ, d))
  (hlive : ∀ id ver off, dx = .one (.ptr id ver off) -> ∃ blk, p.mem id = some blk /\ ver = blk.ver)
  (hlive' : ∀ id ver i j, dx = .one (.rptr id ver i j) -> ∃ blk, p.mem id = some blk /\ ver = blk.ver) :
  ∃ v, (Instr.fieldAt s vx f).run P w = .ok v w /\ zAy p C w d v := by
 unfold zIU at h
 split at h
 ·rename_i sz by_ fs z hs
  obtain ⟨F, hF, hfs⟩ := zDg hT hs
  split at h
  ·rename_i o ft hf
   obtain ⟨fd, hfd, rfl, rfl⟩ := zIM hfs hf
   split at h
   ·rename_i ti hti
    cases hz : Nat.beq ti.size 0 with
    | true => simp [hz] at h
    | false =>
     simp only [hz, cond_false] at h
     have hne : ti.size ≠ 0 := fun e => by rw [e] at hz; cases hz
     have hsz := (hT _ _ hti).size w
     have hrun : ∀ b o, (Instr.fieldAt s (.pointer (some ⟨b, o, none⟩)) f).run P w = .ok (.pointer (some ⟨b, o + fd.offset, none⟩)) w := fun b o => by
      simp [Instr.fieldAt, run_underlying hF, hfd, Instr.sureAddr, fieldPlace, hsz, hne, zCz]
     split at h
     ·rename_i id ver off
      cases h
      obtain ⟨h0, blk, h1, h2, h3⟩ := hx
      obtain ⟨blk', k1, k2⟩ := hlive _ _ _ rfl
      rw [h1] at k1
      cases k1
      obtain ⟨g, hg, rfl⟩ := h3 k2
      exact ⟨_, hrun g off, rfl, blk, h1, h2, fun _ => ⟨g, hg, rfl⟩⟩
     ·rename_i cs
      cases h
      obtain ⟨b, o, rfl, hc⟩ := hx
      refine ⟨_, hrun b o, b, o + fd.offset, rfl, fun j e he => ?_⟩
      rw [List.getElem?_drop] at he
      rw [Nat.add_assoc]
      exact hc _ e he
     ·rename_i id ver i j
      cases h
      obtain ⟨h0, blk, h1, h2, h3⟩ := hx
      obtain ⟨blk', k1, k2⟩ := hlive' _ _ _ _ rfl
      rw [h1] at k1
      cases k1
      obtain ⟨g, hg, rfl⟩ := h3 k2
      refine ⟨_, hrun g _, rfl, blk, h1, h2, fun _ => ⟨g, hg, ?_⟩⟩
      rw [Nat.add_assoc]
     ·cases h
   ·cases h
  ·cases h
 ·cases h
theorem zLg (hT : TOk P T) {s f : Nat} {dx d : D} {vx : Value} {φ : Prop} (hx : zAy p C w dx vx) (h : zG3 T s f dx = some (φ, d)) (hφ : φ) :
  ∃ v, (Instr.field s vx f).run P w = .ok v w /\ zAy p C w d v := by
 unfold zG3 at h
 split at h
 ·rename_i sz by_ fs z hs
  obtain ⟨F, hF, hfs⟩ := zDg hT hs
  split at h
  ·rename_i o ft hf
   obtain ⟨fd, hfd, rfl, rfl⟩ := zIM hfs hf
   split at h
   ·rename_i ti c hti
    simp only [Option.some.injEq] at h
    obtain ⟨vs, rfl, hr⟩ := hx
    obtain ⟨v, h1, h2⟩ := zDk (hT _ _ hti) hr (o := fd.offset) (by rw [h]; exact hφ)
    rw [h] at h2
    exact ⟨v, by simp [Instr.field, run_underlying hF, hfd, asAgg, h1], h2⟩
   ·cases h
  ·cases h
 ·cases h
theorem zDb {xs : List (List E)} {v : Value} (h : RepE C (.sl xs) v) : ∃ A n cap z b o, ∃ U : Nat -> Nat -> Value, v = .slice A n cap /\ xs.length = n /\ n <= cap /\ cap <= maxLen /\ (0 < n -> A = some ⟨b, o, none⟩) /\ (∀ cs ∈ xs, cs.length = z) ∧
  (∀ i cs j e, xs[i]? = some cs -> cs[j]? = some e -> C b (o + i * z + j) (U i j)) /\ (∀ i cs j e, xs[i]? = some cs -> cs[j]? = some e -> RepE C e (U i j)) := by
 cases h with
 | sl A n cap z b o U xs hn hc hm hA hz hC hr => exact ⟨A, n, cap, z, b, o, U, rfl, hn, hc, hm, hA, hz, hC, hr⟩
theorem getD_some {α : Type} {xs : List α} {i : Nat} {d : α} (h : i < xs.length) : xs[i]? = some (xs.getD i d) := by simp [h]
theorem zK7 (hT : TOk P T) {t : Nat} {dx di d : D} {vx vi : Value} {φ : Prop} (hx : zAy p C w dx vx) (hi : zAy p C w di vi) (h : zDt T p.mem t dx di = some (φ, d)) (hφ : φ)
  (hlive : ∀ id ver off, dx = .one (.ptr id ver off) -> ∃ blk, p.mem id = some blk /\ ver = blk.ver)
  (hlive' : ∀ id ver i j, dx = .one (.rptr id ver i j) -> ∃ blk, p.mem id = some blk /\ ver = blk.ver) :
  ∃ v, (Instr.indexAt t vx vi).run P w = .ok v w /\ zAy p C w d v := by
 unfold zDt at h
 split at h
 ·rename_i k n
  obtain rfl := zCu hi
  split at h
  ·rename_i a b e z ht
   have hu := zBI hT ht
   split at h
   ·rename_i ti xs hti
    cases h
    have hsz := (hT _ _ hti).size w
    obtain ⟨A, m, cap, z, b, o, U, rfl, hn, hc, hm, hA, hz, hC, hr⟩ := zDb hx
    obtain ⟨h0, h1, h2⟩ := hφ
    have hlt : n.toNat < xs.length := by omega
    have hg := getD_some (d := []) hlt
    have hz2 : z = ti.size := by rw [<-h2]; exact (hz _ (List.mem_of_getElem? hg)).symm
    have hAe := hA (by omega)
    subst hAe
    refine ⟨.pointer (some ⟨b, o + n.toNat * ti.size, none⟩), ?_, b, _, rfl, fun j e he => ⟨U n.toNat j, ?_, hr _ _ _ _ hg he⟩⟩
    ·simp [Instr.indexAt, asIntOf, run_underlying hu, h0, show n < (m : Int) by omega, hsz, zCz]
    ·have := hC _ _ _ _ hg he
     rw [hz2] at this
     exact this
   ·rename_i ti id ver hti
    have hsz := (hT _ _ hti).size w
    split at h
    ·rename_i bv z xs pub hb
     cases hv : (Nat.beq bv ver && Nat.beq z ti.size) with
     | false => simp [hv] at h
     | true =>
      simp only [hv, cond_true, Option.some.injEq, Prod.mk.injEq] at h
      obtain ⟨rfl, rfl⟩ := h
      simp only [Bool.and_eq_true] at hv
      obtain rfl := Nat.eq_of_beq_eq_true hv.1
      have hz := Nat.eq_of_beq_eq_true hv.2
      obtain ⟨_, blk, h1, h2, h3⟩ := hx
      rw [hb] at h1
      cases h1
      obtain ⟨z', n', q1, q2, q3⟩ := h3 rfl
      simp only [Body.shape, Prod.mk.injEq] at q1
      obtain ⟨rfl, rfl⟩ := q1
      rcases q3 with ⟨q3, _⟩ | ⟨g, cap, g1, rfl, g3, g4, g5⟩
      ·omega
      ·refine ⟨.pointer (some ⟨g, n.toNat * ti.size, none⟩), ?_, rfl, _, hb, Nat.le_refl _, fun _ => ⟨g, g1, ?_⟩⟩
       ·simp [Instr.indexAt, asIntOf, run_underlying hu, hφ.1, hφ.2, hsz, zCz]
       ·simp [Body.shape, hz]
    ·cases h
   ·rename_i ti id ver off z m hti
    have hsz := (hT _ _ hti).size w
    split at h
    ·rename_i bv bd pub hb
     cases hv : (Nat.beq bv ver && Nat.beq z ti.size) with
     | false => simp [hv] at h
     | true =>
      simp only [hv, cond_true, Option.some.injEq, Prod.mk.injEq] at h
      obtain ⟨rfl, rfl⟩ := h
      simp only [Bool.and_eq_true] at hv
      obtain rfl := Nat.eq_of_beq_eq_true hv.1
      obtain ⟨_, blk, h1, h2, h3⟩ := hx
      rw [hb] at h1
      cases h1
      obtain ⟨z0, q1, g, cap, g1, rfl, g3, g4⟩ := h3 rfl
      refine ⟨.pointer (some ⟨g, off + n.toNat * ti.size, none⟩), ?_, rfl, _, hb, Nat.le_refl _, fun _ => ⟨g, g1, rfl⟩⟩
      simp [Instr.indexAt, asIntOf, run_underlying hu, hφ.1, hφ.2, hsz, zCz]
    ·cases h
   ·cases h
  ·rename_i a b len e z ht
   have hu := zH4 hT ht
   have hrun : ∀ (ti : TI), T e = some ti -> (0 <= n /\ n < (len : Int)) -> ∀ b o, (Instr.indexAt t (.pointer (some ⟨b, o, none⟩)) (.int k n)).run P w = .ok (.pointer (some ⟨b, o + n.toNat * ti.size, none⟩)) w := fun ti hti hb b o => by
    have hsz := (hT _ _ hti).size w
    simp [Instr.indexAt, asIntOf, run_underlying hu, hb.1, hb.2, hsz, zCz, Instr.sureAddr]
   split at h
   ·rename_i ti cs hti
    cases h
    obtain ⟨b, o, rfl, hc⟩ := hx
    refine ⟨_, hrun ti hti hφ b o, b, _, rfl, fun j e he => ?_⟩
    rw [List.getElem?_drop] at he
    rw [Nat.add_assoc]
    exact hc _ e he
   ·rename_i ti id ver off hti
    cases h
    obtain ⟨h0, blk, h1, h2, h3⟩ := hx
    obtain ⟨blk', k1, k2⟩ := hlive _ _ _ rfl
    rw [h1] at k1
    cases k1
    obtain ⟨g, hg, rfl⟩ := h3 k2
    exact ⟨_, hrun ti hti hφ g off, rfl, blk, h1, h2, fun _ => ⟨g, hg, rfl⟩⟩
   ·rename_i ti id ver i j hti
    cases h
    obtain ⟨h0, blk, h1, h2, h3⟩ := hx
    obtain ⟨blk', k1, k2⟩ := hlive' _ _ _ _ rfl
    rw [h1] at k1
    cases k1
    obtain ⟨g, hg, rfl⟩ := h3 k2
    refine ⟨_, hrun ti hti hφ g _, rfl, blk, h1, h2, fun _ => ⟨g, hg, ?_⟩⟩
    rw [Nat.add_assoc]
   ·cases h
  ·cases h
 ·cases h
theorem zK6 (hT : TOk P T) {t : Nat} {dx di d : D} {vx vi : Value} {φ : Prop} (hx : zAy p C w dx vx) (hi : zAy p C w di vi) (h : zG1 T t dx di = some (φ, d)) (hφ : φ) :
  ∃ v, (Instr.index t vx vi).run P w = .ok v w /\ zAy p C w d v := by
 unfold zG1 at h
 split at h
 ·rename_i k n
  obtain rfl := zCu hi
  split at h
  ·rename_i a b len e z c ht
   have hu := zH4 hT ht
   split at h
   ·rename_i ti hti
    simp only [Option.some.injEq, Prod.mk.injEq] at h
    obtain ⟨rfl, rfl⟩ := h
    have hsz := (hT _ _ hti).size w
    obtain ⟨vs, rfl, hr⟩ := hx
    obtain ⟨v, h1, h2⟩ := zDk (hT _ _ hti) hr hφ.2.2
    exact ⟨v, by simp [Instr.index, asIntOf, run_underlying hu, hφ.1, hφ.2.1, hsz, h1], h2⟩
   ·cases h
  ·rename_i a b z s ht
   have hu := zEZ hT ht
   obtain rfl := zCu hx
   cases h
   have hlt : n.toNat < s.size := by omega
   have hge : s[n.toNat]? = some s[n.toNat] := by simp [hlt]
   refine ⟨.int .u8 (s[n.toNat].toNat : Int), by simp [Instr.index, asIntOf, run_underlying hu, hφ.1, hge], ?_⟩
   have he : s.data.toList.getD n.toNat 0 = s[n.toNat] := by
    have : n.toNat < s.data.toList.length := by simpa using hlt
    rw [List.getD_eq_getElem?_getD, List.getElem?_eq_getElem this]
    rfl
   rw [he]
   exact zAF rfl
  ·cases h
 ·cases h
theorem zQH (hT : TOk P T) {t : Nat} {dx d : D} {vx : Value} {φ : Prop} (hx : zAy p C w dx vx) (h : zHZ T p.mem t dx = some (φ, d)) (ty : TypeId) :
  ∃ v, (Builtin.len_ #[t] ty #[vx]).run P w = .ok v w /\ zAy p C w d v := by
 unfold zHZ at h
 split at h
 ·rename_i a b e z ht
  have hu := zBI hT ht
  have hrun : ∀ A n c, (Builtin.len_ #[t] ty #[.slice A n c]).run P w = .ok (.int .i64 (n : Int)) w := fun A n c => by simp [Builtin.len_, run_underlying hu, goInt]
  split at h
  ·rename_i xs
   cases h
   obtain ⟨A, m, cap, z, b, o, U, rfl, hn, _⟩ := zDb hx
   exact ⟨_, hrun _ _ _, by rw [hn]; exact zAF rfl⟩
  ·cases h
   obtain rfl : vx = .slice none 0 0 := hx
   exact ⟨_, hrun _ _ _, zAF rfl⟩
  ·rename_i id ver
   split at h
   ·rename_i bv z xs pub hb
    cases hv : Nat.beq bv ver with
    | false => simp [hv] at h
    | true =>
     obtain rfl := Nat.eq_of_beq_eq_true hv
     simp only [hv, cond_true, Option.some.injEq, Prod.mk.injEq] at h
     obtain ⟨rfl, rfl⟩ := h
     obtain ⟨_, blk, h1, h2, h3⟩ := hx
     rw [hb] at h1
     cases h1
     obtain ⟨z', n', q1, q2, q3⟩ := h3 rfl
     simp only [Body.shape, Prod.mk.injEq] at q1
     obtain ⟨rfl, rfl⟩ := q1
     rcases q3 with ⟨q3, A, rfl⟩ | ⟨g, cap, g1, rfl, g3, g4, g5⟩
     ·exact ⟨_, hrun _ _ _, by rw [q3]; exact zAF rfl⟩
     ·exact ⟨_, hrun _ _ _, zAF rfl⟩
   ·cases h
  ·rename_i id ver off z n
   split at h
   ·rename_i bv body pub hb
    cases hv : Nat.beq bv ver with
    | false => simp [hv] at h
    | true =>
     obtain rfl := Nat.eq_of_beq_eq_true hv
     simp only [hv, cond_true, Option.some.injEq, Prod.mk.injEq] at h
     obtain ⟨rfl, rfl⟩ := h
     obtain ⟨_, blk, h1, h2, h3⟩ := hx
     rw [hb] at h1
     cases h1
     obtain ⟨_, _, g, cap, _, rfl, _⟩ := h3 rfl
     exact ⟨_, hrun _ _ _, zAF rfl⟩
   ·cases h
  ·cases h
 ·rename_i a b z ht
  have hu := zEZ hT ht
  split at h
  ·rename_i s
   cases h
   obtain rfl := zCu hx
   exact ⟨.int .i64 (s.size : Int), by simp [Builtin.len_, run_underlying hu, goInt], zAF rfl⟩
  ·cases h
 ·cases h
end
end Go.Proofs.YtcdifgacoleckaaGreatDoor.Ab
