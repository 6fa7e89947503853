/- The words of this seat's proofs, and their laws: what the cells of an argument or of a result read as ('Cd': a codec), how that reading is kept, how an argument of a law opens to it, what its bulk bounds. No condition. -/
import Derived.Test.YtcdifgacoleckaaDoorRows
import Derived.WalkKit
import Derived.ProofKit
import Derived.OpenShut
import Derived.ShutString
import Derived.ChangeOld
import Derived.Below
import Derived.JoinedCond
import Derived.Deep.Slices
import Derived.Lib.Hide
import Derived.Deep.Draws
namespace Go.Proofs.YtcdifgacoleckaaDoor
open Go.ChangeShapes Go.WideShapes Go.ChangeAt Go.RowKit Go.Deep

/-- the cells cs lie in block b from place o on -/
def At (w : World) (b o : Nat) (cs : List Value) : Prop := ∀ j u, cs[j]? = some u → w.cell? ⟨b, o + j, none⟩ = some u

theorem At.keep {w w' : World} {S : Nat → Prop} {b o : Nat} {cs : List Value} (h : At w b o cs) (hb : S b) (hk : ∀ p : Addr, S p.block → w'.cell? p = w.cell? p) : At w' b o cs :=
  fun j u hu => (hk _ hb).trans (h j u hu)

/-- what cells read as: 'size' cells; S: the blocks that the reading may lead to: kept where they are kept -/
structure Cd (α : Type) where
  size : Nat
  rel : World → (Nat → Prop) → List Value → α → Prop
  bulk : α → Nat
  len : ∀ {w : World} {S : Nat → Prop} {cs : List Value} {x : α}, rel w S cs x → cs.length = size
  keep : ∀ {w w' : World} {S : Nat → Prop} {cs : List Value} {x : α}, rel w S cs x → (∀ p : Addr, S p.block → w'.cell? p = w.cell? p) → rel w' S cs x
  more : ∀ {w : World} {S S' : Nat → Prop} {cs : List Value} {x : α}, rel w S cs x → (∀ b, S b → S' b) → rel w S' cs x

section
variable {α β : Type}
/-- all blocks below B -/
def lt (B : Nat) : Nat → Prop := fun b => b < B
theorem Cd.below (c : Cd α) {w w' : World} {B : Nat} {cs : List Value} {x : α} (h : c.rel w (lt B) cs x) (hb : Below B w w') : c.rel w' (lt B) cs x :=
  c.keep h fun _ hp => hb.cell hp
theorem Cd.up (c : Cd α) {w : World} {B B' : Nat} {cs : List Value} {x : α} (h : c.rel w (lt B) cs x) (hB : B ≤ B') : c.rel w (lt B') cs x :=
  c.more h fun b hb => by unfold lt at *; omega

/-- an integer of kind k -/
def cInt (k : IntKind) : Cd Int where
  size := 1
  rel _ _ cs x := cs = [.int k x] ∧ (Lit.int k x).wf = true
  bulk _ := 1
  len h := by rw [h.1]; rfl
  keep h _ := h
  more h _ := h

/-- a byte -/
def cByte : Cd UInt8 where
  size := 1
  rel _ _ cs x := cs = [.int .u8 (x.toNat : Int)]
  bulk _ := 1
  len h := by rw [h]; rfl
  keep h _ := h
  more h _ := h

def cBool : Cd Bool where
  size := 1
  rel _ _ cs x := cs = [.bool x]
  bulk _ := 1
  len h := by rw [h]; rfl
  keep h _ := h
  more h _ := h

def cStr : Cd ByteArray where
  size := 1
  rel _ _ cs x := cs = [.string x] ∧ x.size ≤ maxLen
  bulk x := x.size + 1
  len h := by rw [h.1]; rfl
  keep h _ := h
  more h _ := h

/-- the n elements of a slice that begins at A -/
def SlR (c : Cd α) (w : World) (S : Nat → Prop) (A : Option Addr) (n : Nat) (xs : List α) : Prop :=
  xs.length = n ∧ (0 < n → ∃ b o, A = some ⟨b, o, none⟩ ∧ S b ∧ ∀ i x, xs[i]? = some x → ∃ cs, At w b (o + i * c.size) cs ∧ c.rel w S cs x)

theorem SlR.keep {c : Cd α} {w w' : World} {S : Nat → Prop} {A : Option Addr} {n : Nat} {xs : List α} (h : SlR c w S A n xs) (hk : ∀ p : Addr, S p.block → w'.cell? p = w.cell? p) : SlR c w' S A n xs :=
  ⟨h.1, fun hn => by
    obtain ⟨b, o, e, hb, hx⟩ := h.2 hn
    refine ⟨b, o, e, hb, fun i x hi => ?_⟩
    obtain ⟨cs, h1, h2⟩ := hx i x hi
    exact ⟨cs, h1.keep hb hk, c.keep h2 hk⟩⟩
theorem SlR.more {c : Cd α} {w : World} {S S' : Nat → Prop} {A : Option Addr} {n : Nat} {xs : List α} (h : SlR c w S A n xs) (hS : ∀ b, S b → S' b) : SlR c w S' A n xs :=
  ⟨h.1, fun hn => by
    obtain ⟨b, o, e, hb, hx⟩ := h.2 hn
    refine ⟨b, o, e, hS b hb, fun i x hi => ?_⟩
    obtain ⟨cs, h1, h2⟩ := hx i x hi
    exact ⟨cs, h1, c.more h2 hS⟩⟩
theorem SlR.up {c : Cd α} {w : World} {B B' : Nat} {A : Option Addr} {n : Nat} {xs : List α} (h : SlR c w (lt B) A n xs) (hB : B ≤ B') : SlR c w (lt B') A n xs :=
  h.more fun b hb => by unfold lt at *; omega
theorem SlR.below {c : Cd α} {w w' : World} {B : Nat} {A : Option Addr} {n : Nat} {xs : List α} (h : SlR c w (lt B) A n xs) (hb : Below B w w') : SlR c w' (lt B) A n xs :=
  h.keep fun _ hp => hb.cell hp
theorem SlR.nil (c : Cd α) (w : World) (S : Nat → Prop) (A : Option Addr) : SlR c w S A 0 ([] : List α) := ⟨rfl, fun h => absurd h (by omega)⟩

theorem SlR.byteAt {w : World} {S : Nat → Prop} {A : Option Addr} {n : Nat} {xs : List UInt8} (h : SlR cByte w S A n xs) {i : Nat} (hi : i < n) :
    ∃ b o, A = some ⟨b, o, none⟩ ∧ S b ∧ ∃ x, xs[i]? = some x ∧ w.cell? ⟨b, o + i, none⟩ = some (.int .u8 (x.toNat : Int)) := by
  obtain ⟨b, o, e, hb, hx⟩ := h.2 (by omega)
  have hl : i < xs.length := by have := h.1; omega
  obtain ⟨cs, hat, rfl⟩ := hx i xs[i] (List.getElem?_eq_getElem hl)
  refine ⟨b, o, e, hb, xs[i], List.getElem?_eq_getElem hl, ?_⟩
  have := hat 0 (.int .u8 (xs[i].toNat : Int)) rfl
  simpa [cByte] using this

theorem SlR.intAt {k : IntKind} {w : World} {S : Nat → Prop} {A : Option Addr} {n : Nat} {xs : List Int} (h : SlR (cInt k) w S A n xs) {i : Nat} (hi : i < n) :
    ∃ b o, A = some ⟨b, o, none⟩ ∧ S b ∧ ∃ x, xs[i]? = some x ∧ w.cell? ⟨b, o + i, none⟩ = some (.int k x) ∧ (Lit.int k x).wf = true := by
  obtain ⟨b, o, e, hb, hx⟩ := h.2 (by omega)
  have hl : i < xs.length := by have := h.1; omega
  obtain ⟨cs, hat, rfl, hw⟩ := hx i xs[i] (List.getElem?_eq_getElem hl)
  refine ⟨b, o, e, hb, xs[i], List.getElem?_eq_getElem hl, ?_, hw⟩
  have := hat 0 (.int k xs[i]) rfl
  simpa [cInt] using this

/-- a slice -/
def cSlice (c : Cd α) : Cd (List α) where
  size := 1
  rel w S cs xs := ∃ A n cap, cs = [.slice A n cap] ∧ n ≤ cap ∧ cap ≤ maxLen ∧ SlR c w S A n xs
  bulk xs := (xs.map c.bulk).sum + 1
  len h := by obtain ⟨A, n, cap, rfl, _⟩ := h; rfl
  keep h hk := by obtain ⟨A, n, cap, rfl, h1, h2, h3⟩ := h; exact ⟨A, n, cap, rfl, h1, h2, h3.keep hk⟩
  more h hB := by obtain ⟨A, n, cap, rfl, h1, h2, h3⟩ := h; exact ⟨A, n, cap, rfl, h1, h2, h3.more hB⟩

/-- an array by value -/
def cArr (n : Nat) (c : Cd α) : Cd (List α) where
  size := n * c.size
  rel w S cs xs := cs.length = n * c.size ∧ xs.length = n ∧ ∀ i x, xs[i]? = some x → c.rel w S ((cs.drop (i * c.size)).take c.size) x
  bulk xs := (xs.map c.bulk).sum + 1
  len h := h.1
  keep h hk := ⟨h.1, h.2.1, fun i x hx => c.keep (h.2.2 i x hx) hk⟩
  more h hB := ⟨h.1, h.2.1, fun i x hx => c.more (h.2.2 i x hx) hB⟩

/-- the fields of a struct, one behind the other -/
def cEnd : Cd Unit where
  size := 0
  rel _ _ cs _ := cs = []
  bulk _ := 0
  len h := by rw [h]; rfl
  keep h _ := h
  more h _ := h
def cCons (c : Cd α) (d : Cd β) : Cd (α × β) where
  size := c.size + d.size
  rel w S cs x := ∃ l r, cs = l ++ r ∧ c.rel w S l x.1 ∧ d.rel w S r x.2
  bulk x := c.bulk x.1 + d.bulk x.2
  len h := by obtain ⟨l, r, rfl, h1, h2⟩ := h; rw [List.length_append, c.len h1, d.len h2]
  keep h hk := by obtain ⟨l, r, rfl, h1, h2⟩ := h; exact ⟨l, r, rfl, c.keep h1 hk, d.keep h2 hk⟩
  more h hB := by obtain ⟨l, r, rfl, h1, h2⟩ := h; exact ⟨l, r, rfl, c.more h1 hB, d.more h2 hB⟩
/-- a struct: its bulk is one more than its fields' -/
def cStruct (c : Cd α) : Cd α := { c with bulk := fun x => c.bulk x + 1 }
end

theorem drewN_below {B : Nat} {a w : World} (h : Below B a w) (n : Nat) : Below B a (w.drewN n) := ⟨h.os, h.tape, h.output, h.size, h.block⟩

/-! ### Endings -/
theorem ret1 {k : IntKind} {a b : Int} (h : a = b) : Ending.returned (.int k a) = .returned (.int k b) := by rw [h]
theorem retB {a b : Bool} (h : a = b) : Ending.returned (.bool a) = .returned (.bool b) := by rw [h]
theorem ret2 {k k' : IntKind} {a b c d : Int} (h : a = b) (h' : c = d) : Ending.returned (.tuple #[.int k a, .int k' c]) = .returned (.tuple #[.int k b, .int k' d]) := by rw [h, h']

theorem bulk_bytes (xs : List UInt8) : (cSlice cByte).bulk xs = xs.length + 1 := by
  have : ∀ xs : List UInt8, (xs.map cByte.bulk).sum = xs.length := by
    intro xs
    induction xs with
    | nil => rfl
    | cons x xs ih => rw [List.map_cons, List.sum_cons, ih, List.length_cons]; simp only [cByte]; omega
  show (xs.map cByte.bulk).sum + 1 = _
  rw [this]
/-! ### How an argument opens -/
section
variable {α β : Type} {H : Type} {enc : TypeId × Value → H} {P : Program} {W : World}

/-- every reading of type t is one of the codec c, of no more bulk -/
def Opens (P : Program) (t : TypeId) (c : Cd α) : Prop :=
  P.cellsOf t = c.size ∧ ∀ (H : Type) (enc : TypeId × Value → H) (W : World) (fuel : Nat) (cs : List Value) (x : DataW H × List MemPlace),
    DataW.trod enc P W 0 (fun _ => true) true fuel t cs = some x → ∃ a, c.rel W (lt W.heap.size) cs a ∧ c.bulk a ≤ Rows.uptoBulk x.1

theorem opens_int {t : TypeId} {k : IntKind} (ht : P.underlying t = some (.int k)) (hc : P.cellsOf t = 1) : Opens P t (cInt k) :=
  ⟨hc, fun _ _ _ _ _ _ h => by
    obtain ⟨n, rfl, rfl, hw⟩ := DataW.trod_int ht h
    exact ⟨n, ⟨rfl, hw⟩, by simp [cInt, Rows.uptoBulk]⟩⟩
theorem opens_byte {t : TypeId} (ht : P.underlying t = some (.int .u8)) (hc : P.cellsOf t = 1) : Opens P t cByte :=
  ⟨hc, fun _ _ _ _ _ _ h => by
    obtain ⟨n, rfl, rfl, hw⟩ := DataW.trod_int ht h
    have hb : 0 ≤ n ∧ n ≤ 255 := by simpa [Lit.wf, IntKind.min, IntKind.max, IntKind.signed, IntKind.bits] using hw
    refine ⟨UInt8.ofNat n.toNat, ?_, by simp [cByte, Rows.uptoBulk]⟩
    have e : ((UInt8.ofNat n.toNat).toNat : Int) = n := by
      rw [UInt8.toNat_ofNat']
      omega
    simp only [cByte, e]⟩
theorem opens_bool {t : TypeId} (ht : P.underlying t = some .bool) (hc : P.cellsOf t = 1) : Opens P t cBool :=
  ⟨hc, fun _ _ _ _ _ _ h => by
    obtain ⟨n, rfl, rfl⟩ := DataW.trod_bool ht h
    exact ⟨n, rfl, by simp [cBool, Rows.uptoBulk]⟩⟩
theorem opens_str {t : TypeId} (ht : P.underlying t = some .string) (hc : P.cellsOf t = 1) : Opens P t cStr :=
  ⟨hc, fun _ _ _ _ _ _ h => by
    obtain ⟨s, rfl, rfl, hm⟩ := DataW.trod_string ht h
    refine ⟨s, ⟨rfl, hm⟩, ?_⟩
    simp [cStr, Rows.uptoBulk]⟩

theorem uptoBulkAll_append {H : Type} (l r : List (DataW H)) : Rows.uptoBulkAll (l ++ r) = Rows.uptoBulkAll l + Rows.uptoBulkAll r := by
  induction l with
  | nil => simp [Rows.uptoBulkAll]
  | cons x l ih => simp only [List.cons_append, Rows.uptoBulkAll, ih]; omega

theorem pick {n : Nat} {p : Nat → α → Prop} (h : ∀ i, i < n → ∃ a, p i a) : ∃ xs : List α, xs.length = n ∧ ∀ i x, xs[i]? = some x → p i x := by
  induction n with
  | zero => exact ⟨[], rfl, fun i x hx => by simp at hx⟩
  | succ n ih =>
    obtain ⟨xs, hl, hx⟩ := ih fun i hi => h i (by omega)
    obtain ⟨a, ha⟩ := h n (by omega)
    refine ⟨xs ++ [a], by simp [hl], fun i x hi => ?_⟩
    by_cases hin : i < n
    · rw [List.getElem?_append_left (by omega)] at hi
      exact hx i x hi
    · rw [List.getElem?_append_right (by omega), hl] at hi
      by_cases he : i = n
      · subst he
        simp at hi
        subst hi
        exact ha
      · have : i - n = (i - n - 1) + 1 := by omega
        rw [this] at hi
        simp at hi

theorem bulk_range {H : Type} {c : Cd α} (xs : List α) (D : Nat → DataW H) (h : ∀ i x, xs[i]? = some x → c.bulk x ≤ Rows.uptoBulk (D i)) :
    (xs.map c.bulk).sum ≤ Rows.uptoBulkAll ((List.range xs.length).map D) := by
  induction xs generalizing D with
  | nil => simp
  | cons x xs ih =>
    have h0 := h 0 x rfl
    have h1 := ih (fun i => D (i + 1)) fun i y hy => h (i + 1) y (by simpa using hy)
    rw [List.length_cons, List.range_succ_eq_map, List.map_cons, List.map_cons, List.map_map, Rows.uptoBulkAll, List.sum_cons]
    have e : (List.range xs.length).map (D ∘ Nat.succ) = (List.range xs.length).map fun i => D (i + 1) := rfl
    rw [e]
    omega

theorem opens_slice {t e : TypeId} {c : Cd α} (ht : P.underlying t = some (.slice e)) (hc : P.cellsOf t = 1) (hs : 0 < c.size) (he : Opens P e c) : Opens P t (cSlice c) :=
  ⟨hc, fun _ _ W _ _ _ h => by
    rcases open_slice ht h with ⟨rfl, rfl⟩ | ⟨a, len, cap, m, n, D, Pl, rfl, hb, hl, hm, hmm, rfl, hi⟩
    · exact ⟨[], ⟨none, 0, 0, rfl, Nat.le_refl _, Nat.zero_le _, SlR.nil _ _ _ _⟩, by simp [cSlice, Rows.uptoBulk]⟩
    · have hml : len ≤ m := by simp only [if_true] at hmm; omega
      obtain ⟨xs, hxl, hx⟩ := pick (n := len) (p := fun i x => ∃ cs', W.cells? 0 (a.add (i * c.size)) c.size = some cs' ∧ c.rel W (lt W.heap.size) cs' x ∧ c.bulk x ≤ Rows.uptoBulk (D i)) (fun i hil => by
        obtain ⟨cs', h1, h2⟩ := hi i (by omega)
        rw [he.1] at h1
        obtain ⟨y, hy, hyb⟩ := he.2 _ _ _ _ _ _ h2
        exact ⟨y, cs', h1, hy, hyb⟩)
      refine ⟨xs, ⟨some a, len, cap, rfl, hl, hm, hxl, fun hn => ?_⟩, ?_⟩
      · have hspot : a.spot = none ∧ a.block < W.heap.size := by
          obtain ⟨cs', h1, h2, _⟩ := hx 0 xs[0] (List.getElem?_eq_getElem (by omega))
          obtain ⟨_, hlen, hcell⟩ := World.cells?_some h1
          have h0 := hcell 0 hs
          have hsome : cs'[0]? = some (cs'[0]'(by omega)) := List.getElem?_eq_getElem (by omega)
          rw [hsome] at h0
          simp only [Nat.zero_mul, Addr.add, if_true] at h0
          exact ⟨World.cell?_spot h0, block_lt_of_cell h0⟩
        obtain ⟨b, o, spot⟩ := a
        obtain rfl : spot = none := hspot.1
        refine ⟨b, o, rfl, hspot.2, fun i x hix => ?_⟩
        obtain ⟨cs', h1, h2, _⟩ := hx i x hix
        obtain ⟨_, hlen, hcell⟩ := World.cells?_some h1
        refine ⟨cs', fun j u hu => ?_, h2⟩
        have hj : j < c.size := by
          rw [← hlen]
          exact (List.getElem?_eq_some_iff.1 hu).1
        have e1 : ((⟨b, o, none⟩ : Addr).add (i * c.size)).add j = ⟨b, o + i * c.size + j, none⟩ := by
          unfold Addr.add
          by_cases h1 : i * c.size = 0 <;> by_cases h2 : j = 0 <;> simp [h1, h2]
        rw [← e1, hcell j hj, hu]
      · have := bulk_range xs D fun i x hix => (hx i x hix).choose_spec.2.2
        rw [hxl] at this
        simp only [cSlice, Rows.uptoBulk]
        omega⟩

theorem opens_arr {t e : TypeId} {n : Nat} {c : Cd α} (ht : P.underlying t = some (.array n e)) (hc : P.cellsOf t = n * c.size) (he : Opens P e c) : Opens P t (cArr n c) :=
  ⟨hc, fun H enc W _ cs _ h => by
    obtain ⟨ys, m, _, rfl, hcl, hyl, hi⟩ := DataW.trod_array ht h
    rw [hc] at hcl
    obtain ⟨xs, hxl, hx⟩ := pick (n := n) (p := fun i x => c.rel W (lt W.heap.size) ((cs.drop (i * c.size)).take c.size) x ∧ c.bulk x ≤ Rows.uptoBulk ((ys.map (·.1)).getD i .nil)) (fun i hil => by
      have h1 := hi i hil
      rw [he.1, List.getElem?_eq_getElem (by omega)] at h1
      obtain ⟨y, hy, hyb⟩ := he.2 _ _ _ _ _ _ h1
      refine ⟨y, hy, ?_⟩
      have : (ys.map (·.1)).getD i .nil = (ys[i]'(by omega)).1 := by
        simp [List.getD, List.getElem?_eq_getElem (show i < ys.length by omega)]
      rw [this]
      exact hyb)
    refine ⟨xs, ⟨hcl, hxl, fun i x hix => (hx i x hix).1⟩, ?_⟩
    have := bulk_range xs (fun i => (ys.map (·.1)).getD i .nil) fun i x hix => (hx i x hix).2
    have e : (List.range xs.length).map (fun i => (ys.map (·.1)).getD i .nil) = ys.map (·.1) := by
      apply List.ext_getElem
      · simp [hxl, hyl]
      · intro i h1 h2
        simp at h1 h2
        simp [List.getD, List.getElem?_eq_getElem h2]
    rw [e] at this
    simp only [cArr, Rows.uptoBulk]
    omega⟩

/-- the fields from place 'off' on -/
def OpensFs (P : Program) (off : Nat) (fs : List Field) (c : Cd α) : Prop :=
  ∀ (H : Type) (enc : TypeId × Value → H) (W : World) (n : Nat) (cs : List Value) (ys : List (DataW H × List MemPlace)), cs.length = off + c.size → ys.length = fs.length →
    (∀ (i : Nat) (f : Field), fs[i]? = some f → DataW.trod enc P W 0 (fun _ => true) true n f.type ((cs.drop f.offset).take (P.cellsOf f.type)) = ys[i]?) →
    ∃ a, c.rel W (lt W.heap.size) (cs.drop off) a ∧ c.bulk a ≤ Rows.uptoBulkAll (ys.map (·.1))

theorem opensFs_nil (off : Nat) : OpensFs P off [] cEnd := fun _ _ _ _ cs ys hl _ _ => ⟨(), by
  simp only [cEnd] at hl ⊢
  exact List.drop_eq_nil_of_le (by omega), Nat.zero_le _⟩

theorem opensFs_cons {off : Nat} {f : Field} {fs : List Field} {c : Cd α} {d : Cd β} (hoff : f.offset = off) (hf : Opens P f.type c) (hr : OpensFs P (off + c.size) fs d) : OpensFs P off (f :: fs) (cCons c d) :=
  fun H enc W n cs ys hl hyl hi => by
    obtain ⟨y, ys, rfl⟩ : ∃ y ys', ys = y :: ys' := by cases ys with
      | nil => simp at hyl
      | cons y ys => exact ⟨y, ys, rfl⟩
    have h0 := hi 0 f rfl
    rw [hf.1, hoff] at h0
    obtain ⟨a, ha, hab⟩ := hf.2 _ _ _ _ _ y (by simpa using h0)
    obtain ⟨b, hb, hbb⟩ := hr H enc W n cs ys (by simp only [cCons] at hl; omega) (by simpa using hyl) fun i g hg => by
      have := hi (i + 1) g (by simpa using hg)
      simpa using this
    refine ⟨(a, b), ⟨(cs.drop off).take c.size, cs.drop (off + c.size), ?_, ha, hb⟩, ?_⟩
    · rw [← List.drop_drop, List.take_append_drop]
    · simp only [cCons, List.map_cons, Rows.uptoBulkAll]
      omega

theorem opens_struct {t : TypeId} {fs : Array Field} {c : Cd α} (ht : P.underlying t = some (.struct fs)) (hc : P.cellsOf t = c.size) (hf : OpensFs P 0 fs.toList c) : Opens P t (cStruct c) :=
  ⟨hc, fun H enc W _ cs _ h => by
    obtain ⟨ys, n, _, rfl, hcl, hyl, hi⟩ := DataW.trod_struct ht h
    obtain ⟨a, ha, hb⟩ := hf H enc W n cs ys (by rw [hcl, hc]; omega) (by simpa using hyl) (fun i f hif => hi i f (by simpa using hif))
    have ha' : c.rel W (lt W.heap.size) cs a := by simpa using ha
    refine ⟨a, ha', ?_⟩
    simp only [cStruct, Rows.uptoBulk]
    omega⟩
end
end Go.Proofs.YtcdifgacoleckaaDoor
