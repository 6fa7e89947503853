/- What a quiet operation yields: slots, scalars, loads, addresses, lengths. No condition. -/
import Derived.Test.YtcjeeoimjkhijaaDoorAb3
namespace Go.Proofs.YtcjeeoimjkhijaaDoor.Ab
open Go Go.RowKit

abbrev D.v (x : Value) : D := .one (.e (.v x))
abbrev Ev := Operand → D
abbrev Mem := Nat → Option Blk

theorem repV {p : Rho} {C : Nat → Nat → Value → Prop} {w : World} {x u : Value} (h : RepD p C w (.v x) u) : u = x := by
  have h : RepE C (.v x) u := h
  cases h
  rfl
theorem repV_mk {p : Rho} {C : Nat → Nat → Value → Prop} {w : World} {x : Value} (h : x.oneCell' = true) : RepD p C w (.v x) x := RepE.v x h

theorem bitsV_one (op : BinOp) (k : IntKind) (a b : Int) : (bitsV op k a b).oneCell' = true := by
  unfold bitsV
  dsimp only
  split <;> rfl
theorem intV_one {op : BinOp} {k k' : IntKind} {a b : Int} {φ : Prop} {v : Value} (h : intV op k a k' b = some (φ, v)) : v.oneCell' = true := by
  cases op <;> simp only [intV, Option.some.injEq, Prod.mk.injEq] at h <;> obtain ⟨rfl, rfl⟩ := h <;> first | rfl | exact bitsV_one _ _ _ _
theorem strV_one {op : BinOp} {a b : ByteArray} {φ : Prop} {v : Value} (h : strV op a b = some (φ, v)) : v.oneCell' = true := by
  cases op <;> simp only [strV, Option.some.injEq, Prod.mk.injEq, reduceCtorEq] at h <;> obtain ⟨rfl, rfl⟩ := h <;> rfl

theorem floatV_one {op : BinOp} {k k' : FloatKind} {a b : Nat} {φ : Prop} {v : Value} (h : floatV op k a k' b = some (φ, v)) : v.oneCell' = true := by
  cases op <;> simp only [floatV, Option.some.injEq, Prod.mk.injEq, reduceCtorEq] at h <;> obtain ⟨rfl, rfl⟩ := h <;> rfl

/-! ### equality of wide values -/
def eqFs (f : Nat → D → D → Prop × Bool) (T : Nat → Option TI) (c c' : Cs) : List (Nat × Nat) → Prop × Bool
  | [] => (True, true)
  | (o, ft) :: r =>
    match T ft with
    | some fti =>
      let e := f ft (c.load fti o).2 (c'.load fti o).2
      let r' := eqFs f T c c' r
      ((c.load fti o).1 ∧ (c'.load fti o).1 ∧ e.1 ∧ r'.1, e.2 && r'.2)
    | none => (False, false)
def eqD (T : Nat → Option TI) : Nat → Nat → D → D → Prop × Bool
  | 0, _, _, _ => (False, false)
  | d + 1, t, x, y =>
    match T t, x, y with
    | some ⟨_, _, .int _, _⟩, .one (.e (.v (.int k a))), .one (.e (.v (.int k' b))) => (k = k', a == b)
    | some ⟨_, _, .bool, _⟩, .one (.e (.v (.bool a))), .one (.e (.v (.bool b))) => (True, a == b)
    | some ⟨_, _, .str, _⟩, .one (.e (.v (.string a))), .one (.e (.v (.string b))) => (True, strEq a b)
    | some ⟨_, _, .struct fs, _⟩, .agg c, .agg c' => eqFs (eqD T d) T c c' fs
    | some ⟨_, _, .arr n e, _⟩, .agg c, .agg c' =>
      match T e with
      | some ti => (∀ i, i < n → (c.load ti (i * ti.size)).1 ∧ (c'.load ti (i * ti.size)).1 ∧ (eqD T d e (c.load ti (i * ti.size)).2 (c'.load ti (i * ti.size)).2).1,
          (List.range n).all fun i => (eqD T d e (c.load ti (i * ti.size)).2 (c'.load ti (i * ti.size)).2).2)
      | none => (False, false)
    | _, _, _ => (False, false)

/-! ### binary and unary operators, conversions of scalars -/
def effBin (T : Nat → Option TI) (op : BinOp) (t : Nat) (x y : D) : Option (Prop × D) :=
  match x, y with
  | .one (.e (.v (.int k a))), .one (.e (.v (.int k' b))) => (intV op k a k' b).map fun r => (r.1, .v r.2)
  | .one (.e (.v (.string a))), .one (.e (.v (.string b))) => (strV op a b).map fun r => (r.1, .v r.2)
  | .one (.e (.v (.float k a))), .one (.e (.v (.float k' b))) => (floatV op k a k' b).map fun r => (r.1, .v r.2)
  | .one (.e (.v (.bool a))), .one (.e (.v (.bool b))) =>
    match T t, op with
    | some ⟨_, _, .bool, _⟩, .eql => some (True, .v (.bool (a == b)))
    | some ⟨_, _, .bool, _⟩, .neq => some (True, .v (.bool (!(a == b))))
    | _, _ => none
  | .agg c, .agg c' =>
    match op with
    | .eql => some ((eqD T 9 t (.agg c) (.agg c')).1, .v (.bool (eqD T 9 t (.agg c) (.agg c')).2))
    | .neq => some ((eqD T 9 t (.agg c) (.agg c')).1, .v (.bool (!(eqD T 9 t (.agg c) (.agg c')).2)))
    | _ => none
  | _, _ => none

def effUn (op : UnOp) (x : D) : Option (Prop × D) :=
  match op, x with
  | .not, .one (.e (.v (.bool a))) => some (True, .v (.bool (!a)))
  | .neg, .one (.e (.v (.int k a))) => some (True, .v (.int k (k.wrap (0 - a))))
  | .xor, .one (.e (.v (.int k a))) => some (True, .v (bitsV .xor k (if k.signed then -1 else k.max) a))
  | _, _ => none

def isByte (cs : List E) : Prop := ∃ b : UInt8, cs = [.v (.int .u8 (b.toNat : Int))]
def bytesOf (xs : List (List E)) : ByteArray := ⟨(xs.map fun cs => UInt8.ofNat (cs.getD 0 E.dflt).int.toNat).toArray⟩

/-- the pieces of a row of cells, z by z -/
def chunksE (z n : Nat) (cs : List E) : List (List E) := (List.range n).map fun i => (cs.drop (i * z)).take z
def effConv (T : Nat → Option TI) (mem : Mem) (src dst : Nat) (x : D) : Option (Prop × D) :=
  match T src, T dst, x with
  | some _, some ⟨_, _, .int k, _⟩, .one (.e (.v (.int _ n))) => some (True, .v (.int k (k.wrap n)))
  | some _, some ⟨_, _, .str, _⟩, .one (.e (.v (.string s))) => some (True, .v (.string s))
  | some ⟨_, _, .slice e, _⟩, some ⟨_, _, .str, _⟩, .one y =>
    match T e, y with
    | some ⟨_, _, .int .u8, _⟩, .e (.sl xs) => some (∀ cs ∈ xs, isByte cs, .v (.string (bytesOf xs)))
    | some ⟨_, _, .int .u8, _⟩, .nil => some (True, .v (.string .empty))
    | some ⟨_, _, .int .u8, _⟩, .own id ver =>
      match mem id with
      | some ⟨bv, .row _ xs, _⟩ => bif Nat.beq bv ver then some (∀ cs ∈ xs, isByte cs, .v (.string (bytesOf xs))) else none
      | _ => none
    | some ⟨_, _, .int .u8, _⟩, .bsl id ver off z n =>
      match mem id with
      | some ⟨bv, .box (.es cs), _⟩ => bif Nat.beq bv ver && Nat.beq z 1 then some (∀ c ∈ chunksE 1 n (cs.drop off), isByte c, .v (.string (bytesOf (chunksE 1 n (cs.drop off))))) else none
      | _ => none
    | _, _ => none
  | _, _, _ => none

/-! ### loads -/
def effLoad (ti : TI) (mem : Mem) (x : D) : Option (Prop × D) :=
  match x with
  | .one (.eptr cs) => some ((Cs.es cs).load ti 0)
  | .one (.ptr id ver off) =>
    match mem id with
    | some ⟨bv, .box c, _⟩ => bif Nat.beq bv ver then some (c.load ti off) else none
    | _ => none
  | .one (.rptr id ver i j) =>
    match mem id with
    | some ⟨bv, .row _ xs, _⟩ => bif Nat.beq bv ver then
        let r := (Cs.es (xs.getD i [])).load ti j
        some (r.1, r.2) else none
    | _ => none
  | _ => none

/-! ### addresses -/
def effField (T : Nat → Option TI) (s f : Nat) (x : D) : Option (Prop × D) :=
  match T s with
  | some ⟨_, _, .struct fs, _⟩ =>
    match fs[f]? with
    | some (o, ft) =>
      match T ft with
      | some ti => bif Nat.beq ti.size 0 then none else
        match x with
        | .one (.ptr id ver off) => some (True, .one (.ptr id ver (off + o)))
        | .one (.eptr cs) => some (True, .one (.eptr (cs.drop o)))
        | .one (.rptr id ver i j) => some (True, .one (.rptr id ver i (j + o)))
        | _ => none
      | none => none
    | none => none
  | _ => none

def effFieldV (T : Nat → Option TI) (s f : Nat) (x : D) : Option (Prop × D) :=
  match T s with
  | some ⟨_, _, .struct fs, _⟩ =>
    match fs[f]? with
    | some (o, ft) =>
      match T ft, x with
      | some ti, .agg c => some (c.load ti o)
      | _, _ => none
    | none => none
  | _ => none

def effIndexA (T : Nat → Option TI) (mem : Mem) (t : Nat) (x i : D) : Option (Prop × D) :=
  match i with
  | .one (.e (.v (.int _ n))) =>
    match T t with
    | some ⟨_, _, .slice e, _⟩ =>
      match T e, x with
      | some ti, .one (.e (.sl xs)) => some (0 ≤ n ∧ n < xs.length ∧ (xs.getD n.toNat []).length = ti.size, .one (.eptr (xs.getD n.toNat [])))
      | some ti, .one (.own id ver) =>
        match mem id with
        | some ⟨bv, .row z xs, _⟩ => bif Nat.beq bv ver && Nat.beq z ti.size then some (0 ≤ n ∧ n < xs.length, .one (.rptr id ver n.toNat 0)) else none
        | _ => none
      | _, _ => none
    | some ⟨_, _, .arr len e, _⟩ =>
      match T e, x with
      | some ti, .one (.eptr cs) => some (0 ≤ n ∧ n < len, .one (.eptr (cs.drop (n.toNat * ti.size))))
      | some ti, .one (.ptr id ver off) => some (0 ≤ n ∧ n < len, .one (.ptr id ver (off + n.toNat * ti.size)))
      | some ti, .one (.rptr id ver a j) => some (0 ≤ n ∧ n < len, .one (.rptr id ver a (j + n.toNat * ti.size)))
      | _, _ => none
    | _ => none
  | _ => none

def effIndexV (T : Nat → Option TI) (t : Nat) (x i : D) : Option (Prop × D) :=
  match i with
  | .one (.e (.v (.int _ n))) =>
    match T t, x with
    | some ⟨_, _, .arr len e, _⟩, .agg c =>
      match T e with
      | some ti => let r := c.load ti (n.toNat * ti.size); some (0 ≤ n ∧ n < len ∧ r.1, r.2)
      | none => none
    | some ⟨_, _, .str, _⟩, .one (.e (.v (.string s))) => some (0 ≤ n ∧ n < s.size, .v (.int .u8 ((s.data.toList.getD n.toNat 0).toNat : Int)))
    | _, _ => none
  | _ => none

/-! ### lengths, pieces -/
def effLen (T : Nat → Option TI) (mem : Mem) (t : Nat) (x : D) : Option (Prop × D) :=
  match T t with
  | some ⟨_, _, .slice _, _⟩ =>
    match x with
    | .one (.e (.sl xs)) => some (True, .v (.int .i64 (xs.length : Int)))
    | .one .nil => some (True, .v (.int .i64 0))
    | .one (.own id ver) =>
      match mem id with
      | some ⟨bv, .row _ xs, _⟩ => bif Nat.beq bv ver then some (True, .v (.int .i64 (xs.length : Int))) else none
      | _ => none
    | .one (.bsl id ver off z n) =>
      match mem id with
      | some ⟨bv, _, _⟩ => bif Nat.beq bv ver then some (True, .v (.int .i64 (n : Int))) else none
      | none => none
    | _ => none
  | some ⟨_, _, .str, _⟩ =>
    match x with
    | .one (.e (.v (.string s))) => some (True, .v (.int .i64 (s.size : Int)))
    | _ => none
  | _ => none

def loInt (x : Option D) : Option Int :=
  match x with
  | none => some 0
  | some (.one (.e (.v (.int _ n)))) => some n
  | _ => none
def hiInt (x : Option D) (l : Int) : Option Int :=
  match x with
  | none => some l
  | some (.one (.e (.v (.int _ n)))) => some n
  | _ => none

def effSlice (T : Nat → Option TI) (t : Nat) (x : D) (lo hi : Option D) : Option (Prop × D) :=
  match T t, x with
  | some ⟨_, _, .str, _⟩, .one (.e (.v (.string s))) =>
    match loInt lo, hiInt hi s.size with
    | some l, some h => some (0 ≤ l ∧ l ≤ h ∧ h ≤ s.size, .v (.string (s.extract l.toNat h.toNat)))
    | _, _ => none
  | some ⟨_, _, .slice e, _⟩, .one (.e (.sl xs)) =>
    match T e, loInt lo, hiInt hi xs.length with
    | some ti, some l, some h => some (0 ≤ l ∧ l ≤ h ∧ h ≤ xs.length ∧ ∀ cs ∈ xs, cs.length = ti.size, .one (.e (.sl ((xs.drop l.toNat).take (h.toNat - l.toNat)))))
    | _, _, _ => none
  | some ⟨_, _, .arr len e, _⟩, .one (.eptr cs) =>
    match T e, loInt lo, hiInt hi len with
    | some ti, some l, some h => some (0 ≤ l ∧ l < len ∧ l ≤ h ∧ h ≤ len ∧ h.toNat * ti.size ≤ cs.length ∧ len ≤ 16777216, .one (.e (.sl (chunksE ti.size (h.toNat - l.toNat) (cs.drop (l.toNat * ti.size))))))
    | _, _, _ => none
  | _, _ => none

/-- a full slice: no room is left behind it that others could see -/
def effSlice3 (T : Nat → Option TI) (t : Nat) (x : D) (lo : Option D) (hi mx : D) : Option (Prop × D) :=
  match T t, x with
  | some ⟨_, _, .slice e, _⟩, .one (.e (.sl xs)) =>
    match T e, loInt lo, loInt (some hi), loInt (some mx) with
    | some ti, some l, some h, some k => some (0 ≤ l ∧ l ≤ h ∧ h ≤ k ∧ k ≤ xs.length ∧ ∀ cs ∈ xs, cs.length = ti.size, .one (.e (.sl ((xs.drop l.toNat).take (h.toNat - l.toNat)))))
    | _, _, _, _ => none
  | _, _ => none

def effExtract (x : D) (i : Nat) : Option (Prop × D) :=
  match x with
  | .tup xs =>
    match xs[i]? with
    | some (true, c) => some (True, .agg c)
    | some (false, c) => some (c.len = 1, .one (c.at 0))
    | none => none
  | _ => none

def effMinMax (mn : Bool) (x y : D) : Option (Prop × D) :=
  match x, y with
  | .one (.e (.v (.int k a))), .one (.e (.v (.int k' b))) => some (k = k', .v (.int k (bif mn then (if b < a then b else a) else (if a < b then b else a))))
  | _, _ => none

def effPick (c x y : D) : Option (Prop × D) :=
  match c, x, y with
  | .one (.e (.v (.bool c))), .one (.e (.v (.bool x))), .one (.e (.v (.bool y))) => some (True, .v (.bool (bif c then x else y)))
  | _, _, _ => none

def liveB (mem : Mem) (x : D) : Bool :=
  match x with
  | .one (.ptr id ver _) => match mem id with
    | some b => Nat.beq b.ver ver
    | none => false
  | .one (.rptr id ver _ _) => match mem id with
    | some b => Nat.beq b.ver ver
    | none => false
  | .one (.eptr _) => true
  | .one (.e (.sl _)) => true
  | .one (.own _ _) => true
  | _ => false

def effQ (T : Nat → Option TI) (mem : Mem) (op : Op) (ev : Ev) : Option (Prop × D) :=
  match op with
  | .move x => some (True, ev x)
  | .assign x => some (True, ev x)
  | .pick c a b => effPick (ev c) (ev a) (ev b)
  | .binOp op t x y _ => effBin T op t (ev x) (ev y)
  | .unOp op _ x => effUn op (ev x)
  | .convert s d x => effConv T mem s d (ev x)
  | .load t x =>
    match T t with
    | some ti => effLoad ti mem (ev x)
    | none => none
  | .nilCheck x =>
    match ev x with
    | .one (.ptr id ver off) => bif liveB mem (.one (.ptr id ver off)) then some (True, .one (.ptr id ver off)) else none
    | .one (.eptr cs) => some (True, .one (.eptr cs))
    | _ => none
  | .fieldAddr s x f => bif liveB mem (ev x) then effField T s f (ev x) else none
  | .field s x f => effFieldV T s f (ev x)
  | .indexAddr t x i => bif liveB mem (ev x) then effIndexA T mem t (ev x) (ev i) else none
  | .index t x i => effIndexV T t (ev x) (ev i)
  | .slice t x lo hi none => effSlice T t (ev x) (lo.map ev) (hi.map ev)
  | .slice t x lo (some hi) (some mx) => effSlice3 T t (ev x) (lo.map ev) (ev hi) (ev mx)
  | .extract x i => effExtract (ev x) i
  | .call ⟨.builtin .len, args, ts⟩ =>
    match args.toList, ts.toList with
    | [x], [t] => effLen T mem t (ev x)
    | _, _ => none
  | .call ⟨.builtin .min, args, _⟩ =>
    match args.toList with
    | [x, y] => effMinMax true (ev x) (ev y)
    | _ => none
  | .call ⟨.builtin .max, args, _⟩ =>
    match args.toList with
    | [x, y] => effMinMax false (ev x) (ev y)
    | _ => none
  | _ => none
end Go.Proofs.YtcjeeoimjkhijaaDoor.Ab
