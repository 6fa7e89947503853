/- Operations that make or write memory: their abstract effects. No condition. -/
import Derived.Test.YtcjeeoimjkhijaaDoorAb7
import Derived.Deep.AppendSrc
import Derived.Laws.AppendOwn
import Derived.Laws.Tables
import Derived.Great.FillDense
namespace Go.Proofs.YtcjeeoimjkhijaaDoor.Ab
open Go Go.RowKit

abbrev Upds := List (Nat × Blk)
def appU (m : Mem) (us : Upds) : Mem := us.foldl (fun m u => upd m u.1 (some u.2)) m

structure Ef where
  φ : Prop
  val : D
  upds : Upds

def nver (m : Mem) (id : Nat) : Nat := match m id with
  | some b => b.ver + 1
  | none => 0

def D.cs? : D → Option Cs
  | .one (.e x) => some (.es [x])
  | .one x => some (.ds [x])
  | .agg c => some c
  | _ => none

def isSliceV : Value → Bool
  | .slice .. => true
  | _ => false
def zD : Value → D0
  | .slice none 0 0 => .nil
  | v => .e (.v v)
def zeroCs (vs : List Value) : Cs := bif vs.any isSliceV then .ds (vs.map zD) else .es (vs.map .v)
def oneOf (ti : TI) (c : Cs) : D := bif ti.k.agg then .agg c else .one (c.at 0)

/-! ### own values handed out: what they hold is published -/
def frz (m : Mem) : D0 → Option (E × Upds)
  | .e x => some (x, [])
  | .nil => some (.sl [], [])
  | .own id ver => match m id with
    | some ⟨bv, .row z xs, _⟩ => bif Nat.beq bv ver then some (.sl xs, [(id, ⟨bv, .row z xs, (Body.row z xs).cells.length⟩)]) else none
    | _ => none
  | .bsl id ver off z n => match m id with
    | some ⟨bv, .box (.es cs), _⟩ => bif Nat.beq bv ver then some (.sl (chunksE z n (cs.drop off)), [(id, ⟨bv, .box (.es cs), (Body.box (.es cs)).cells.length⟩)]) else none
    | _ => none
  | _ => none
def frzL (m : Mem) : List D0 → Option (List E × Upds)
  | [] => some ([], [])
  | x :: r => match frz m x, frzL m r with
    | some (e, u), some (es, us) => some (e :: es, u ++ us)
    | _, _ => none
def frzC (m : Mem) : Cs → Option (List E × Upds)
  | .es xs => some (xs, [])
  | .ds xs => frzL m xs

/-! ### a variable's cells, in part -/
def allE : List D0 → Option (List E)
  | [] => some []
  | .e a :: r => match allE r with
    | some s => some (a :: s)
    | none => none
  | _ :: _ => none
theorem allE_eq : ∀ {ys : List D0} {es : List E}, allE ys = some es → ys = es.map .e
  | [], es, h => by cases h; rfl
  | y :: r, es, h => by
    cases y with
    | e a =>
      rw [allE] at h
      cases hr : allE r with
      | none => rw [hr] at h; cases h
      | some s => rw [hr] at h; cases h; rw [allE_eq hr]; rfl
    | _ => cases h
def Cs.put (c : Cs) (o n : Nat) (x : Cs) : Cs :=
  match c, x with
  | .es xs, .es ys => .es (xs.take o ++ ys ++ xs.drop (o + n))
  | .es xs, .ds ys => match allE ys with
    | some zs => .es (xs.take o ++ zs ++ xs.drop (o + n))
    | none => .ds ((xs.map .e).take o ++ ys ++ (xs.map .e).drop (o + n))
  | .ds xs, .es ys => bif Nat.beq o 0 && Nat.beq xs.length n then .es ys else .ds (xs.take o ++ ys.map .e ++ xs.drop (o + n))
  | .ds xs, .ds ys => .ds (xs.take o ++ ys ++ xs.drop (o + n))
theorem Cs.put_d0 (c x : Cs) (o n : Nat) : (c.put o n x).d0 = c.d0.take o ++ x.d0 ++ c.d0.drop (o + n) := by
  cases c with
  | es xs =>
    cases x with
    | es ys => simp [Cs.put, Cs.d0]
    | ds ys =>
      unfold Cs.put
      cases h : allE ys with
      | none =>
        simp only
        rw [h]
        simp [Cs.d0]
      | some zs =>
        simp only
        rw [h, show (Cs.ds ys).d0 = zs.map .e from allE_eq h]
        simp [Cs.d0]
  | ds xs => cases x with
    | ds ys => simp [Cs.put, Cs.d0]
    | es ys =>
      show (bif Nat.beq o 0 && Nat.beq xs.length n then Cs.es ys else Cs.ds (xs.take o ++ ys.map .e ++ xs.drop (o + n))).d0 = _
      cases h : (Nat.beq o 0 && Nat.beq xs.length n) with
      | false => rfl
      | true =>
        rw [Bool.and_eq_true] at h
        obtain rfl := Nat.eq_of_beq_eq_true h.1
        have := Nat.eq_of_beq_eq_true h.2
        simp [Cs.d0, ← this]

def effBuildS (T : Nat → Option TI) (fs : List (Nat × Nat)) : List (Nat × D) → Cs → Option (Prop × Cs)
  | [], c => some (True, c)
  | (i, d) :: r, c =>
    match fs[i]?, d.cs? with
    | some (o, ft), some x =>
      match T ft with
      | some ti =>
        match effBuildS T fs r (c.put o ti.size x) with
        | some (φ, c') => some ((x.len = ti.size ∧ o + ti.size ≤ c.len) ∧ φ, c')
        | none => none
      | none => none
    | _, _ => none
def effBuildA (sz : Nat) : List (Nat × D) → Cs → Option (Prop × Cs)
  | [], c => some (True, c)
  | (i, d) :: r, c =>
    match d.cs? with
    | some x =>
      match effBuildA sz r (c.put (i * sz) sz x) with
      | some (φ, c') => some ((x.len = sz ∧ i * sz + sz ≤ c.len) ∧ φ, c')
      | none => none
    | none => none

def effBuild (T : Nat → Option TI) (t : Nat) (ps : List (Nat × D)) : Option Ef :=
  match T t with
  | some ⟨_, _, .struct fs, z⟩ => bif fs.all (fun q => (T q.2).isSome) then (effBuildS T fs ps (zeroCs z)).map fun r => ⟨r.1, .agg r.2, []⟩ else none
  | some ⟨_, _, .arr _ e, z⟩ =>
    match T e with
    | some ti => (effBuildA ti.size ps (zeroCs z)).map fun r => ⟨r.1, .agg r.2, []⟩
    | none => none
  | _ => none

/-- the elements of a slice literal, one behind the other -/
def effElems (m : Mem) (sz : Nat) : Nat → List (Nat × D) → Option (Prop × List (List E) × Upds)
  | _, [] => some (True, [], [])
  | k, (i, d) :: r =>
    bif Nat.beq i k then
      match d.cs? with
      | some c =>
        match frzC m c, effElems m sz (k + 1) r with
        | some (es, u), some (φ, xs, us) => some (es.length = sz ∧ φ, es :: xs, u ++ us)
        | _, _ => none
      | none => none
    else none

def strBytes (s : ByteArray) : List (List E) := s.data.toList.map fun b => [.v (.int .u8 (b.toNat : Int))]

/-- what is appended -/
def srcOf (m : Mem) (k : K) (sz : Nat) (d : D) : Option (Prop × List (List E)) :=
  match k, d with
  | .slice _, .one (.e (.sl ys)) => some (∀ cs ∈ ys, cs.length = sz, ys)
  | .slice _, .one .nil => some (True, [])
  | .slice _, .one (.own id ver) => match m id with
    | some ⟨bv, .row z ys, _⟩ => bif Nat.beq bv ver && Nat.beq z sz then some (True, ys) else none
    | _ => none
  | .slice _, .one (.bsl id ver off z n) => match m id with
    | some ⟨bv, .box (.es cs), _⟩ => bif Nat.beq bv ver && Nat.beq z sz then some (True, chunksE z n (cs.drop off)) else none
    | _ => none
  | .str, .one (.e (.v (.string s))) => bif Nat.beq sz 1 then some (True, strBytes s) else none
  | _, _ => none

def effAppend (T : Nat → Option TI) (m : Mem) (id : Nat) (t tx : Nat) (x y : D) : Option Ef :=
  match T t, T tx with
  | some ⟨_, _, .slice e, _⟩, some tix =>
    match T e, srcOf m tix.k (match T e with | some ti => ti.size | none => 0) y with
    | some ti, some (φ, ys) =>
      bif Nat.beq ti.size 0 then none else
      match x with
      | .one .nil => some ⟨φ ∧ ys.length ≤ maxLen ∧ ys.length * ti.bytes ≤ 140737488355328, .one (.own id (nver m id)), [(id, ⟨nver m id, .row ti.size ys, 0⟩)]⟩
      | .one (.own id' ver) =>
        match m id' with
        | some ⟨bv, .row z xs, pub⟩ =>
          bif Nat.beq bv ver && Nat.beq z ti.size then
            some ⟨φ ∧ xs.length + ys.length ≤ maxLen ∧ (xs.length + ys.length) * ti.bytes ≤ 140737488355328, .one (.own id' (ver + 1)), [(id', ⟨ver + 1, .row z (xs ++ ys), pub⟩)]⟩
          else none
        | _ => none
      | _ => none
    | _, _ => none
  | _, _ => none

def setEl (xs : List (List E)) (i j n : Nat) (ys : List E) : List (List E) :=
  xs.set i ((xs.getD i []).take j ++ ys ++ (xs.getD i []).drop (j + n))

def effStore (ti : TI) (m : Mem) (a x : D) : Option Ef :=
  match x.cs? with
  | none => none
  | some c =>
    match a with
    | .one (.ptr id ver off) =>
      match m id with
      | some ⟨bv, .box b, pub⟩ => bif Nat.beq bv ver then some ⟨c.len = ti.size ∧ off + ti.size ≤ b.len ∧ pub ≤ off, .any, [(id, ⟨bv, .box (b.put off ti.size c), pub⟩)]⟩ else none
      | _ => none
    | .one (.rptr id ver i j) =>
      match m id, frzC m c with
      | some ⟨bv, .row z xs, pub⟩, some (es, us) =>
        bif Nat.beq bv ver && us.all (fun u => !Nat.beq u.1 id) then
          some ⟨es.length = ti.size ∧ j + ti.size ≤ z ∧ i < xs.length ∧ pub ≤ i * z + j, .any, us ++ [(id, ⟨bv, .row z (setEl xs i j ti.size es), pub⟩)]⟩
        else none
      | _, _ => none
    | _ => none

def effCopy (T : Nat → Option TI) (m : Mem) (t tx : Nat) (x y : D) : Option Ef :=
  match T t, T tx, x with
  | some ⟨_, _, .slice e, _⟩, some tix, .one (.bsl id ver off z n) =>
    match T e, m id, srcOf m tix.k z y with
    | some ti, some ⟨bv, .box b, pub⟩, some (φ, ys) =>
      bif Nat.beq bv ver && Nat.beq ti.size z then
        some ⟨φ ∧ pub ≤ off, .v (.int .i64 ((min n ys.length : Nat) : Int)), [(id, ⟨bv, .box (b.put off (min n ys.length * z) (.es (ys.take (min n ys.length)).flatten)), pub⟩)]⟩
      else none
    | _, _, _ => none
  | _, _, _ => none

def effMake (T : Nat → Option TI) (m : Mem) (id : Nat) (t : Nat) (l c : D) : Option Ef :=
  match T t, l, c with
  | some ⟨_, _, .slice e, _⟩, .one (.e (.v (.int _ n))), .one (.e (.v (.int _ k))) =>
    match T e with
    | some ti =>
      match frzC m (zeroCs ti.zero) with
      | some (es, []) => bif Nat.beq ti.size 0 then none else
        some ⟨0 ≤ n ∧ n ≤ k ∧ k * ti.bytes ≤ 140737488355328 ∧ k ≤ 140737488355328 ∧ es.length = ti.size, .one (.own id (nver m id)), [(id, ⟨nver m id, .row ti.size (List.replicate n.toNat es), 0⟩)]⟩
      | _ => none
    | none => none
  | _, _, _ => none

def effBuildSl (T : Nat → Option TI) (m : Mem) (id t len : Nat) (ds : List (Nat × D)) : Option Ef :=
  match T t with
  | some ⟨_, _, .slice e, _⟩ =>
    match T e with
    | some ti =>
      match effElems m ti.size 0 ds with
      | some (φ, xs, us) =>
        bif Nat.beq ti.size 0 || !Nat.beq ds.length len || !(us.all fun u => !Nat.beq u.1 id) then none else
        some ⟨φ ∧ len * ti.size ≤ 16777216 ∧ len ≤ 16777216, .one (.own id (nver m id)), us ++ [(id, ⟨nver m id, .row ti.size xs, 0⟩)]⟩
      | none => none
    | none => none
  | _ => none
def effBytes (T : Nat → Option TI) (m : Mem) (id s d : Nat) (x : D) : Option Ef :=
  match T s, T d, x with
  | some ⟨_, _, .str, _⟩, some ⟨_, _, .slice e, _⟩, .one (.e (.v (.string str))) =>
    match T e with
    | some ⟨1, _, .int .u8, _⟩ => some ⟨str.size ≤ maxLen, .one (.own id (nver m id)), [(id, ⟨nver m id, .row 1 (strBytes str), 0⟩)]⟩
    | _ => none
  | _, _, _ => none
/-- an own row cut short, to go on from there -/
def truncO (T : Nat → Option TI) (m : Mem) (t i v : Nat) (lo hi : Option D) : Option Ef :=
  match lo, hi, T t, m i with
  | none, some (.one (.e (.v (.int _ n)))), some ⟨_, _, .slice e, _⟩, some ⟨bv, .row z xs, 0⟩ =>
    match T e with
    | some ti => bif Nat.beq bv v && Nat.beq z ti.size then some ⟨0 ≤ n ∧ n ≤ xs.length, .one (.own i (v + 1)), [(i, ⟨v + 1, .row z (xs.take n.toNat), 0⟩)]⟩ else none
    | none => none
  | _, _, _, _ => none
def effSliceO (T : Nat → Option TI) (m : Mem) (t : Nat) (x : D) (lo hi : Option D) : Option Ef :=
  match x with
  | .one (.own i v) =>
    match truncO T m t i v lo hi with
    | some ef => some ef
    | none =>
      match frz m (.own i v) with
      | some (e, us) => (effSlice T t (.one (.e e)) lo hi).map fun r => ⟨r.1, r.2, us⟩
      | none => none
  | .one .nil => (effSlice T t (.one (.e (.sl []))) lo hi).map fun r => ⟨r.1, r.2, []⟩
  | .one (.ptr id ver off) =>
    match T t with
    | some ⟨_, _, .arr len e, _⟩ =>
      match T e, loInt lo, hiInt hi len, m id with
      | some ti, some l, some h, some ⟨bv, .box c, _⟩ =>
        bif Nat.beq bv ver then some ⟨0 ≤ l ∧ l < len ∧ l ≤ h ∧ h ≤ len ∧ off + len * ti.size ≤ c.len ∧ len ≤ 16777216 ∧ 0 < ti.size, .one (.bsl id ver (off + l.toNat * ti.size) ti.size (h - l).toNat), []⟩ else none
      | _, _, _, _ => none
    | _ => none
  | _ => none

/-- what a closure captures: variables of its own function -/
def capsOf : List D → Option (List (Nat × Nat × Nat))
  | [] => some []
  | .one (.ptr i v o) :: r => match capsOf r with
    | some cs => some ((i, v, o) :: cs)
    | none => none
  | _ => none
def effM (T : Nat → Option TI) (m : Mem) (id : Nat) (op : Op) (ev : Ev) : Option Ef :=
  match op with
  | .box _ x =>
    match (ev x).cs? with
    | some c => some ⟨True, .one (.ptr id (nver m id) 0), [(id, ⟨nver m id, .box c, 0⟩)]⟩
    | none => none
  | .alloc t =>
    match T t with
    | some ti => some ⟨True, .one (.ptr id (nver m id) 0), [(id, ⟨nver m id, .box (zeroCs ti.zero), 0⟩)]⟩
    | none => none
  | .build t ps => effBuild T t (ps.toList.map fun p => (p.1, ev p.2))
  | .buildSlice t len ps => effBuildSl T m id t len (ps.toList.map fun p => (p.1, ev p.2))
  | .store t a x =>
    match T t with
    | some ti => effStore ti m (ev a) (ev x)
    | none => none
  | .call ⟨.builtin .append, args, ts⟩ =>
    match args.toList, ts.toList with
    | [x, y], [t, tx] => effAppend T m id t tx (ev x) (ev y)
    | _, _ => none
  | .call ⟨.builtin .copy, args, ts⟩ =>
    match args.toList, ts.toList with
    | [x, y], [t, tx] => effCopy T m t tx (ev x) (ev y)
    | _, _ => none
  | .convert s d x => effBytes T m id s d (ev x)
  | .slice t x lo hi none => effSliceO T m t (ev x) (lo.map ev) (hi.map ev)
  | .makeSlice t l c => effMake T m id t (ev l) (ev c)
  | .makeFunc (.func f) first caps =>
    match first.toList, capsOf (caps.toList.map ev) with
    | [], some cs => some ⟨True, .one (.clo f cs), []⟩
    | _, _ => none
  | _ => none

def eff (T : Nat → Option TI) (m : Mem) (id : Nat) (op : Op) (ev : Ev) : Option Ef :=
  match effQ T m op ev with
  | some (φ, d) => some ⟨φ, d, []⟩
  | none => effM T m id op ev
end Go.Proofs.YtcjeeoimjkhijaaDoor.Ab
