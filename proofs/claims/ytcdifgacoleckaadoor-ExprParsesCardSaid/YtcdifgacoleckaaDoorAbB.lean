/- Operations that make or write memory: their abstract effects. No condition. -/
import Derived.Test.YtcdifgacoleckaaDoorAbA
import Derived.Deep.AppendSrc
import Derived.Laws.AppendOwn
import Derived.Laws.Tables
import Derived.Great.FillDense
import Derived.Lib.ConvBytes
import Derived.Laws.MakeOwn
import Derived.Laws.RangeAny
namespace Go.Proofs.YtcdifgacoleckaaDoor.Ab
open Go Go.RowKit

abbrev Upds := List (Nat × Blk)
def appU (m : Mem) (us : Upds) : Mem := us.foldl (fun m u => upd m u.1 (some u.2)) m

structure Ef where
  φ : Prop
  val : D
  upds : Upds

def nver (m : Mem) (id : Nat) : Nat := match m id with
  | some b => b.ver + 1
  | none => 0

def D.cs? : D → Option Cs
  | .one (.e x) => some (.es [x])
  | .one x => some (.ds [x])
  | .agg c => some c
  | _ => none

def isSliceV : Value → Bool
  | .slice .. => true
  | _ => false
def zD : Value → D0
  | .slice none 0 0 => .nil
  | v => .e (.v v)
def zeroCs (vs : List Value) : Cs := bif vs.any isSliceV then .ds (vs.map zD) else .es (vs.map .v)
def oneOf (ti : TI) (c : Cs) : D := bif ti.k.agg then .agg c else .one (c.at 0)

/-! ### own values handed out: what they hold is published -/
def frz (m : Mem) : D0 → Option (E × Upds)
  | .e x => some (x, [])
  | .nil => some (.sl [], [])
  | .own id ver => match m id with
    | some ⟨bv, .row z xs, _⟩ => bif Nat.beq bv ver then some (.sl xs, [(id, ⟨bv, .row z xs, (Body.row z xs).cells.length⟩)]) else none
    | _ => none
  | .bsl id ver off z n => match m id with
    | some ⟨bv, .box (.es cs), _⟩ => bif Nat.beq bv ver then some (.sl (chunksE z n (cs.drop off)), [(id, ⟨bv, .box (.es cs), (Body.box (.es cs)).cells.length⟩)]) else none
    | _ => none
  | .ptr id ver off => match m id with
    | some ⟨bv, .box (.es cs), _⟩ => bif Nat.beq bv ver then some (.pt (cs.drop off), [(id, ⟨bv, .box (.es cs), (Body.box (.es cs)).cells.length⟩)]) else none
    | _ => none
  | .eptr cs => some (.pt cs, [])
  | _ => none
def frzL (m : Mem) : List D0 → Option (List E × Upds)
  | [] => some ([], [])
  | x :: r => match frz m x, frzL m r with
    | some (e, u), some (es, us) => some (e :: es, u ++ us)
    | _, _ => none
def frzC (m : Mem) : Cs → Option (List E × Upds)
  | .es xs => some (xs, [])
  | .ds xs => frzL m xs

/-! ### a variable's cells, in part -/
def allE : List D0 → Option (List E)
  | [] => some []
  | .e a :: r => match allE r with
    | some s => some (a :: s)
    | none => none
  | _ :: _ => none
theorem allE_eq : ∀ {ys : List D0} {es : List E}, allE ys = some es → ys = es.map .e
  | [], es, h => by cases h; rfl
  | y :: r, es, h => by
    cases y with
    | e a =>
      rw [allE] at h
      cases hr : allE r with
      | none => rw [hr] at h; cases h
      | some s => rw [hr] at h; cases h; rw [allE_eq hr]; rfl
    | _ => cases h
def Cs.put (c : Cs) (o n : Nat) (x : Cs) : Cs :=
  match c, x with
  | .es xs, .es ys => .es (xs.take o ++ ys ++ xs.drop (o + n))
  | .es xs, .ds ys => match allE ys with
    | some zs => .es (xs.take o ++ zs ++ xs.drop (o + n))
    | none => .ds ((xs.map .e).take o ++ ys ++ (xs.map .e).drop (o + n))
  | .ds xs, .es ys => bif Nat.beq o 0 && Nat.beq xs.length n then .es ys else .ds (xs.take o ++ ys.map .e ++ xs.drop (o + n))
  | .ds xs, .ds ys => .ds (xs.take o ++ ys ++ xs.drop (o + n))
theorem Cs.put_d0 (c x : Cs) (o n : Nat) : (c.put o n x).d0 = c.d0.take o ++ x.d0 ++ c.d0.drop (o + n) := by
  cases c with
  | es xs =>
    cases x with
    | es ys => simp [Cs.put, Cs.d0]
    | ds ys =>
      unfold Cs.put
      cases h : allE ys with
      | none =>
        simp only
        rw [h]
        simp [Cs.d0]
      | some zs =>
        simp only
        rw [h, show (Cs.ds ys).d0 = zs.map .e from allE_eq h]
        simp [Cs.d0]
  | ds xs => cases x with
    | ds ys => simp [Cs.put, Cs.d0]
    | es ys =>
      show (bif Nat.beq o 0 && Nat.beq xs.length n then Cs.es ys else Cs.ds (xs.take o ++ ys.map .e ++ xs.drop (o + n))).d0 = _
      cases h : (Nat.beq o 0 && Nat.beq xs.length n) with
      | false => rfl
      | true =>
        rw [Bool.and_eq_true] at h
        obtain rfl := Nat.eq_of_beq_eq_true h.1
        have := Nat.eq_of_beq_eq_true h.2
        simp [Cs.d0, ← this]

def effBuildS (T : Nat → Option TI) (fs : List (Nat × Nat)) : List (Nat × D) → Cs → Option (Prop × Cs)
  | [], c => some (True, c)
  | (i, d) :: r, c =>
    match fs[i]?, d.cs? with
    | some (o, ft), some x =>
      match T ft with
      | some ti =>
        match effBuildS T fs r (c.put o ti.size x) with
        | some (φ, c') => some ((x.len = ti.size ∧ o + ti.size ≤ c.len) ∧ φ, c')
        | none => none
      | none => none
    | _, _ => none
def effBuildA (sz : Nat) : List (Nat × D) → Cs → Option (Prop × Cs)
  | [], c => some (True, c)
  | (i, d) :: r, c =>
    match d.cs? with
    | some x =>
      match effBuildA sz r (c.put (i * sz) sz x) with
      | some (φ, c') => some ((x.len = sz ∧ i * sz + sz ≤ c.len) ∧ φ, c')
      | none => none
    | none => none

def effBuild (T : Nat → Option TI) (t : Nat) (ps : List (Nat × D)) : Option Ef :=
  match T t with
  | some ⟨_, _, .struct fs, z⟩ => bif fs.all (fun q => (T q.2).isSome) then (effBuildS T fs ps (zeroCs z)).map fun r => ⟨r.1, .agg r.2, []⟩ else none
  | some ⟨_, _, .arr _ e, z⟩ =>
    match T e with
    | some ti => (effBuildA ti.size ps (zeroCs z)).map fun r => ⟨r.1, .agg r.2, []⟩
    | none => none
  | _ => none

/-- the elements of a slice literal, one behind the other -/
def effElems (m : Mem) (sz : Nat) : Nat → List (Nat × D) → Option (Prop × List (List E) × Upds)
  | _, [] => some (True, [], [])
  | k, (i, d) :: r =>
    bif Nat.beq i k then
      match d.cs? with
      | some c =>
        match frzC m c, effElems m sz (k + 1) r with
        | some (es, u), some (φ, xs, us) => some (es.length = sz ∧ φ, es :: xs, u ++ us)
        | _, _ => none
      | none => none
    else none

def strBytes (s : ByteArray) : List (List E) := s.data.toList.map fun b => [.v (.int .u8 (b.toNat : Int))]

/-- what is appended -/
def srcOf (m : Mem) (k : K) (sz : Nat) (d : D) : Option (Prop × List (List E)) :=
  match k, d with
  | .slice _, .one (.e (.sl ys)) => some (∀ cs ∈ ys, cs.length = sz, ys)
  | .slice _, .one .nil => some (True, [])
  | .slice _, .one (.own id ver) => match m id with
    | some ⟨bv, .row z ys, _⟩ => bif Nat.beq bv ver && Nat.beq z sz then some (True, ys) else none
    | _ => none
  | .slice _, .one (.bsl id ver off z n) => match m id with
    | some ⟨bv, .box (.es cs), _⟩ => bif Nat.beq bv ver && Nat.beq z sz then some (True, chunksE z n (cs.drop off)) else none
    | _ => none
  | .str, .one (.e (.v (.string s))) => bif Nat.beq sz 1 then some (True, strBytes s) else none
  | _, _ => none

def effAppend (T : Nat → Option TI) (m : Mem) (id : Nat) (t tx : Nat) (x y : D) : Option Ef :=
  match T t, T tx with
  | some ⟨_, _, .slice e, _⟩, some tix =>
    match T e, srcOf m tix.k (match T e with | some ti => ti.size | none => 0) y with
    | some ti, some (φ, ys) =>
      bif Nat.beq ti.size 0 then none else
      match x with
      | .one .nil => some ⟨φ ∧ ys.length ≤ maxLen ∧ ys.length * ti.bytes ≤ 140737488355328, .one (.own id (nver m id)), [(id, ⟨nver m id, .row ti.size ys, 0⟩)]⟩
      | .one (.own id' ver) =>
        match m id' with
        | some ⟨bv, .row z xs, pub⟩ =>
          bif Nat.beq bv ver && Nat.beq z ti.size then
            some ⟨φ ∧ xs.length + ys.length ≤ maxLen ∧ (xs.length + ys.length) * ti.bytes ≤ 140737488355328, .one (.own id' (ver + 1)), [(id', ⟨ver + 1, .row z (xs ++ ys), pub⟩)]⟩
          else none
        | _ => none
      | _ => none
    | _, _ => none
  | _, _ => none

def setEl (xs : List (List E)) (i j n : Nat) (ys : List E) : List (List E) :=
  xs.set i ((xs.getD i []).take j ++ ys ++ (xs.getD i []).drop (j + n))

def effStore (ti : TI) (m : Mem) (a x : D) : Option Ef :=
  match x.cs? with
  | none => none
  | some c =>
    match a with
    | .one (.ptr id ver off) =>
      match m id with
      | some ⟨bv, .box b, pub⟩ => bif Nat.beq bv ver then some ⟨c.len = ti.size ∧ off + ti.size ≤ b.len ∧ pub ≤ off, .any, [(id, ⟨bv, .box (b.put off ti.size c), pub⟩)]⟩ else none
      | _ => none
    | .one (.rptr id ver i j) =>
      match m id, frzC m c with
      | some ⟨bv, .row z xs, pub⟩, some (es, us) =>
        bif Nat.beq bv ver && us.all (fun u => !Nat.beq u.1 id) then
          some ⟨es.length = ti.size ∧ j + ti.size ≤ z ∧ i < xs.length ∧ pub ≤ i * z + j, .any, us ++ [(id, ⟨bv, .row z (setEl xs i j ti.size es), pub⟩)]⟩
        else none
      | _, _ => none
    | _ => none

def effCopy (T : Nat → Option TI) (m : Mem) (t tx : Nat) (x y : D) : Option Ef :=
  match T t, T tx, x with
  | some ⟨_, _, .slice e, _⟩, some tix, .one (.bsl id ver off z n) =>
    match T e, m id, srcOf m tix.k z y with
    | some ti, some ⟨bv, .box b, pub⟩, some (φ, ys) =>
      bif Nat.beq bv ver && Nat.beq ti.size z then
        some ⟨φ ∧ pub ≤ off, .v (.int .i64 ((min n ys.length : Nat) : Int)), [(id, ⟨bv, .box (b.put off (min n ys.length * z) (.es (ys.take (min n ys.length)).flatten)), pub⟩)]⟩
      else none
    | _, _, _ => none
  | _, _, _ => none

def effMake (T : Nat → Option TI) (m : Mem) (id : Nat) (t : Nat) (l c : D) : Option Ef :=
  match T t, l, c with
  | some ⟨_, _, .slice e, _⟩, .one (.e (.v (.int _ n))), .one (.e (.v (.int _ k))) =>
    match T e with
    | some ti =>
      match frzC m (zeroCs ti.zero) with
      | some (es, []) => bif Nat.beq ti.size 0 then none else
        some ⟨0 ≤ n ∧ n ≤ k ∧ k * ti.bytes ≤ 140737488355328 ∧ k ≤ 140737488355328 ∧ es.length = ti.size, .one (.own id (nver m id)), [(id, ⟨nver m id, .row ti.size (List.replicate n.toNat es), 0⟩)]⟩
      | _ => none
    | none => none
  | _, _, _ => none

def effBuildSl (T : Nat → Option TI) (m : Mem) (id t len : Nat) (ds : List (Nat × D)) : Option Ef :=
  match T t with
  | some ⟨_, _, .slice e, _⟩ =>
    match T e with
    | some ti =>
      match effElems m ti.size 0 ds with
      | some (φ, xs, us) =>
        bif Nat.beq ti.size 0 || !Nat.beq ds.length len || !(us.all fun u => !Nat.beq u.1 id) then none else
        some ⟨φ ∧ len * ti.size ≤ 16777216 ∧ len ≤ 16777216, .one (.own id (nver m id)), us ++ [(id, ⟨nver m id, .row ti.size xs, 0⟩)]⟩
      | none => none
    | none => none
  | _ => none
def effBytes (T : Nat → Option TI) (m : Mem) (id s d : Nat) (x : D) : Option Ef :=
  match T s, T d, x with
  | some ⟨_, _, .str, _⟩, some ⟨_, _, .slice e, _⟩, .one (.e (.v (.string str))) =>
    match T e with
    | some ⟨1, _, .int .u8, _⟩ => some ⟨str.size ≤ maxLen, .one (.own id (nver m id)), [(id, ⟨nver m id, .row 1 (strBytes str), 0⟩)]⟩
    | _ => none
  | _, _, _ => none
/-- an own row cut short, to go on from there -/
def truncO (T : Nat → Option TI) (m : Mem) (t i v : Nat) (lo hi : Option D) : Option Ef :=
  match lo, hi, T t, m i with
  | none, some (.one (.e (.v (.int _ n)))), some ⟨_, _, .slice e, _⟩, some ⟨bv, .row z xs, 0⟩ =>
    match T e with
    | some ti => bif Nat.beq bv v && Nat.beq z ti.size then some ⟨0 ≤ n ∧ n ≤ xs.length, .one (.own i (v + 1)), [(i, ⟨v + 1, .row z (xs.take n.toNat), 0⟩)]⟩ else none
    | none => none
  | _, _, _, _ => none
def effSliceO (T : Nat → Option TI) (m : Mem) (t : Nat) (x : D) (lo hi : Option D) : Option Ef :=
  match x with
  | .one (.own i v) =>
    match truncO T m t i v lo hi with
    | some ef => some ef
    | none =>
      match frz m (.own i v) with
      | some (e, us) => (effSlice T t (.one (.e e)) lo hi).map fun r => ⟨r.1, r.2, us⟩
      | none => none
  | .one .nil => (effSlice T t (.one (.e (.sl []))) lo hi).map fun r => ⟨r.1, r.2, []⟩
  | .one (.ptr id ver off) =>
    match T t with
    | some ⟨_, _, .arr len e, _⟩ =>
      match T e, loInt lo, hiInt hi len, m id with
      | some ti, some l, some h, some ⟨bv, .box c, _⟩ =>
        bif Nat.beq bv ver then some ⟨0 ≤ l ∧ l < len ∧ l ≤ h ∧ h ≤ len ∧ off + len * ti.size ≤ c.len ∧ len ≤ 16777216 ∧ 0 < ti.size, .one (.bsl id ver (off + l.toNat * ti.size) ti.size (h - l).toNat), []⟩ else none
      | _, _, _, _ => none
    | _ => none
  | _ => none

/-! ### walks along texts; tables -/
def runesF (s : ByteArray) : Nat → Nat → List (Nat × Nat)
  | 0, _ => []
  | f + 1, pos => if pos < s.size then Utf8.decode s pos :: runesF s f (pos + (Utf8.decode s pos).2) else []
def runes (s : ByteArray) : List (Nat × Nat) := runesF s s.size 0
def effRange (T : Nat → Option TI) (m : Mem) (id t : Nat) (x : D) : Option Ef :=
  match T t, x with
  | some ⟨_, _, .str, _⟩, .one (.e (.v (.string s))) => some ⟨True, .one (.ptr id (nver m id) 0), [(id, ⟨nver m id, .raw (.iter s 0 (runes s)), 0⟩)]⟩
  | _, _ => none
def effNext (m : Mem) (x : D) : Option Ef :=
  match x with
  | .one (.ptr id ver 0) =>
    match m id with
    | some ⟨bv, .raw (.iter s pos l), 0⟩ =>
      bif Nat.beq bv ver then
        match l with
        | [] => some ⟨True, .tup [(false, .es [.v (.bool false)])], []⟩
        | (c, n) :: r => some ⟨True, .tup [(false, .es [.v (.bool true)]), (false, .es [.v (.int .i64 (pos : Int))]), (false, .es [.v (.int .i32 (c : Int))])], [(id, ⟨bv, .raw (.iter s (pos + n) r), 0⟩)]⟩
      else none
    | _ => none
  | _ => none
def effMapPut (T : Nat → Option TI) (m : Mem) (t : Nat) (x i y : D) : Option Ef :=
  match T t, x, i, y with
  | some ⟨_, _, .map k _, _⟩, .one (.hnd id ver), .one (.e (.v (.string s))), .one (.e (.v (.int .i64 n))) =>
    match T k, m id with
    | some ⟨_, _, .str, _⟩, some ⟨bv, .raw (.smap l), 0⟩ => bif Nat.beq bv ver then some ⟨True, .any, [(id, ⟨bv, .raw (.smap (mPut l s n)), 0⟩)]⟩ else none
    | _, _ => none
  | _, _, _, _ => none
/-- what a closure captures: variables of its own function -/
def capsOf : List D → Option (List (Nat × Nat × Nat))
  | [] => some []
  | .one (.ptr i v o) :: r => match capsOf r with
    | some cs => some ((i, v, o) :: cs)
    | none => none
  | _ => none
def effM (T : Nat → Option TI) (m : Mem) (id : Nat) (op : Op) (ev : Ev) : Option Ef :=
  match op with
  | .box _ x =>
    match (ev x).cs? with
    | some c => some ⟨True, .one (.ptr id (nver m id) 0), [(id, ⟨nver m id, .box c, 0⟩)]⟩
    | none => none
  | .alloc t =>
    match T t with
    | some ti => some ⟨True, .one (.ptr id (nver m id) 0), [(id, ⟨nver m id, .box (zeroCs ti.zero), 0⟩)]⟩
    | none => none
  | .build t ps => effBuild T t (ps.toList.map fun p => (p.1, ev p.2))
  | .buildSlice t len ps => effBuildSl T m id t len (ps.toList.map fun p => (p.1, ev p.2))
  | .store t a x =>
    match T t with
    | some ti => effStore ti m (ev a) (ev x)
    | none => none
  | .call ⟨.builtin .append, args, ts⟩ =>
    match args.toList, ts.toList with
    | [x, y], [t, tx] => effAppend T m id t tx (ev x) (ev y)
    | _, _ => none
  | .call ⟨.builtin .copy, args, ts⟩ =>
    match args.toList, ts.toList with
    | [x, y], [t, tx] => effCopy T m t tx (ev x) (ev y)
    | _, _ => none
  | .convert s d x => effBytes T m id s d (ev x)
  | .slice t x lo hi none => effSliceO T m t (ev x) (lo.map ev) (hi.map ev)
  | .makeSlice t l c => effMake T m id t (ev l) (ev c)
  | .range t x => effRange T m id t (ev x)
  | .next x true => effNext m (ev x)
  | .makeMap _ none => some ⟨True, .one (.hnd id (nver m id)), [(id, ⟨nver m id, .raw (.smap []), 0⟩)]⟩
  | .mapUpdate t x i y => effMapPut T m t (ev x) (ev i) (ev y)
  | .makeFunc (.func f) first caps =>
    match first.toList, caps.toList, capsOf (caps.toList.map ev), capsOf (first.toList.map ev) with
    | [], _, some cs, _ => bif Nat.ble 1048576 f then none else some ⟨True, .one (.clo f cs), []⟩
    | _ :: _, [], _, some cs => some ⟨True, .one (.clo (1048576 + f) cs), []⟩
    | _, _, _, _ => none
  | _ => none

def eff (T : Nat → Option TI) (m : Mem) (id : Nat) (op : Op) (ev : Ev) : Option Ef :=
  match effQ T m op ev with
  | some (φ, d) => some ⟨φ, d, []⟩
  | none => effM T m id op ev
end Go.Proofs.YtcdifgacoleckaaDoor.Ab
namespace Go.Proofs.YtcdifgacoleckaaDoor.Ab
open Go Go.RowKit

section
variable {P : Program} {T : Nat → Option TI} {X : Ctx} {p : Rho} {w : World} {C : Nat → Nat → Value → Prop}

theorem cells_one {v : Value} (h : v.oneCell' = true) : v.cells = #[v] := by cases v <;> first | rfl | cases h

theorem rep_cs {d : D} {c : Cs} {v : Value} (h : RepD p C w d v) (hc : d.cs? = some c) : Rep2 p C w c.d0 v.cells.toList := by
  unfold D.cs? at hc
  split at hc
  · rename_i x
    cases hc
    have h1 : Rep0 p C w (.e x) v := h
    rw [cells_one h1.one]
    refine ⟨rfl, fun i y u hy hu => ?_⟩
    cases i with
    | zero => simp [Cs.d0] at hy hu; subst hy; subst hu; exact h1
    | succ i => simp [Cs.d0] at hy
  · rename_i x _
    cases hc
    have h1 : Rep0 p C w x v := h
    rw [cells_one h1.one]
    refine ⟨rfl, fun i y u hy hu => ?_⟩
    cases i with
    | zero => simp [Cs.d0] at hy hu; subst hy; subst hu; exact h1
    | succ i => simp [Cs.d0] at hy
  · rename_i c'
    cases hc
    obtain ⟨vs, rfl, h2⟩ := h
    exact h2
  · cases hc

theorem rep2_one {xs : List D0} {vs : List Value} (h : Rep2 p C w xs vs) : ∀ u ∈ vs, u.oneCell' = true := by
  intro u hu
  obtain ⟨i, hi⟩ := List.mem_iff_getElem?.1 hu
  have : i < xs.length := by rw [h.1]; exact (List.getElem?_eq_some_iff.1 hi).1
  exact (h.2 i _ u (List.getElem?_eq_getElem this) hi).one

theorem zD_rep {v : Value} (h : v.oneCell' = true) : Rep0 p C w (zD v) v := by
  unfold zD
  split
  · rfl
  · exact RepE.v _ h
theorem zeroCs_rep {vs : List Value} (h : ∀ u ∈ vs, u.oneCell' = true) : Rep2 p C w (zeroCs vs).d0 vs := by
  unfold zeroCs
  cases vs.any isSliceV with
  | true =>
    refine ⟨by simp [Cs.d0], fun i x u h1 h2 => ?_⟩
    simp only [Cs.d0, cond_true, List.getElem?_map, Option.map_eq_some_iff] at h1
    obtain ⟨u', h3, rfl⟩ := h1
    rw [h2] at h3
    cases h3
    exact zD_rep (h _ (List.mem_of_getElem? h2))
  | false =>
    refine ⟨by simp [Cs.d0], fun i x u h1 h2 => ?_⟩
    simp only [Cs.d0, cond_false, List.map_map, List.getElem?_map, Option.map_eq_some_iff] at h1
    obtain ⟨u', h3, rfl⟩ := h1
    rw [h2] at h3
    cases h3
    exact RepE.v _ (h _ (List.mem_of_getElem? h2))

theorem rep2_append {xs ys : List D0} {us vs : List Value} (h1 : Rep2 p C w xs us) (h2 : Rep2 p C w ys vs) : Rep2 p C w (xs ++ ys) (us ++ vs) := by
  refine ⟨by simp [h1.1, h2.1], fun i x u hx hu => ?_⟩
  by_cases hi : i < xs.length
  · rw [List.getElem?_append_left hi] at hx
    rw [List.getElem?_append_left (by rw [← h1.1]; exact hi)] at hu
    exact h1.2 i x u hx hu
  · rw [List.getElem?_append_right (by omega)] at hx
    rw [List.getElem?_append_right (by rw [← h1.1]; omega), ← h1.1] at hu
    exact h2.2 _ x u hx hu
theorem rep2_take {xs : List D0} {vs : List Value} (h : Rep2 p C w xs vs) (n : Nat) : Rep2 p C w (xs.take n) (vs.take n) := by
  have := rep2_sub h 0 n
  simpa using this
theorem rep2_drop {xs : List D0} {vs : List Value} (h : Rep2 p C w xs vs) (n : Nat) : Rep2 p C w (xs.drop n) (vs.drop n) := by
  refine ⟨by simp [h.1], fun i x u h1 h2 => ?_⟩
  rw [List.getElem?_drop] at h1 h2
  exact h.2 _ _ _ h1 h2

/-! ### building structs and arrays -/
theorem fold_set (o : Nat) : ∀ (l : List Value) (k : Nat) (cs : Array Value), o + k + l.length ≤ cs.size →
    ((l.zipIdx k).foldl (fun cs (q : Value × Nat) => cs.setIfInBounds (o + q.2) q.1) cs).toList = cs.toList.take (o + k) ++ l ++ cs.toList.drop (o + k + l.length)
  | [], k, cs, _ => by simp
  | x :: l, k, cs, h => by
    simp only [List.length_cons] at h
    rw [List.zipIdx_cons, List.foldl_cons, fold_set o l (k + 1) _ (by simp; omega)]
    have hn : (cs.toList.take (o + k)).length = o + k := by simp; omega
    simp only [Array.toList_setIfInBounds, List.length_cons]
    rw [List.set_eq_take_append_cons_drop, if_pos (by simp; omega)]
    rw [show o + (k + 1) = o + k + 1 by omega, List.take_append, List.drop_append, hn]
    rw [show o + k + 1 - (o + k) = 1 by omega, show o + k + 1 + l.length - (o + k) = l.length + 1 by omega, List.take_of_length_le (by omega), List.drop_of_length_le (l := cs.toList.take (o + k)) (by omega)]
    simp [List.drop_drop]
    congr 1
    omega

theorem fill_one {place : Nat → Option (Nat × Nat)} {cells : Array Value} {i off size : Nat} {v : Value} {rest : List (Nat × Value)} (hp : place i = some (off, size)) (hv : v.cells.size = size) (hb : off + size ≤ cells.size) :
    ∃ cs' : Array Value, Instr.fill place cells ((i, v) :: rest) = Instr.fill place cs' rest ∧ cs'.toList = cells.toList.take off ++ v.cells.toList ++ cells.toList.drop (off + size) := by
  refine ⟨v.cells.zipIdx.foldl (fun cs (c, j) => cs.setIfInBounds (off + j) c) cells, ?_, ?_⟩
  · rw [Instr.fill, hp]
    simp only
    rw [if_neg (by simp [hv]; omega)]
  · have := fold_set off v.cells.toList 0 cells (by simp [hv]; omega)
    rw [← Array.foldl_toList]
    simp only [Array.toList_zipIdx]
    simpa [hv] using this

def RepPs (p : Rho) (C : Nat → Nat → Value → Prop) (w : World) : List (Nat × D) → List (Nat × Value) → Prop
  | [], [] => True
  | (i, d) :: r, (j, v) :: s => i = j ∧ RepD p C w d v ∧ RepPs p C w r s
  | _, _ => False

theorem buildS_goes (hT : TOk P T) {fs : List (Nat × Nat)} {place : Nat → Option (Nat × Nat)} (hp : ∀ i o ft ti, fs[i]? = some (o, ft) → T ft = some ti → place i = some (o, ti.size)) :
    ∀ (ps : List (Nat × D)) (vs : List (Nat × Value)) (c : Cs) (cells : Array Value) {φ : Prop} {c' : Cs}, RepPs p C w ps vs → Rep2 p C w c.d0 cells.toList → effBuildS T fs ps c = some (φ, c') → φ →
    ∃ out, Instr.fill place cells vs = some out ∧ Rep2 p C w c'.d0 out.toList
  | [], [], c, cells, φ, c', _, hr, h, _ => by cases h; exact ⟨cells, rfl, hr⟩
  | (i, d) :: r, [], _, _, _, _, hps, _, _, _ => by cases hps
  | [], _ :: _, _, _, _, _, hps, _, _, _ => by cases hps
  | (i, d) :: r, (j, v) :: s, c, cells, φ, c', hps, hr, h, hφ => by
    obtain ⟨rfl, hd, hrs⟩ := hps
    rw [effBuildS] at h
    split at h
    · rename_i o ft x hf hx
      split at h
      · rename_i ti hti
        split at h
        · rename_i φ' c'' he
          cases h
          obtain ⟨⟨f1, f2⟩, f3⟩ := hφ
          have hv := rep_cs hd hx
          have hsz : v.cells.size = ti.size := by
            have := hv.1
            rw [Cs.len_eq, f1] at this
            simpa using this.symm
          have hcl : cells.size = c.len := by
            have := hr.1
            rw [Cs.len_eq] at this
            simpa using this.symm
          obtain ⟨cs', h1, h2⟩ := fill_one (cells := cells) (rest := s) (hp i o ft ti hf hti) hsz (by omega)
          rw [h1]
          refine buildS_goes hT hp r s (c.put o ti.size x) cs' hrs ?_ he f3
          rw [h2, Cs.put_d0]
          exact rep2_append (rep2_append (rep2_take hr _) hv) (rep2_drop hr _)
        · cases h
      · cases h
    · cases h

theorem buildA_goes {sz : Nat} :
    ∀ (ps : List (Nat × D)) (vs : List (Nat × Value)) (c : Cs) (cells : Array Value) {φ : Prop} {c' : Cs}, RepPs p C w ps vs → Rep2 p C w c.d0 cells.toList → effBuildA sz ps c = some (φ, c') → φ →
    ∃ out, Instr.fill (fun i => some (i * sz, sz)) cells vs = some out ∧ Rep2 p C w c'.d0 out.toList
  | [], [], c, cells, φ, c', _, hr, h, _ => by cases h; exact ⟨cells, rfl, hr⟩
  | (i, d) :: r, [], _, _, _, _, hps, _, _, _ => by cases hps
  | [], _ :: _, _, _, _, _, hps, _, _, _ => by cases hps
  | (i, d) :: r, (j, v) :: s, c, cells, φ, c', hps, hr, h, hφ => by
    obtain ⟨rfl, hd, hrs⟩ := hps
    rw [effBuildA] at h
    split at h
    · rename_i x hx
      split at h
      · rename_i φ' c'' he
        cases h
        obtain ⟨⟨f1, f2⟩, f3⟩ := hφ
        have hv := rep_cs hd hx
        have hsz : v.cells.size = sz := by
          have := hv.1
          rw [Cs.len_eq, f1] at this
          simpa using this.symm
        have hcl : cells.size = c.len := by
          have := hr.1
          rw [Cs.len_eq] at this
          simpa using this.symm
        obtain ⟨cs', h1, h2⟩ := fill_one (cells := cells) (place := fun i => some (i * sz, sz)) (rest := s) (i := i) rfl hsz (by omega)
        rw [h1]
        refine buildA_goes r s (c.put (i * sz) sz x) cs' hrs ?_ he f3
        rw [h2, Cs.put_d0]
        exact rep2_append (rep2_append (rep2_take hr _) hv) (rep2_drop hr _)
      · cases h
    · cases h

theorem repPs_map {ev : Ev} {ρ : Operand → Value} : ∀ (ps : List (Nat × Operand)), (∀ q ∈ ps, RepD p C w (ev q.2) (ρ q.2)) → RepPs p C w (ps.map fun q => (q.1, ev q.2)) (ps.map fun q => (q.1, ρ q.2))
  | [], _ => trivial
  | q :: r, h => ⟨rfl, h q (by simp), repPs_map r fun q hq => h q (by simp [hq])⟩

theorem zero_run {t : Nat} {ti : TI} (h : TIOk P t ti) : ∃ z, (zeroValue t).run P w = .ok z w ∧ z.cells.toList = ti.zero := by
  obtain ⟨i, d, z, h1, h2, h3, h4, h5, h6, h7, h8⟩ := h.out
  exact ⟨z, by simp [zeroValue, typeInfo, h1, h6], h7⟩
theorem zero_one {t : Nat} {ti : TI} (h : TIOk P t ti) : ∀ u ∈ ti.zero, u.oneCell' = true := by
  obtain ⟨i, d, z, h1, h2, h3, h4, h5, h6, h7, h8⟩ := h.out
  exact h8

theorem mapM_places (hT : TOk P T) : ∀ (F : List Field), (∀ f ∈ F, ∃ n, (sizeOf f.type).run P w = .ok n w) →
    ∃ pl : List (Nat × Nat), (F.mapM fun (f : Field) => do pure (f.offset, ← sizeOf f.type) : Sem (List (Nat × Nat))).run P w = .ok pl w ∧ pl.length = F.length ∧ ∀ (i : Nat) (f : Field), F[i]? = some f → ∃ n, (sizeOf f.type).run P w = .ok n w ∧ pl[i]? = some (f.offset, n)
  | [], _ => ⟨[], by simp, rfl, fun i f h => by simp at h⟩
  | f :: F, h => by
    obtain ⟨n, hn⟩ := h f (by simp)
    obtain ⟨pl, h1, h2, h3⟩ := mapM_places hT F fun g hg => h g (by simp [hg])
    refine ⟨(f.offset, n) :: pl, by rw [List.mapM_cons]; simp only [Sem.run_bind, Sem.run_pure, Result.andThen_ok, hn, h1], by simp [h2], fun i g hg => ?_⟩
    cases i with
    | zero => simp at hg; subst hg; exact ⟨n, hn, rfl⟩
    | succ i => exact h3 i g (by simpa using hg)

theorem build_goes (hT : TOk P T) {t : Nat} {ps : Array (Nat × Operand)} {ev : Ev} {ρ : Operand → Value} (hρ : ∀ q ∈ ps.toList, RepD p C w (ev q.2) (ρ q.2)) {ef : Ef} (h : effBuild T t (ps.toList.map fun q => (q.1, ev q.2)) = some ef) (hφ : ef.φ) :
    ef.upds = [] ∧ ∃ v, (Instr.build t (ps.map fun (i, x) => (i, ρ x))).run P w = .ok v w ∧ RepD p C w ef.val v := by
  have hmap : (ps.map fun (i, x) => (i, ρ x)).toList = ps.toList.map fun q => (q.1, ρ q.2) := by simp
  have hps := repPs_map (p := p) (C := C) (w := w) ps.toList hρ
  unfold effBuild at h
  split at h
  · rename_i a b fs z ht
    obtain ⟨F, hF, hfs⟩ := struct_of hT ht
    cases hall : (fs.all fun q => (T q.2).isSome) with
    | false => simp [hall] at h
    | true =>
    simp only [hall, cond_true] at h
    have hsz : ∀ f ∈ F.toList, ∃ n, (sizeOf f.type).run P w = .ok n w := fun f hf => by
      have h1 := List.all_eq_true.1 hall (f.offset, f.type) (by rw [← hfs]; exact List.mem_map.2 ⟨f, hf, rfl⟩)
      obtain ⟨ti, hti⟩ := Option.isSome_iff_exists.1 h1
      exact ⟨_, (hT _ _ hti).size w⟩
    rw [Option.map_eq_some_iff] at h
    obtain ⟨⟨φ, c⟩, h1, rfl⟩ := h
    obtain ⟨zv, hz1, hz2⟩ := zero_run (w := w) (hT _ _ ht)
    obtain ⟨pl, hp1, hp2, hp3⟩ := mapM_places (w := w) hT F.toList hsz
    have hmapM : (F.mapM fun (f : Field) => do pure (f.offset, ← sizeOf f.type) : Sem (Array (Nat × Nat))).run P w = .ok pl.toArray w := by
      rw [Array.mapM_eq_mapM_toList]
      simp only [Sem.run_map, hp1, Result.andThen_ok]
    have hrz : Rep2 p C w (zeroCs z).d0 zv.cells.toList := by rw [hz2]; exact zeroCs_rep (zero_one (hT _ _ ht))
    obtain ⟨out, ho1, ho2⟩ := buildS_goes (place := (pl.toArray[·]?)) hT (fun i o ft ti hi hti => by
      obtain ⟨fd, k1, rfl, rfl⟩ := field_of hfs hi
      obtain ⟨n, k2, k3⟩ := hp3 i fd (by simpa using k1)
      have k4 := (hT _ _ hti).size w
      rw [k2] at k4
      cases k4
      simpa using k3) _ _ (zeroCs z) zv.cells hps hrz h1 hφ
    refine ⟨rfl, .agg out, ?_, out.toList, by simp, ho2⟩
    simp only [Instr.build, Sem.run_bind, hz1, run_underlying hF, Result.andThen_ok, Sem.run_pure, hmapM, hmap, ho1]
  · rename_i a b n e z ht
    split at h
    · rename_i ti hti
      rw [Option.map_eq_some_iff] at h
      obtain ⟨⟨φ, c⟩, h1, rfl⟩ := h
      have hu := arr_of hT ht
      obtain ⟨zv, hz1, hz2⟩ := zero_run (w := w) (hT _ _ ht)
      have hrz : Rep2 p C w (zeroCs z).d0 zv.cells.toList := by rw [hz2]; exact zeroCs_rep (zero_one (hT _ _ ht))
      obtain ⟨out, ho1, ho2⟩ := buildA_goes _ _ (zeroCs z) zv.cells hps hrz h1 hφ
      refine ⟨rfl, .agg out, ?_, out.toList, by simp, ho2⟩
      simp only [Instr.build, Sem.run_bind, hz1, run_underlying hu, Result.andThen_ok, Sem.run_pure, (hT _ _ hti).size w, hmap, ho1]
    · cases h
  · cases h
end
end Go.Proofs.YtcdifgacoleckaaDoor.Ab
namespace Go.Proofs.YtcdifgacoleckaaDoor.Ab
open Go Go.RowKit

section
variable {P : Program} {T : Nat → Option TI} {X : Ctx} {w : World}

def PubOk (m : Mem) (us : Upds) : Prop := ∀ u ∈ us, ∃ b, m u.1 = some b ∧ u.2 = ⟨b.ver, b.body, b.cells.length⟩

theorem RM.pub_le {p : Rho} (h : RM X p w) {id : Nat} {b : Blk} (hb : p.mem id = some b) : b.pub ≤ b.cells.length := by
  have := h.blk id b hb
  unfold BlkOk at this
  split at this
  · rw [this.2.1]; exact Nat.zero_le _
  · exact this.2.2.2.1

theorem appU_cons (m : Mem) (u : Nat × Blk) (us : Upds) : appU m (u :: us) = appU (upd m u.1 (some u.2)) us := rfl
theorem appU_append (m : Mem) (us vs : Upds) : appU m (us ++ vs) = appU (appU m us) vs := by simp [appU, List.foldl_append]

theorem RM.pubs {μ : Nat → Option Nat} : ∀ (us : Upds) (m : Mem), RM X ⟨m, μ⟩ w → PubOk m us →
    RM X ⟨appU m us, μ⟩ w ∧ Kept ⟨m, μ⟩ (CW X ⟨m, μ⟩ w) w ⟨appU m us, μ⟩ (CW X ⟨appU m us, μ⟩ w) w ∧ (∀ u ∈ us, appU m us u.1 = some u.2) ∧ ∀ id, (∀ u ∈ us, u.1 ≠ id) → appU m us id = m id
  | [], m, h, _ => ⟨h, Kept.rfl', (fun u hu => nomatch hu), fun _ _ => rfl⟩
  | u :: us, m, h, hp => by
    obtain ⟨b, hb, hu⟩ := hp u (by simp)
    have h1 := h.pub (id := u.1) (n := b.cells.length) hb (h.pub_le hb) (Nat.le_refl _)
    have hp' : PubOk (upd m u.1 (some u.2)) us := fun v hv => by
      obtain ⟨c, hc, hv'⟩ := hp v (by simp [hv])
      by_cases hi : v.1 = u.1
      · rw [hi, hb] at hc
        cases hc
        exact ⟨u.2, by rw [hi, upd_same], by rw [hv', hu]; rfl⟩
      · exact ⟨c, by rw [upd_ne _ _ hi]; exact hc, hv'⟩
    rw [← hu] at h1
    obtain ⟨k1, k2, k3, k4⟩ := RM.pubs us _ h1.1 hp'
    refine ⟨k1, h1.2.trans k2, fun v hv => ?_, fun id hid => ?_⟩
    · rw [appU_cons]
      by_cases hmem : ∃ v' ∈ us, v'.1 = v.1
      · obtain ⟨v', hv', e⟩ := hmem
        have := k3 v' hv'
        rw [e] at this
        rw [this]
        obtain ⟨c, hc, e1⟩ := hp v' (by simp [hv'])
        obtain ⟨c', hc', e2⟩ := hp v hv
        rw [e, hc'] at hc
        cases hc
        rw [e1, e2]
      · rcases List.mem_cons.1 hv with rfl | hv
        · rw [k4 _ (fun v' hv' e => hmem ⟨v', hv', e⟩), upd_same]
        · exact absurd ⟨v, hv, rfl⟩ hmem
    · rw [appU_cons, k4 id (fun v hv => hid v (by simp [hv])), upd_ne _ _ (Ne.symm (hid u (by simp)))]

theorem frz_ok {m : Mem} {x : D0} {e : E} {us : Upds} (h : frz m x = some (e, us)) : PubOk m us := by
  unfold frz at h
  split at h
  · cases h; exact fun u hu => by cases hu
  · cases h; exact fun u hu => by cases hu
  · rename_i id ver
    split at h
    · rename_i bv z xs pub hb
      cases hv : Nat.beq bv ver with
      | false => simp [hv] at h
      | true =>
        simp only [hv, cond_true, Option.some.injEq, Prod.mk.injEq] at h
        obtain ⟨rfl, rfl⟩ := h
        intro u hu
        simp at hu
        subst hu
        exact ⟨_, hb, rfl⟩
    · cases h
  · rename_i id ver off z n
    split at h
    · rename_i bv cs pub hb
      cases hv : Nat.beq bv ver with
      | false => simp [hv] at h
      | true =>
        simp only [hv, cond_true, Option.some.injEq, Prod.mk.injEq] at h
        obtain ⟨rfl, rfl⟩ := h
        intro u hu
        simp at hu
        subst hu
        exact ⟨_, hb, rfl⟩
    · cases h
  · rename_i id ver off
    split at h
    · rename_i bv cs pub hb
      cases hv : Nat.beq bv ver with
      | false => simp [hv] at h
      | true =>
        simp only [hv, cond_true, Option.some.injEq, Prod.mk.injEq] at h
        obtain ⟨rfl, rfl⟩ := h
        intro u hu
        simp at hu
        subst hu
        exact ⟨_, hb, rfl⟩
    · cases h
  · cases h; exact fun u hu => by cases hu
  · cases h
theorem frzL_ok {m : Mem} : ∀ {xs : List D0} {es : List E} {us : Upds}, frzL m xs = some (es, us) → PubOk m us
  | [], _, _, h => by cases h; exact fun u hu => by cases hu
  | x :: r, es, us, h => by
    rw [frzL] at h
    split at h
    · rename_i e u es' us' h1 h2
      cases h
      intro v hv
      rcases List.mem_append.1 hv with hv | hv
      · exact frz_ok h1 v hv
      · exact frzL_ok h2 v hv
    · cases h
theorem frzC_ok {m : Mem} {c : Cs} {es : List E} {us : Upds} (h : frzC m c = some (es, us)) : PubOk m us := by
  cases c with
  | es xs => cases h; exact fun u hu => by cases hu
  | ds xs => exact frzL_ok h

theorem flatten_len {z : Nat} : ∀ (xs : List (List E)), (∀ cs ∈ xs, cs.length = z) → xs.flatten.length = xs.length * z
  | [], _ => by simp
  | x :: xs, h => by
    rw [List.flatten_cons, List.length_append, flatten_len xs (fun cs hc => h cs (by simp [hc])), h x (by simp), List.length_cons, Nat.succ_mul]
    omega

theorem row_ok {p : Rho} (h : RM X p w) {id ver z pub : Nat} {xs : List (List E)} (hb : p.mem id = some ⟨ver, .row z xs, pub⟩) : 0 < z ∧ ∀ cs ∈ xs, cs.length = z := by
  have := h.blk id _ hb
  unfold BlkOk at this
  split at this
  · exact this.2.2
  · exact this.1

/-- an own row, all of it published, reads as data -/
theorem own_data {p : Rho} (h : RM X p w) {id ver z : Nat} {xs : List (List E)} (hb : p.mem id = some ⟨ver, .row z xs, (Body.row z xs).cells.length⟩) {v : Value} (hv : Rep0 p (CW X p w) w (.own id ver) v) :
    RepE (CW X p w) (.sl xs) v := by
  obtain ⟨hz0, hz⟩ := row_ok h hb
  obtain ⟨_, blk, h1, h2, h3⟩ := hv
  rw [hb] at h1
  cases h1
  obtain ⟨z', n', q1, q2, q3⟩ := h3 rfl
  simp only [Body.shape, Prod.mk.injEq] at q1
  obtain ⟨rfl, rfl⟩ := q1
  rcases q3 with ⟨q3, A, rfl⟩ | ⟨g, cap, g1, rfl, g3, g4, g5⟩
  · have hx0 : xs = [] := List.eq_nil_of_length_eq_zero q3
    subst hx0
    exact RepE.sl A 0 0 z 0 0 (fun _ _ => undef) [] rfl (Nat.le_refl _) (Nat.zero_le _) (fun h => absurd h (by omega)) (fun cs hc => by cases hc) (fun i cs j e hi => by cases hi) (fun i cs j e hi => by cases hi)
  · have hok := h.blk id _ hb
    simp only [BlkOk, g1] at hok
    obtain ⟨_, b1, b2, _⟩ := hok
    have key : ∀ i cs j e, xs[i]? = some cs → cs[j]? = some e → ∃ u, CW X p w g (0 + i * z + j) u ∧ RepE (CW X p w) e u := fun i cs j e hi hj => by
      have hm := mem_row h hb g1 i
      have hgd : xs.getD i [] = cs := by simp [List.getD_eq_getElem?_getD, hi]
      rw [hgd] at hm
      obtain ⟨u, u1, u2⟩ := hm j (.e e) (by simp [Cs.d0, hj])
      refine ⟨u, ⟨by rw [Nat.zero_add]; exact u1, fun hno => absurd b1 hno, fun _ id' blk' m1 m2 => ?_⟩, u2⟩
      obtain rfl := b2 id' blk' m1 m2
      rw [hb] at m1
      cases m1
      have hil := (List.getElem?_eq_some_iff.1 hi).1
      have hjl := (List.getElem?_eq_some_iff.1 hj).1
      rw [hz _ (List.mem_of_getElem? hi)] at hjl
      simp only [Body.cells, List.length_map, flatten_len xs hz]
      have : (i + 1) * z ≤ xs.length * z := Nat.mul_le_mul_right _ hil
      rw [Nat.succ_mul] at this
      omega
    refine RepE.sl _ _ _ z g 0 (fun i j => (w.cell? ⟨g, 0 + i * z + j, none⟩).getD undef) xs rfl g3 g4 (fun _ => rfl) hz (fun i cs j e hi hj => ?_) (fun i cs j e hi hj => ?_)
    · obtain ⟨u, k1, k2⟩ := key i cs j e hi hj
      rw [k1.1]
      exact k1
    · obtain ⟨u, k1, k2⟩ := key i cs j e hi hj
      rw [k1.1]
      exact k2

/-- a piece of a variable, all of it published, reads as data -/
theorem bsl_data {p : Rho} (h : RM X p w) {id ver off z n : Nat} {cs : List E} (hb : p.mem id = some ⟨ver, .box (.es cs), (Body.box (.es cs)).cells.length⟩) {v : Value} (hv : Rep0 p (CW X p w) w (.bsl id ver off z n) v) :
    RepE (CW X p w) (.sl (chunksE z n (cs.drop off))) v := by
  obtain ⟨_, blk, h1, h2, h3⟩ := hv
  rw [hb] at h1
  cases h1
  obtain ⟨z0, z1, g, cap, g1, rfl, g3, g4⟩ := h3 rfl
  simp only [Body.shape, Cs.d0, List.length_map] at z1
  have hok := h.blk id _ hb
  simp only [BlkOk, g1] at hok
  obtain ⟨_, b1, b2, _⟩ := hok
  have hfit : n * z ≤ (cs.drop off).length := by rw [List.length_drop]; omega
  have key : ∀ i ch j e, (chunksE z n (cs.drop off))[i]? = some ch → ch[j]? = some e → ∃ u, CW X p w g (off + i * z + j) u ∧ RepE (CW X p w) e u := fun i ch j e hi hj => by
    have hz := chunksE_z hfit _ (List.mem_of_getElem? hi)
    obtain ⟨hin, he⟩ := chunksE_get hi
    have hjl := (List.getElem?_eq_some_iff.1 hj).1
    have hm := bsl_mem h hb g1 (off + i * z) z
    rw [← List.drop_drop, ← he] at hm
    obtain ⟨u, u1, u2⟩ := hm j (.e e) (by simp [hj])
    refine ⟨u, ⟨u1, fun hno => absurd b1 hno, fun _ id' blk' m1 m2 => ?_⟩, u2⟩
    obtain rfl := b2 id' blk' m1 m2
    rw [hb] at m1
    cases m1
    have : (i + 1) * z ≤ n * z := Nat.mul_le_mul_right _ hin
    rw [Nat.succ_mul] at this
    simp only [Body.cells, Cs.d0, List.length_map]
    omega
  refine RepE.sl _ _ _ z g off (fun i j => (w.cell? ⟨g, off + i * z + j, none⟩).getD undef) _ chunksE_len g3 g4 (fun _ => rfl) (chunksE_z hfit) (fun i ch j e hi hj => ?_) (fun i ch j e hi hj => ?_)
  · obtain ⟨u, k1, k2⟩ := key i ch j e hi hj
    rw [k1.1]
    exact k1
  · obtain ⟨u, k1, k2⟩ := key i ch j e hi hj
    rw [k1.1]
    exact k2

theorem ep_pt {p : Rho} {C : Nat → Nat → Value → Prop} {w : World} {cs : List E} {v : Value} (hv : Rep0 p C w (.eptr cs) v) : RepE C (.pt cs) v := by
  obtain ⟨b, o, rfl, h⟩ := hv
  classical
  have key : ∀ j, ∃ u, ∀ e, cs[j]? = some e → C b (o + j) u ∧ RepE C e u := fun j => by
    cases hj : cs[j]? with
    | none => exact ⟨undef, fun e he => nomatch he⟩
    | some e =>
      obtain ⟨u, h1, h2⟩ := h j e hj
      exact ⟨u, fun e' he => by cases he; exact ⟨h1, h2⟩⟩
  exact RepE.pt b o (fun j => Classical.choose (key j)) cs (fun j e he => (Classical.choose_spec (key j) e he).1) (fun j e he => (Classical.choose_spec (key j) e he).2)
theorem ptr_data {p : Rho} {w : World} {X : Ctx} (h : RM X p w) {id ver off : Nat} {cs : List E} (hb : p.mem id = some ⟨ver, .box (.es cs), (Body.box (.es cs)).cells.length⟩) {p' : Rho} {v : Value} (hv : Rep0 p (CW X p w) w (.ptr id ver off) v) :
    Rep0 p' (CW X p w) w (.eptr (cs.drop off)) v := by
  obtain ⟨_, blk, h1, h2, h3⟩ := hv
  rw [hb] at h1
  cases h1
  obtain ⟨g, g1, rfl⟩ := h3 rfl
  have hok := h.blk id _ hb
  simp only [BlkOk, g1] at hok
  obtain ⟨_, b1, b2, _, cur, et, lo, hi, b4, b5, b6, b7⟩ := hok
  refine ⟨g, off, rfl, fun j e he => ?_⟩
  rw [List.getElem?_drop] at he
  obtain ⟨u, u1, u2⟩ := b7 (off + j) (.e e) (by simp [Blk.cells, Body.cells, Cs.d0, he])
  refine ⟨u, ⟨by rw [cell_row b4]; exact u1, fun hno => absurd b1 hno, fun _ id' blk' m1 m2 => ?_⟩, u2⟩
  obtain rfl := b2 id' blk' m1 m2
  rw [hb] at m1
  cases m1
  have := (List.getElem?_eq_some_iff.1 he).1
  simpa [Body.cells, Cs.d0] using this

theorem frz_rep {m m' : Mem} {μ : Nat → Option Nat} (h : RM X ⟨m', μ⟩ w) {x : D0} {e : E} {us : Upds} {v : Value} (hv : Rep0 ⟨m', μ⟩ (CW X ⟨m', μ⟩ w) w x v) (hf : frz m x = some (e, us)) (hu : ∀ u ∈ us, m' u.1 = some u.2) :
    RepE (CW X ⟨m', μ⟩ w) e v := by
  unfold frz at hf
  split at hf
  · cases hf; exact hv
  · cases hf
    obtain rfl : v = .slice none 0 0 := hv
    exact RepE.sl none 0 0 0 0 0 (fun _ _ => undef) [] rfl (Nat.le_refl _) (Nat.zero_le _) (fun h => absurd h (by omega)) (fun cs hc => by cases hc) (fun i cs j e hi => by cases hi) (fun i cs j e hi => by cases hi)
  · rename_i id ver
    split at hf
    · rename_i bv z xs pub hb
      cases hbv : Nat.beq bv ver with
      | false => simp [hbv] at hf
      | true =>
        obtain rfl := Nat.eq_of_beq_eq_true hbv
        simp only [hbv, cond_true, Option.some.injEq, Prod.mk.injEq] at hf
        obtain ⟨rfl, rfl⟩ := hf
        exact own_data h (hu (id, ⟨bv, .row z xs, (Body.row z xs).cells.length⟩) (List.mem_singleton.2 rfl)) hv
    · cases hf
  · rename_i id ver off z n
    split at hf
    · rename_i bv cs pub hb
      cases hbv : Nat.beq bv ver with
      | false => simp [hbv] at hf
      | true =>
        obtain rfl := Nat.eq_of_beq_eq_true hbv
        simp only [hbv, cond_true, Option.some.injEq, Prod.mk.injEq] at hf
        obtain ⟨rfl, rfl⟩ := hf
        exact bsl_data h (hu (id, ⟨bv, .box (.es cs), (Body.box (.es cs)).cells.length⟩) (List.mem_singleton.2 rfl)) hv
    · cases hf
  · rename_i id ver off
    split at hf
    · rename_i bv cs pub hb
      cases hbv : Nat.beq bv ver with
      | false => simp [hbv] at hf
      | true =>
        obtain rfl := Nat.eq_of_beq_eq_true hbv
        simp only [hbv, cond_true, Option.some.injEq, Prod.mk.injEq] at hf
        obtain ⟨rfl, rfl⟩ := hf
        exact ep_pt (ptr_data (p' := ⟨m', μ⟩) h (hu (id, ⟨bv, .box (.es cs), (Body.box (.es cs)).cells.length⟩) (List.mem_singleton.2 rfl)) hv)
    · cases hf
  · cases hf
    exact ep_pt hv
  · cases hf
theorem frzL_rep {m m' : Mem} {μ : Nat → Option Nat} (h : RM X ⟨m', μ⟩ w) : ∀ {xs : List D0} {es : List E} {us : Upds} {vs : List Value}, Rep2 ⟨m', μ⟩ (CW X ⟨m', μ⟩ w) w xs vs → frzL m xs = some (es, us) → (∀ u ∈ us, m' u.1 = some u.2) →
    Rep2 ⟨m', μ⟩ (CW X ⟨m', μ⟩ w) w (es.map .e) vs
  | [], _, _, vs, hr, hf, _ => by cases hf; exact hr
  | x :: r, es, us, [], hr, hf, hu => by have := hr.1; simp at this
  | x :: r, es, us, v :: vs, hr, hf, hu => by
    rw [frzL] at hf
    split at hf
    · rename_i e u es' us' h1 h2
      cases hf
      have ih := frzL_rep h (xs := r) (vs := vs) ⟨by simpa using hr.1, fun i y u hy hu => hr.2 (i + 1) y u (by simpa using hy) (by simpa using hu)⟩ h2 (fun u hu' => hu u (by simp [hu']))
      have h0 := frz_rep h (hr.2 0 x v rfl rfl) h1 (fun u hu' => hu u (by simp [hu']))
      refine ⟨by simp [ih.1], fun i y u hy hu => ?_⟩
      cases i with
      | zero => simp at hy hu; subst hy; subst hu; exact h0
      | succ i => exact ih.2 i y u (by simpa using hy) (by simpa using hu)
    · cases hf
theorem frzC_rep {m m' : Mem} {μ : Nat → Option Nat} (h : RM X ⟨m', μ⟩ w) {c : Cs} {es : List E} {us : Upds} {vs : List Value} (hr : Rep2 ⟨m', μ⟩ (CW X ⟨m', μ⟩ w) w c.d0 vs) (hf : frzC m c = some (es, us)) (hu : ∀ u ∈ us, m' u.1 = some u.2) :
    Rep2 ⟨m', μ⟩ (CW X ⟨m', μ⟩ w) w (es.map .e) vs := by
  cases c with
  | es xs => cases hf; exact hr
  | ds xs => exact frzL_rep h hr hf hu

/-! ### the shape of the claim -/
def Goes (P : Program) (X : Ctx) (p : Rho) (w : World) (o : Oper) (ρ : Operand → Value) (ef : Ef) : Prop :=
  ∃ v w' μ', ((execOp ρ o).run P w = .ok (.value v) w' ∨ ((execOp ρ o).run P w = .ok .skip w' ∧ v = undef)) ∧
    RM X ⟨appU p.mem ef.upds, μ'⟩ w' ∧ Kept p (CW X p w) w ⟨appU p.mem ef.upds, μ'⟩ (CW X ⟨appU p.mem ef.upds, μ'⟩ w') w' ∧ RepD ⟨appU p.mem ef.upds, μ'⟩ (CW X ⟨appU p.mem ef.upds, μ'⟩ w') w' ef.val v

theorem nver_lt {p : Rho} {id : Nat} : ∀ b, p.mem id = some b → b.ver < nver p.mem id := fun b hb => by simp [nver, hb]

/-- a new variable -/
theorem box_goes {p : Rho} (hR : RM X p w) {o : Oper} {ρ : Operand → Value} {c : Cs} {vs : List Value} {t : TypeId} {id : Nat} (hr : Rep2 p (CW X p w) w c.d0 vs) (hrun : (execOp ρ o).run P w = .ok (.value (.pointer (some ⟨w.heap.size, 0, none⟩))) (w.alloc (.cells vs.toArray t))) :
    Goes P X p w o ρ ⟨True, .one (.ptr id (nver p.mem id) 0), [(id, ⟨nver p.mem id, .box c, 0⟩)]⟩ := by
  have h1 := hR.alloc (ob := vs.toArray) (t := t) (lo := 0) (hi := 0) (id := id) (blk := ⟨nver p.mem id, .box c, 0⟩) (w.alloc (.cells vs.toArray t)) rfl rfl rfl rfl trivial (by omega) (by
      show c.d0.length ≤ _
      rw [hr.1]; simp) (Nat.zero_le _) nver_lt (fun i x hx => by
      have hi : i < vs.length := by rw [← hr.1]; exact (List.getElem?_eq_some_iff.1 hx).1
      exact ⟨vs[i], by simp [hi], hr.2 i x _ hx (List.getElem?_eq_getElem hi)⟩)
  exact ⟨_, _, _, .inl hrun, h1.1, h1.2, rfl, _, upd_same _ _ _, Nat.le_refl _, fun _ => ⟨_, upd_same _ _ _, rfl⟩⟩
end
end Go.Proofs.YtcdifgacoleckaaDoor.Ab
namespace Go.Proofs.YtcdifgacoleckaaDoor.Ab
open Go Go.RowKit

section
variable {P : Program} {T : Nat → Option TI} {X : Ctx} {w : World} {p : Rho}

theorem flatten_get {z : Nat} (xs : List (List E)) (hz : ∀ cs ∈ xs, cs.length = z) {k : Nat} {e : E} (h : xs.flatten[k]? = some e) :
    0 < z ∧ xs[k / z]? = some (xs.getD (k / z) []) ∧ (xs.getD (k / z) [])[k % z]? = some e ∧ k = k / z * z + k % z := by
  have hk := (List.getElem?_eq_some_iff.1 h).1
  rw [flatten_len xs hz] at hk
  have hz0 : 0 < z := by
    rcases Nat.eq_zero_or_pos z with h0 | h0
    · rw [h0] at hk; simp at hk
    · exact h0
  have hlt : k / z < xs.length := Nat.div_lt_of_lt_mul (by rw [Nat.mul_comm]; exact hk)
  have he := Nat.div_add_mod k z
  have hm := Nat.mod_lt k hz0
  rw [Nat.mul_comm] at he
  have := flatten_at xs hz (k / z) (k % z) hm
  rw [he, h] at this
  exact ⟨hz0, getD_some hlt, this.symm, he.symm⟩

/-- the cells behind data -/
theorem repE_mem {C : Nat → Nat → Value → Prop} (hC : ∀ b o u, C b o u → w.cell? ⟨b, o, none⟩ = some u) {xs : List (List E)} {A : Option Addr} {n cap : Nat} (h : RepE C (.sl xs) (.slice A n cap)) (h0 : 0 < n) :
    ∃ b o, A = some ⟨b, o, none⟩ ∧ MemAt p C w b o (xs.flatten.map .e) := by
  obtain ⟨A', m, cap', z, b, o, U, he, hn, hc, hm, hA, hz, hC', hr⟩ := repE_sl h
  cases he
  refine ⟨b, o, hA h0, fun j x hx => ?_⟩
  simp only [List.getElem?_map, Option.map_eq_some_iff] at hx
  obtain ⟨e, h1, rfl⟩ := hx
  obtain ⟨z0, f1, f2, f3⟩ := flatten_get xs hz h1
  have h2 := hC _ _ _ (hC' _ _ _ _ f1 f2)
  exact ⟨U (j / z) (j % z), by rw [show o + j = o + j / z * z + j % z by omega]; exact h2, hr _ _ _ _ f1 f2⟩

theorem memAt_src {xs : List D0} {b o : Nat} {C : Nat → Nat → Value → Prop} (hm : MemAt p C w b o xs) {size n c : Nat} {tx e' : TypeId} (hk : P.underlying tx = some (.slice e')) (hl : xs.length = n * size) :
    ∃ news, Src P size tx (.slice (some ⟨b, o, none⟩) n c) n news w ∧ Rep2 p C w xs news := by
  obtain ⟨vs, h1, h2⟩ := hm.list
  exact ⟨vs, Src.ofSlice w hk _ n c vs (by rw [← h1.1, hl]) (fun j u hu => by rw [add_at]; exact h2 j u hu) (rep2_one h1), h1⟩

theorem strBytes_len (s : ByteArray) : (strBytes s).length = s.size := by simp [strBytes]
theorem strBytes_rep {C : Nat → Nat → Value → Prop} (s : ByteArray) : Rep2 p C w ((strBytes s).flatten.map .e) (byteCells s) := by
  have hf : (strBytes s).flatten.map D0.e = s.data.toList.map fun b => D0.e (.v (.int .u8 (b.toNat : Int))) := by
    unfold strBytes
    induction s.data.toList with
    | nil => rfl
    | cons a l ih => simp [ih]
  rw [hf]
  unfold byteCells
  refine ⟨by simp, fun i x u h1 h2 => ?_⟩
  simp only [List.getElem?_map, Option.map_eq_some_iff] at h1 h2
  obtain ⟨b, k1, rfl⟩ := h1
  obtain ⟨b', k2, rfl⟩ := h2
  rw [k1] at k2
  cases k2
  exact RepE.v _ rfl

theorem src_goes (hT : TOk P T) (hR : RM X p w) {sz tx : Nat} {tix : TI} (htx : T tx = some tix) {y : D} {vy : Value} {φ : Prop} {ys : List (List E)}
    (hy : RepD p (CW X p w) w y vy) (h : srcOf p.mem tix.k sz y = some (φ, ys)) (hφ : φ) :
    (∀ cs ∈ ys, cs.length = sz) ∧ (∃ news, Src P sz tx vy ys.length news w ∧ Rep2 p (CW X p w) w (ys.flatten.map .e) news) := by
  obtain ⟨i, d, z, u1, u2, u3, u4, u5, _⟩ := (hT _ _ htx).out
  have hempty : ∀ (A : Option Addr) (cap e' : Nat), P.underlying tx = some (.slice e') → ∃ news, Src P sz tx (.slice A 0 cap) ([] : List (List E)).length news w ∧ Rep2 p (CW X p w) w (([] : List (List E)).flatten.map .e) news := fun A cap e' hke => by
    cases A with
    | none => exact ⟨[], Src.ofNil w hke cap, rfl, fun i x u h => by cases h⟩
    | some a => exact ⟨[], Src.ofSlice w hke a 0 cap [] (by simp) (fun j u h => by cases h) (fun u h => by cases h), rfl, fun i x u h => by cases h⟩
  unfold srcOf at h
  split at h
  · rename_i e' ys' hk
    cases h
    rw [hk] at u5
    have hke : P.underlying tx = some (.slice e') := by rw [u2, show d = .slice e' from u5]
    refine ⟨hφ, ?_⟩
    obtain ⟨A, n, cap, z', b, o, U, rfl, hn, _⟩ := repE_sl hy
    rcases Nat.eq_zero_or_pos n with h0 | h0
    · have hx0 : ys = [] := List.eq_nil_of_length_eq_zero (by omega)
      subst hx0
      subst h0
      exact hempty A cap e' hke
    · obtain ⟨b', o', rfl, hm⟩ := repE_mem (p := p) (fun _ _ _ h => h.1) hy h0
      rw [hn]
      exact memAt_src hm hke (by rw [List.length_map, flatten_len ys hφ, hn])
  · rename_i e' hk
    cases h
    rw [hk] at u5
    obtain rfl : vy = .slice none 0 0 := hy
    exact ⟨fun cs hc => (nomatch hc), hempty none 0 e' (by rw [u2, show d = .slice e' from u5])⟩
  · rename_i e' id ver hk
    rw [hk] at u5
    have hke : P.underlying tx = some (.slice e') := by rw [u2, show d = .slice e' from u5]
    split at h
    · rename_i bv z xs pub hb
      cases hv : (Nat.beq bv ver && Nat.beq z sz) with
      | false => simp [hv] at h
      | true =>
        simp only [hv, cond_true, Option.some.injEq, Prod.mk.injEq] at h
        obtain ⟨rfl, rfl⟩ := h
        simp only [Bool.and_eq_true] at hv
        obtain rfl := Nat.eq_of_beq_eq_true hv.1
        obtain rfl := Nat.eq_of_beq_eq_true hv.2
        obtain ⟨hz0, hz⟩ := row_ok hR hb
        refine ⟨hz, ?_⟩
        obtain ⟨_, blk, h1, h2, h3⟩ := hy
        rw [hb] at h1
        cases h1
        obtain ⟨z', n', q1, q2, q3⟩ := h3 rfl
        simp only [Body.shape, Prod.mk.injEq] at q1
        obtain ⟨rfl, rfl⟩ := q1
        rcases q3 with ⟨q3, A, rfl⟩ | ⟨g, cap, g1, rfl, g3, g4, g5⟩
        · have hx0 : xs = [] := List.eq_nil_of_length_eq_zero q3
          subst hx0
          exact hempty A 0 e' hke
        · exact memAt_src (mem_of hR hb g1) hke (by
            show (xs.flatten.map D0.e).length = _
            rw [List.length_map, flatten_len xs hz])
    · cases h
  · rename_i e' id ver off z n hk
    rw [hk] at u5
    have hke : P.underlying tx = some (.slice e') := by rw [u2, show d = .slice e' from u5]
    split at h
    · rename_i bv cs pub hb
      cases hv : (Nat.beq bv ver && Nat.beq z sz) with
      | false => simp [hv] at h
      | true =>
        simp only [hv, cond_true, Option.some.injEq, Prod.mk.injEq] at h
        obtain ⟨rfl, rfl⟩ := h
        simp only [Bool.and_eq_true] at hv
        obtain rfl := Nat.eq_of_beq_eq_true hv.1
        obtain rfl := Nat.eq_of_beq_eq_true hv.2
        obtain ⟨_, blk, h1, h2, h3⟩ := hy
        rw [hb] at h1
        cases h1
        obtain ⟨z0, z1, g, cap, g1, rfl, g3, g4⟩ := h3 rfl
        simp only [Body.shape, Cs.d0, List.length_map] at z1
        have hfit : n * z ≤ (cs.drop off).length := by rw [List.length_drop]; omega
        refine ⟨chunksE_z hfit, ?_⟩
        rw [chunksE_flat n hfit, chunksE_len]
        exact memAt_src (bsl_mem hR hb g1 off (n * z)) hke (by rw [List.length_map, List.length_take]; omega)
    · cases h
  · rename_i s hk
    rw [hk] at u5
    cases hv : Nat.beq sz 1 with
    | false => simp [hv] at h
    | true =>
      obtain rfl := Nat.eq_of_beq_eq_true hv
      simp only [hv, cond_true, Option.some.injEq, Prod.mk.injEq] at h
      obtain ⟨rfl, rfl⟩ := h
      obtain rfl := repV hy
      refine ⟨fun cs hc => ?_, byteCells s, ?_, strBytes_rep s⟩
      · unfold strBytes at hc
        obtain ⟨b, _, rfl⟩ := List.mem_map.1 hc
        rfl
      · rw [strBytes_len]
        exact Src.ofString w (by rw [u2, show d = .string from u5]) s
  · cases h

/-- what a copy takes out of its source: the first k elements -/
theorem src_first (hT : TOk P T) (hR : RM X p w) {sz tx : Nat} {tix : TI} (htx : T tx = some tix) {y : D} {vy : Value} {φ : Prop} {ys : List (List E)}
    (hy : RepD p (CW X p w) w y vy) (h : srcOf p.mem tix.k sz y = some (φ, ys)) (hφ : φ) :
    (Builtin.lenOf vy).run P w = .ok ys.length w ∧ (∀ cs ∈ ys, cs.length = sz) ∧ ∃ news, Rep2 p (CW X p w) w (ys.flatten.map .e) news ∧ ∀ k, k ≤ ys.length → (Builtin.firstCells sz k vy).run P w = .ok (news.take (k * sz)).toArray w := by
  have hempty : ∀ (A : Option Addr) (cap : Nat), (Builtin.lenOf (.slice A 0 cap)).run P w = .ok 0 w ∧ (∀ cs ∈ ([] : List (List E)), cs.length = sz) ∧ ∃ news, Rep2 p (CW X p w) w (([] : List (List E)).flatten.map .e) news ∧ ∀ k, k ≤ 0 → (Builtin.firstCells sz k (.slice A 0 cap)).run P w = .ok (news.take (k * sz)).toArray w := fun A cap => by
    refine ⟨rfl, fun cs hc => (nomatch hc), [], ⟨rfl, fun i x u h => by cases h⟩, fun k hk => ?_⟩
    obtain rfl : k = 0 := by omega
    rw [Nat.zero_mul]
    cases A with
    | none => rfl
    | some a =>
      have := run_loadCells_list (P := P) w a [] (by simp)
      simp only [Builtin.firstCells, Nat.zero_mul]
      simpa using this
  have hmem : ∀ {xs : List D0} {b o n c : Nat}, MemAt p (CW X p w) w b o xs → xs.length = n * sz → ∃ news, Rep2 p (CW X p w) w xs news ∧ ∀ k, k ≤ n → (Builtin.firstCells sz k (.slice (some ⟨b, o, none⟩) n c)).run P w = .ok (news.take (k * sz)).toArray w := fun {xs b o n c} hm hl => by
    obtain ⟨vs, h1, h2⟩ := hm.list
    refine ⟨vs, h1, fun k hk => ?_⟩
    have hkl : k * sz ≤ n * sz := Nat.mul_le_mul_right _ hk
    have := run_loadCells_list (P := P) w ⟨b, o, none⟩ (vs.take (k * sz)) (fun j u hu => by
      rw [List.getElem?_take] at hu
      split at hu
      · rw [add_at]; exact h2 j u hu
      · cases hu)
    rw [List.length_take, ← h1.1, hl, Nat.min_eq_left hkl] at this
    exact this
  obtain ⟨h0, hsrc, _⟩ := src_goes hT hR htx hy h hφ
  unfold srcOf at h
  split at h
  · rename_i e' ys' hk
    cases h
    obtain ⟨A, n, cap, z', b, o, U, rfl, hn, _⟩ := repE_sl hy
    rcases Nat.eq_zero_or_pos n with h00 | h00
    · have hx0 : ys = [] := List.eq_nil_of_length_eq_zero (by omega)
      subst hx0
      subst h00
      exact hempty A cap
    · obtain ⟨b', o', rfl, hm⟩ := repE_mem (p := p) (fun _ _ _ h => h.1) hy h00
      rw [hn]
      exact ⟨rfl, h0, hmem hm (by rw [List.length_map, flatten_len ys hφ, hn])⟩
  · rename_i e' hk
    cases h
    obtain rfl : vy = .slice none 0 0 := hy
    exact hempty none 0
  · rename_i e' id ver hk
    split at h
    · rename_i bv z xs pub hb
      cases hv : (Nat.beq bv ver && Nat.beq z sz) with
      | false => simp [hv] at h
      | true =>
        simp only [hv, cond_true, Option.some.injEq, Prod.mk.injEq] at h
        obtain ⟨rfl, rfl⟩ := h
        simp only [Bool.and_eq_true] at hv
        obtain rfl := Nat.eq_of_beq_eq_true hv.1
        obtain rfl := Nat.eq_of_beq_eq_true hv.2
        obtain ⟨_, blk, h1, h2, h3⟩ := hy
        rw [hb] at h1
        cases h1
        obtain ⟨z', n', q1, q2, q3⟩ := h3 rfl
        simp only [Body.shape, Prod.mk.injEq] at q1
        obtain ⟨rfl, rfl⟩ := q1
        rcases q3 with ⟨q3, A, rfl⟩ | ⟨g, cap, g1, rfl, g3, g4, g5⟩
        · have hx0 : xs = [] := List.eq_nil_of_length_eq_zero q3
          subst hx0
          exact hempty A 0
        · exact ⟨rfl, h0, hmem (mem_of hR hb g1) (by
            show (xs.flatten.map D0.e).length = _
            rw [List.length_map, flatten_len xs h0])⟩
    · cases h
  · rename_i e' id ver off z n hk
    split at h
    · rename_i bv cs pub hb
      cases hv : (Nat.beq bv ver && Nat.beq z sz) with
      | false => simp [hv] at h
      | true =>
        simp only [hv, cond_true, Option.some.injEq, Prod.mk.injEq] at h
        obtain ⟨rfl, rfl⟩ := h
        simp only [Bool.and_eq_true] at hv
        obtain rfl := Nat.eq_of_beq_eq_true hv.1
        obtain rfl := Nat.eq_of_beq_eq_true hv.2
        obtain ⟨_, blk, h1, h2, h3⟩ := hy
        rw [hb] at h1
        cases h1
        obtain ⟨z0, z1, g, cap, g1, rfl, g3, g4⟩ := h3 rfl
        simp only [Body.shape, Cs.d0, List.length_map] at z1
        have hfit : n * z ≤ (cs.drop off).length := by rw [List.length_drop]; omega
        rw [chunksE_flat n hfit, chunksE_len]
        exact ⟨rfl, h0, hmem (bsl_mem hR hb g1 off (n * z)) (by rw [List.length_map, List.length_take]; omega)⟩
    · cases h
  · rename_i s hk
    cases hv : Nat.beq sz 1 with
    | false => simp [hv] at h
    | true =>
      obtain rfl := Nat.eq_of_beq_eq_true hv
      simp only [hv, cond_true, Option.some.injEq, Prod.mk.injEq] at h
      obtain ⟨rfl, rfl⟩ := h
      obtain rfl := repV hy
      refine ⟨by rw [strBytes_len]; rfl, h0, byteCells s, strBytes_rep s, fun k hk => ?_⟩
      simp only [Builtin.firstCells, Nat.mul_one]
      unfold byteCells
      show Result.ok _ w = Result.ok _ w
      congr 1
      apply Array.ext'
      rw [strBytes_len] at hk
      simp [List.extract_eq_take_drop]
  · cases h

theorem run_store_own {g o : Nat} {t : TypeId} {lo hi : Nat} : ∀ (vs : List Value) (i : Nat) (cur : Array Value) (w : World), w.heap[g]? = some (.cells cur t (lo, hi)) → (lo < hi → cur.size ≤ lo) → o + i + vs.length ≤ cur.size → (∀ v ∈ vs, v.oneCell' = true) →
    (storeCells ⟨g, o, none⟩ vs i).run P w = .ok () (w.setRow g (cur.toList.take (o + i) ++ vs ++ cur.toList.drop (o + i + vs.length)).toArray)
  | [], i, cur, w, hg, _, _, _ => by
    simp only [storeCells, List.append_nil, List.length_nil, Nat.add_zero, List.take_append_drop, Array.toArray_toList]
    rw [setRow_self w g cur t _ hg]
    rfl
  | v :: rest, i, cur, w, hg, hfz, hl, h1 => by
    have hi' : o + i < cur.size := by simp at hl; omega
    have hcell : w.cell? ⟨g, o + i, none⟩ = some cur[o + i] := by simp [World.cell?, hg, hi']
    have hfro : w.frozen? ⟨g, o + i, none⟩ = false := by
      simp only [World.frozen?, hg, Bool.and_eq_false_iff, decide_eq_false_iff_not]
      by_cases hlh : lo < hi
      · have := hfz hlh; left; omega
      · by_cases h2 : lo ≤ o + i
        · right; omega
        · left; exact h2
    have hst : (store ((⟨g, o, none⟩ : Addr).add i) v).run P w = .ok () (w.setRow g (cur.setIfInBounds (o + i) v)) := by
      rw [add_at, run_store P w _ v _ (h1 v (by simp)), hcell]
      simp [hfro, setCell_eq_setRow w g (o + i) cur t _ v hg]
    have ih := run_store_own (g := g) (o := o) (lo := lo) (hi := hi) (t := t) rest (i + 1) (cur.setIfInBounds (o + i) v) (w.setRow g (cur.setIfInBounds (o + i) v)) (setRow_heap w g cur _ t _ hg) (by simpa using hfz) (by simp at hl ⊢; omega) (fun x hx => h1 x (by simp [hx]))
    simp only [storeCells, Sem.run_bind, hst, Result.andThen_ok, ih, setRow_setRow]
    congr 3
    have e := list_seg_step cur.toList (o + i) v rest (by simp at hl ⊢; omega)
    simpa [Array.toList_setIfInBounds, Nat.add_assoc] using e
end
end Go.Proofs.YtcdifgacoleckaaDoor.Ab
namespace Go.Proofs.YtcdifgacoleckaaDoor.Ab
open Go Go.RowKit
set_option linter.unusedSimpArgs false
set_option linter.unusedVariables false

section
variable {P : Program} {T : Nat → Option TI} {X : Ctx} {w : World} {p : Rho}

/-- a new row in a new block -/
theorem row_alloc (hR : RM X p w) {ob : Array Value} {t : TypeId} {lo hi id ver z cap : Nat} {xs : List (List E)} (w' : World) (hw : w'.heap = w.heap.push (.cells ob t (lo, hi))) (h1 : w'.os = w.os) (h2 : w'.tape = w.tape) (h3 : w'.output = w.output)
    (hfz : lo < hi → ob.size ≤ lo) (hz0 : 0 < z) (hz : ∀ cs ∈ xs, cs.length = z) (hver : ∀ b, p.mem id = some b → b.ver < ver) {pub : Nat} (hpub : pub ≤ xs.length * z)
    (hn : xs.length ≤ cap) (hcap : cap ≤ maxLen) (hsz : cap * z ≤ ob.size) {vs : List Value} (hr : Rep2 p (CW X p w) w (xs.flatten.map .e) vs) (hpre : ∀ (i : Nat) u, vs[i]? = some u → ob[i]? = some u) :
    let p' : Rho := ⟨upd p.mem id (some ⟨ver, .row z xs, pub⟩), upd p.μ id (some w.heap.size)⟩
    RM X p' w' ∧ Kept p (CW X p w) w p' (CW X p' w') w' ∧ Rep0 p' (CW X p' w') w' (.own id ver) (.slice (some ⟨w.heap.size, 0, none⟩) xs.length cap) := by
  have hlen : (Blk.mk ver (.row z xs) pub).cells.length = xs.length * z := by
    show (xs.flatten.map D0.e).length = _
    rw [List.length_map, flatten_len xs hz]
  have hmul : xs.length * z ≤ cap * z := Nat.mul_le_mul_right _ hn
  have h := hR.alloc (ob := ob) (t := t) (lo := lo) (hi := hi) (id := id) (blk := ⟨ver, .row z xs, pub⟩) w' hw h1 h2 h3 ⟨hz0, hz⟩ hfz (by rw [hlen]; omega) (by rw [hlen]; exact hpub) hver (fun i x hx => by
    have hi : i < vs.length := by rw [← hr.1]; exact (List.getElem?_eq_some_iff.1 hx).1
    exact ⟨vs[i], hpre i _ (List.getElem?_eq_getElem hi), hr.2 i x _ hx (List.getElem?_eq_getElem hi)⟩)
  refine ⟨h.1, h.2, rfl, _, upd_same _ _ _, Nat.le_refl _, fun _ => ⟨z, xs.length, rfl, hz0, .inr ⟨w.heap.size, cap, upd_same _ _ _, rfl, hn, hcap, ?_⟩⟩⟩
  exact ⟨ob, t, (lo, hi), by rw [hw]; simp, hsz⟩

theorem rep2_flat {C : Nat → Nat → Value → Prop} {xs ys : List (List E)} {us vs : List Value} (h1 : Rep2 p C w (xs.flatten.map .e) us) (h2 : Rep2 p C w (ys.flatten.map .e) vs) : Rep2 p C w ((xs ++ ys).flatten.map .e) (us ++ vs) := by
  rw [List.flatten_append, List.map_append]
  exact rep2_append h1 h2

theorem drew_same (w : World) : w.drew.heap = w.heap ∧ w.drew.os = w.os ∧ w.drew.tape = w.tape ∧ w.drew.output = w.output := ⟨rfl, rfl, rfl, rfl⟩

/-- append: a new block -/
theorem append_grow (hT : TOk P T) (hR : RM X p w) {t tx ty e : Nat} {ti : TI} (ht : P.underlying t = some (.slice e)) (hti : TIOk P e ti) (hz0 : 0 < ti.size) {xs ys : List (List E)} (hzx : ∀ cs ∈ xs, cs.length = ti.size) (hzy : ∀ cs ∈ ys, cs.length = ti.size)
    {A : Option Addr} {cap : Nat} {olds news : List Value} {vy : Value} (hro : Rep2 p (CW X p w) w (xs.flatten.map .e) olds) (hold : (Builtin.firstCells ti.size xs.length (.slice A xs.length cap)).run P w.drew = .ok olds.toArray w.drew)
    (hs : Src P ti.size tx vy ys.length news w) (hrn : Rep2 p (CW X p w) w (ys.flatten.map .e) news) (hg : cap < xs.length + ys.length) (h63 : xs.length + ys.length ≤ maxLen) (hb : (xs.length + ys.length) * ti.bytes ≤ 140737488355328)
    {id ver pub : Nat} (hver : ∀ b, p.mem id = some b → b.ver < ver) (hpub : pub ≤ xs.length * ti.size) :
    ∃ v w', (Builtin.append_ #[t, tx] ty #[.slice A xs.length cap, vy]).run P w = .ok v w' ∧
      let p' : Rho := ⟨upd p.mem id (some ⟨ver, .row ti.size (xs ++ ys), pub⟩), upd p.μ id (some w.heap.size)⟩
      RM X p' w' ∧ Kept p (CW X p w) w p' (CW X p' w') w' ∧ Rep0 p' (CW X p' w') w' (.own id ver) v := by
  obtain ⟨i, d, z, u1, u2, u3, u4, u5, u6, u7, u8⟩ := hti.out
  have hzs : z.cells.size = ti.size := by rw [← Array.length_toList, u7, hti.len]
  have hrun := run_append_grow_src (P := P) w t tx ty e i z ht u1 u6 A xs.length cap olds (by rw [u3]; exact hold) vy ys.length news (by rw [u3]; exact hs) hg (by simp only [maxLen] at h63; omega) (by rw [u4]; exact growslice_fits hg hb)
  have hge := grownCap_ge w (xs.length + ys.length) cap e
  have hcm := grownCap_le_maxLen w (xs.length + ys.length) cap e h63
  have hflat := rep2_flat hro hrn
  have hlen : (olds ++ news).length = (xs.length + ys.length) * ti.size := by
    rw [← hflat.1, List.length_map, flatten_len (xs ++ ys) (fun cs hc => (List.mem_append.1 hc).elim (hzx cs) (hzy cs)), List.length_append]
  refine ⟨_, _, hrun, ?_⟩
  have := row_alloc (X := X) hR (ob := (olds ++ news).toArray ++ Builtin.zeroCells z.cells (grownCap w (xs.length + ys.length) cap e - (xs.length + ys.length))) (t := e) (lo := 0) (hi := 0) (id := id) (ver := ver) (z := ti.size) (cap := grownCap w (xs.length + ys.length) cap e) (xs := xs ++ ys) (pub := pub)
    (w.drew.alloc (.cells ((olds ++ news).toArray ++ Builtin.zeroCells z.cells (grownCap w (xs.length + ys.length) cap e - (xs.length + ys.length))) e)) rfl rfl rfl rfl (by omega) hz0 (fun cs hc => (List.mem_append.1 hc).elim (hzx cs) (hzy cs)) hver (by rw [List.length_append, Nat.add_mul]; omega) (by rw [List.length_append]; exact hge) hcm (by
      rw [Array.size_append, List.size_toArray, hlen, size_zeroCells, hzs, ← Nat.add_mul]
      exact Nat.mul_le_mul_right _ (by omega)) hflat (fun i u hu => by
      rw [Array.getElem?_append_left (by simpa using (List.getElem?_eq_some_iff.1 hu).1)]
      simpa using hu)
  rw [List.length_append] at this
  exact this

theorem two_of {m : Mem} {μ : Nat → Option Nat} {id : Nat} {b : Blk} : (⟨appU m [(id, b)], μ⟩ : Rho) = ⟨upd m id (some b), μ⟩ := rfl

/-- append onto nothing -/
theorem appendNil_goes (hT : TOk P T) (hR : RM X p w) {t tx ty e : Nat} {ti : TI} (ht : P.underlying t = some (.slice e)) (hti : TIOk P e ti) (hz0 : 0 < ti.size) {ys : List (List E)} (hzy : ∀ cs ∈ ys, cs.length = ti.size)
    {A : Option Addr} {news : List Value} {vy : Value} (hs : Src P ti.size tx vy ys.length news w) (hrn : Rep2 p (CW X p w) w (ys.flatten.map .e) news) (h63 : ys.length ≤ maxLen) (hb : ys.length * ti.bytes ≤ 140737488355328)
    {id ver : Nat} (hver : ∀ b, p.mem id = some b → b.ver < ver) :
    ∃ v w' μ', (Builtin.append_ #[t, tx] ty #[.slice A 0 0, vy]).run P w = .ok v w' ∧
      let p' : Rho := ⟨upd p.mem id (some ⟨ver, .row ti.size ys, 0⟩), μ'⟩
      RM X p' w' ∧ Kept p (CW X p w) w p' (CW X p' w') w' ∧ Rep0 p' (CW X p' w') w' (.own id ver) v := by
  rcases Nat.eq_zero_or_pos ys.length with h0 | h0
  · have hy0 : ys = [] := List.eq_nil_of_length_eq_zero h0
    subst hy0
    have hn : news = [] := List.eq_nil_of_length_eq_zero (by rw [hs.newsLen]; simp)
    subst hn
    obtain ⟨i, d, z, u1, u2, u3, u4, u5, u6, u7, u8⟩ := hti.out
    have hsl : ∀ w' : World, (Builtin.lenOf vy).run P w' = .ok 0 w' := hs.len
    have hsc : (Builtin.firstCells ti.size 0 vy).run P w = .ok #[] w := hs.cells
    have g := hR.ghost (id := id) (ver := ver) (z := ti.size) hz0 hver
    refine ⟨.slice A 0 0, w, _, ?_, g.1, g.2, rfl, _, upd_same _ _ _, Nat.le_refl _, fun _ => ⟨ti.size, 0, rfl, hz0, .inl ⟨rfl, A, rfl⟩⟩⟩
    have hst : ∀ a : Addr, (storeCells a []).run P w = .ok () w := fun a => rfl
    rcases hs.kind with ⟨e', hk⟩ | hk <;> cases A <;>
      simp [Builtin.append_, run_underlying ht, run_underlying hk, sizeOf, typeInfo, u1, u3, hsl, hsc, hst]
  · obtain ⟨v, w', h1, h2⟩ := append_grow (ty := ty) (A := A) (cap := 0) (olds := []) (xs := []) (id := id) (ver := ver) (pub := 0) hT hR ht hti hz0 (fun cs hc => nomatch hc) hzy ⟨rfl, fun i x u h => nomatch h⟩ (by
      cases A with
      | none => rfl
      | some a => simp [Builtin.firstCells, loadCells, loadCellsFrom]) hs hrn (by simpa using h0) (by simpa using h63) (by simpa using hb) hver (Nat.zero_le _)
    exact ⟨v, w', _, h1, h2⟩

/-- append onto an own row -/
theorem appendOwn_goes (hT : TOk P T) (hR : RM X p w) {t tx ty e : Nat} {ti : TI} (ht : P.underlying t = some (.slice e)) (hti : TIOk P e ti) {id ver pub : Nat} {xs ys : List (List E)} (hbk : p.mem id = some ⟨ver, .row ti.size xs, pub⟩) (hzy : ∀ cs ∈ ys, cs.length = ti.size)
    {vx vy : Value} (hx : Rep0 p (CW X p w) w (.own id ver) vx) {news : List Value} (hs : Src P ti.size tx vy ys.length news w) (hrn : Rep2 p (CW X p w) w (ys.flatten.map .e) news)
    (h63 : xs.length + ys.length ≤ maxLen) (hb : (xs.length + ys.length) * ti.bytes ≤ 140737488355328) :
    ∃ v w' μ', (Builtin.append_ #[t, tx] ty #[vx, vy]).run P w = .ok v w' ∧
      let p' : Rho := ⟨upd p.mem id (some ⟨ver + 1, .row ti.size (xs ++ ys), pub⟩), μ'⟩
      RM X p' w' ∧ Kept p (CW X p w) w p' (CW X p' w') w' ∧ Rep0 p' (CW X p' w') w' (.own id (ver + 1)) v := by
  obtain ⟨hz0, hzx⟩ := row_ok hR hbk
  have hpub := hR.pub_le hbk
  simp only [Blk.cells, Body.cells, List.length_map, flatten_len xs hzx] at hpub
  have hver : ∀ b, p.mem id = some b → b.ver < ver + 1 := fun b hb => by rw [hbk] at hb; cases hb; exact Nat.lt_succ_self _
  obtain ⟨_, blk, h1, h2, h3⟩ := hx
  rw [hbk] at h1
  cases h1
  obtain ⟨z', n', q1, q2, q3⟩ := h3 rfl
  simp only [Body.shape, Prod.mk.injEq] at q1
  obtain ⟨rfl, rfl⟩ := q1
  rcases q3 with ⟨q3, A, rfl⟩ | ⟨g, cap, g1, rfl, g3, g4, g5⟩
  · have hx0 : xs = [] := List.eq_nil_of_length_eq_zero q3
    subst hx0
    have hp0 : pub = 0 := by simpa using hpub
    subst hp0
    obtain ⟨v, w', μ', k1, k2⟩ := appendNil_goes (ty := ty) (A := A) (id := id) (ver := ver + 1) hT hR ht hti hz0 hzy hs hrn (by simpa using h63) (by simpa using hb) hver
    exact ⟨v, w', μ', k1, by simpa using k2⟩
  · have hm := mem_of hR hbk g1
    have hbo := hR.blk id _ hbk
    simp only [BlkOk, g1] at hbo
    obtain ⟨_, b1, b2, b3, cur, et, lo, hi, b4, b5, b6, b7⟩ := hbo
    obtain ⟨olds, ho1, ho2⟩ := hm.list
    have hol : olds.length = xs.length * ti.size := by rw [← ho1.1]; show (xs.flatten.map D0.e).length = _; rw [List.length_map, flatten_len xs hzx]
    have hcurpre : ∀ (i : Nat) u, olds[i]? = some u → cur[i]? = some u := fun i u hu => by
      have := ho2 i u hu
      rw [Nat.zero_add, cell_row b4] at this
      exact this
    obtain ⟨i, d, z, u1, u2, u3, u4, u5, u6, u7, u8⟩ := hti.out
    obtain ⟨c0, e0, f0, z1, z2⟩ := g5
    rw [b4] at z1
    cases z1
    by_cases hroom : xs.length + ys.length ≤ cap
    · have hfit : xs.length * ti.size + news.length ≤ cur.size := by
        rw [hs.newsLen, ← Nat.add_mul]
        exact Nat.le_trans (Nat.mul_le_mul_right _ hroom) z2
      have hst := run_store_own (P := P) (g := g) (o := xs.length * ti.size) (lo := lo) (hi := hi) (t := et) news 0 cur w b4 b5 (by simpa using hfit) hs.one
      simp only [Nat.add_zero] at hst
      have hr : (Builtin.append_ #[t, tx] ty #[.slice (some ⟨g, 0, none⟩) xs.length cap, vy]).run P w = .ok (.slice (some ⟨g, 0, none⟩) (xs.length + ys.length) cap) (w.setRow g (cur.toList.take (xs.length * ti.size) ++ news ++ cur.toList.drop (xs.length * ti.size + news.length)).toArray) := by
        rcases hs.kind with ⟨e', hk⟩ | hk <;> simp [Builtin.append_, run_underlying ht, run_underlying hk, sizeOf, typeInfo, u1, u3, hs.len, hroom, hs.cells, add_at, hst]
      have htl : (cur.toList.take (xs.length * ti.size)).length = xs.length * ti.size := by simp; omega
      have hcs : (cur.toList.take (xs.length * ti.size) ++ news ++ cur.toList.drop (xs.length * ti.size + news.length)).toArray.size = cur.size := by
        simp only [List.size_toArray, List.length_append, List.length_take, List.length_drop, Array.length_toList]
        omega
      have hflat := rep2_flat ho1 hrn
      have hw := hR.write (blk' := ⟨ver + 1, .row ti.size (xs ++ ys), pub⟩) (w.setRow g (cur.toList.take (xs.length * ti.size) ++ news ++ cur.toList.drop (xs.length * ti.size + news.length)).toArray) hbk g1 b4 (setRow_heap w g cur _ et _ b4) (fun k hk => setRow_other w g k _ hk) (by simp [World.setRow]) rfl rfl rfl hcs (fun o ho => by
        simp only [List.getElem?_toArray]
        rw [List.append_assoc, List.getElem?_append_left (by rw [htl]; exact Nat.lt_of_lt_of_le ho hpub), List.getElem?_take_of_lt (Nat.lt_of_lt_of_le ho hpub)]
        simp) (Nat.le_refl _) (by
          show pub ≤ ((xs ++ ys).flatten.map D0.e).length
          rw [List.length_map, flatten_len (xs ++ ys) (fun cs hc => (List.mem_append.1 hc).elim (hzx cs) (hzy cs)), List.length_append, Nat.add_mul]
          omega) (by
          show ((xs ++ ys).flatten.map D0.e).length ≤ _
          rw [List.length_map, flatten_len (xs ++ ys) (fun cs hc => (List.mem_append.1 hc).elim (hzx cs) (hzy cs)), List.length_append]
          exact Nat.le_trans (Nat.mul_le_mul_right _ hroom) z2) ⟨hz0, fun cs hc => (List.mem_append.1 hc).elim (hzx cs) (hzy cs)⟩ (Nat.le_succ _) (fun e => absurd e (Nat.ne_of_lt (Nat.lt_succ_self _))) (fun j x hx => by
          have hj : j < (olds ++ news).length := by rw [← hflat.1]; exact (List.getElem?_eq_some_iff.1 hx).1
          have hu := List.getElem?_eq_getElem hj
          refine ⟨_, ?_, hflat.2 j x _ hx hu⟩
          simp only [List.getElem?_toArray]
          rw [List.append_assoc]
          by_cases hjo : j < olds.length
          · rw [List.getElem?_append_left (by rw [htl, ← hol]; exact hjo), List.getElem?_take_of_lt (by rw [← hol]; exact hjo)]
            rw [List.getElem?_append_left hjo] at hu
            rw [← hcurpre j _ hu]
            simp
          · rw [List.getElem?_append_right (by rw [htl, ← hol]; omega), htl, ← hol]
            rw [List.getElem?_append_right (by omega)] at hu
            rw [List.getElem?_append_left (List.getElem?_eq_some_iff.1 hu).1]
            exact hu)
      refine ⟨_, _, p.μ, hr, hw.1, hw.2, rfl, _, upd_same _ _ _, Nat.le_refl _, fun _ => ⟨ti.size, xs.length + ys.length, by simp [Body.shape], hz0, .inr ⟨g, cap, g1, rfl, hroom, g4, ?_⟩⟩⟩
      exact ⟨_, _, _, setRow_heap w g cur _ et _ b4, by rw [hcs]; exact z2⟩
    · have holds : ∀ j u, olds[j]? = some u → w.drew.cell? ((⟨g, 0, none⟩ : Addr).add j) = some u := fun j u hu => by
        rw [add_at]
        exact ho2 j u hu
      obtain ⟨v, w', k1, k2⟩ := append_grow (ty := ty) (A := some ⟨g, 0, none⟩) (cap := cap) (olds := olds) (xs := xs) (id := id) (ver := ver + 1) (pub := pub) hT hR ht hti hz0 hzx hzy ho1 (run_firstCells_some w.drew ti.size xs.length _ _ cap olds hol holds) hs hrn (by omega) h63 hb hver (by omega)
      exact ⟨v, w', _, k1, k2⟩

theorem append_goes (hT : TOk P T) (hR : RM X p w) {t tx ty id : Nat} {x y : D} {vx vy : Value} (hx : RepD p (CW X p w) w x vx) (hy : RepD p (CW X p w) w y vy) {ef : Ef} (h : effAppend T p.mem id t tx x y = some ef) (hφ : ef.φ) :
    ∃ v w' μ', (Builtin.append_ #[t, tx] ty #[vx, vy]).run P w = .ok v w' ∧ RM X ⟨appU p.mem ef.upds, μ'⟩ w' ∧ Kept p (CW X p w) w ⟨appU p.mem ef.upds, μ'⟩ (CW X ⟨appU p.mem ef.upds, μ'⟩ w') w' ∧ RepD ⟨appU p.mem ef.upds, μ'⟩ (CW X ⟨appU p.mem ef.upds, μ'⟩ w') w' ef.val v := by
  unfold effAppend at h
  split at h
  · rename_i a b e z tix ht htx
    have hu := slice_of hT ht
    split at h
    · rename_i ti φ ys hti hsrc
      cases hz : Nat.beq ti.size 0 with
      | true => simp [hz] at h
      | false =>
        have hz0 : 0 < ti.size := Nat.pos_of_ne_zero fun e => by rw [e] at hz; cases hz
        simp only [hz, cond_false] at h
        rw [hti] at hsrc
        split at h
        · cases h
          obtain ⟨f1, f2, f3⟩ := hφ
          obtain ⟨k1, news, k2, k3⟩ := src_goes hT hR htx hy hsrc f1
          obtain rfl : vx = .slice none 0 0 := hx
          exact appendNil_goes hT hR hu (hT _ _ hti) hz0 k1 k2 k3 f2 f3 nver_lt
        · rename_i id' ver
          split at h
          · rename_i bv z xs pub hb
            cases hv : (Nat.beq bv ver && Nat.beq z ti.size) with
            | false => simp [hv] at h
            | true =>
              simp only [hv, cond_true, Option.some.injEq] at h
              simp only [Bool.and_eq_true] at hv
              obtain rfl := Nat.eq_of_beq_eq_true hv.1
              obtain rfl := Nat.eq_of_beq_eq_true hv.2
              subst h
              obtain ⟨f1, f2, f3⟩ := hφ
              obtain ⟨k1, news, k2, k3⟩ := src_goes hT hR htx hy hsrc f1
              exact appendOwn_goes hT hR hu (hT _ _ hti) hb k1 hx k2 k3 f2 f3
          · cases h
        · cases h
    · cases h
  · cases h
end
end Go.Proofs.YtcdifgacoleckaaDoor.Ab
namespace Go.Proofs.YtcdifgacoleckaaDoor.Ab
open Go Go.RowKit
set_option linter.unusedSimpArgs false
set_option linter.unusedVariables false

section
variable {P : Program} {T : Nat → Option TI} {X : Ctx} {w : World} {p : Rho}

theorem RepPs.kept {p' : Rho} {C C' : Nat → Nat → Value → Prop} {w' : World} (h : Kept p C w p' C' w') : ∀ {ds : List (Nat × D)} {vs : List (Nat × Value)}, RepPs p C w ds vs → RepPs p' C' w' ds vs
  | [], [], _ => trivial
  | (i, d) :: r, (j, v) :: s, hr => ⟨hr.1, hr.2.1.kept h, RepPs.kept h hr.2.2⟩
  | [], _ :: _, hr => hr.elim
  | _ :: _, [], hr => hr.elim

/-- the elements of a slice literal -/
theorem elems_goes {m m' : Mem} {μ : Nat → Option Nat} (hR : RM X ⟨m', μ⟩ w) {sz : Nat} : ∀ {k : Nat} {ds : List (Nat × D)} {vs : List (Nat × Value)} {φ : Prop} {xs : List (List E)} {us : Upds},
    RepPs ⟨m', μ⟩ (CW X ⟨m', μ⟩ w) w ds vs → effElems m sz k ds = some (φ, xs, us) → φ → (∀ u ∈ us, m' u.1 = some u.2) →
    xs.length = ds.length ∧ (∀ cs ∈ xs, cs.length = sz) ∧ Rep2 ⟨m', μ⟩ (CW X ⟨m', μ⟩ w) w (xs.flatten.map .e) (vs.map fun q => q.2.cells.toList).flatten ∧ (∀ v ∈ vs.map (·.2), v.cells.size = sz) ∧ vs = ((vs.map (·.2)).zipIdx k).map (fun q => (q.2, q.1))
  | k, [], [], φ, xs, us, _, h, _, _ => by
    cases h
    exact ⟨rfl, (fun cs hc => nomatch hc), ⟨rfl, (fun i x u h => nomatch h)⟩, (fun v hv => nomatch hv), rfl⟩
  | k, (i, d) :: r, (j, v) :: s, φ, xs, us, hr, h, hφ, hu => by
    obtain ⟨rfl, hd, hrs⟩ := hr
    rw [effElems] at h
    cases hk : Nat.beq i k with
    | false => simp [hk] at h
    | true =>
      obtain rfl := Nat.eq_of_beq_eq_true hk
      simp only [hk, cond_true] at h
      split at h
      · rename_i c hc
        split at h
        · rename_i es u φ' xs' us' h1 h2
          cases h
          obtain ⟨f1, f2⟩ := hφ
          obtain ⟨k1, k2, k3, k4, k5⟩ := elems_goes hR hrs h2 f2 (fun u hu' => hu u (by simp [hu']))
          have hv := rep_cs hd hc
          have hf := frzC_rep hR hv h1 (fun u hu' => hu u (by simp [hu']))
          refine ⟨by simp [k1], fun cs hcs => ?_, ?_, fun v' hv' => ?_, ?_⟩
          · rcases List.mem_cons.1 hcs with rfl | hcs
            · exact f1
            · exact k2 cs hcs
          · simp only [List.flatten_cons, List.map_append, List.map_cons]
            exact rep2_append hf k3
          · rcases List.mem_cons.1 hv' with rfl | hv'
            · have := hf.1
              rw [List.length_map, f1] at this
              simpa using this.symm
            · exact k4 v' hv'
          · simp only [List.map_cons, List.zipIdx_cons]
            rw [← k5]
        · cases h
      · cases h
  | k, [], _ :: _, _, _, _, hr, _, _, _ => hr.elim
  | k, _ :: _, [], _, _, _, hr, _, _, _ => hr.elim

theorem elems_ok {m : Mem} {sz : Nat} : ∀ {k : Nat} {ds : List (Nat × D)} {φ : Prop} {xs : List (List E)} {us : Upds}, effElems m sz k ds = some (φ, xs, us) → PubOk m us
  | k, [], _, _, _, h => by cases h; exact fun u hu => nomatch hu
  | k, (i, d) :: r, φ, xs, us, h => by
    rw [effElems] at h
    cases hk : Nat.beq i k with
    | false => simp [hk] at h
    | true =>
      simp only [hk, cond_true] at h
      split at h
      · split at h
        · rename_i es u φ' xs' us' h1 h2
          cases h
          intro v hv
          rcases List.mem_append.1 hv with hv | hv
          · exact frzC_ok h1 v hv
          · exact elems_ok h2 v hv
        · cases h
      · cases h

theorem all_ne {us : Upds} {id : Nat} (h : (us.all fun u => !Nat.beq u.1 id) = true) : ∀ u ∈ us, u.1 ≠ id := fun u hu e => by
  have := List.all_eq_true.1 h u hu
  rw [e] at this
  simp at this

theorem fill_list (sz : Nat) (hs : 0 < sz) (vs : List Value) (cells : Array Value) (h1 : ∀ v ∈ vs, v.cells.size = sz) (hn : vs.length * sz = cells.size) :
    ∃ out : Array Value, Instr.fill (fun i => some (i * sz, sz)) cells (vs.zipIdx.map fun q => (q.2, q.1)) = some out ∧ out.toList = (vs.map fun v => v.cells.toList).flatten := by
  have key : ∀ (vs : List Value) (k : Nat) (cells : Array Value) (pre : List Value), (∀ v ∈ vs, v.cells.size = sz) → pre.length = k * sz → (k + vs.length) * sz = cells.size → cells.toList.take (k * sz) = pre →
      ∃ out : Array Value, Instr.fill (fun i => some (i * sz, sz)) cells ((vs.zipIdx k).map fun q => (q.2, q.1)) = some out ∧ out.toList = pre ++ (vs.map fun v => v.cells.toList).flatten := by
    intro vs
    induction vs with
    | nil =>
      intro k cells pre _ hp hc ht
      refine ⟨cells, rfl, ?_⟩
      simp only [List.map_nil, List.flatten_nil, List.append_nil]
      rw [← ht, List.take_of_length_le]
      simp only [List.length_nil, Nat.add_zero] at hc
      simp [hc]
    | cons v vs ih =>
      intro k cells pre h1 hp hc ht
      have hv := h1 v (by simp)
      simp only [List.length_cons] at hc
      have hle : k * sz + sz ≤ cells.size := by
        rw [← hc, ← Nat.succ_mul]
        exact Nat.mul_le_mul_right _ (by omega)
      simp only [List.zipIdx_cons, List.map_cons]
      obtain ⟨cs', e1, e2⟩ := fill_one (place := fun i => some (i * sz, sz)) (cells := cells) (rest := (vs.zipIdx (k + 1)).map fun q => (q.2, q.1)) (i := k) (v := v) rfl hv hle
      rw [e1]
      have hcs : cs'.size = cells.size := by
        rw [← Array.length_toList, e2]
        simp [hv]
        omega
      obtain ⟨out, o1, o2⟩ := ih (k + 1) cs' (pre ++ v.cells.toList) (fun u hu => h1 u (by simp [hu])) (by simp [hp, hv, Nat.succ_mul]) (by rw [hcs, ← hc]; congr 1; omega) (by
        rw [e2, ht, List.take_append_of_le_length (by simp [hp, hv, Nat.succ_mul]), List.take_of_length_le (by simp [hp, hv, Nat.succ_mul])])
      exact ⟨out, o1, by rw [o2]; simp⟩
  obtain ⟨out, o1, o2⟩ := key vs 0 cells [] h1 (by simp) (by simpa using hn) (by simp)
  exact ⟨out, o1, by simpa using o2⟩

theorem buildSlice_goes (hT : TOk P T) (hR : RM X p w) {t len id : Nat} {ps : Array (Nat × Operand)} {ev : Ev} {o : Oper} {ρ : Operand → Value} (ho : o.op = .buildSlice t len ps) (hρ : ∀ q ∈ ps.toList, RepD p (CW X p w) w (ev q.2) (ρ q.2)) {ef : Ef}
    (h : effBuildSl T p.mem id t len (ps.toList.map fun q => (q.1, ev q.2)) = some ef) (hφ : ef.φ) : Goes P X p w o ρ ef := by
  have hps := repPs_map (p := p) (C := CW X p w) (w := w) ps.toList hρ
  have hmap : (ps.map fun (i, x) => (i, ρ x)).toList = ps.toList.map fun q => (q.1, ρ q.2) := by simp
  generalize (ps.toList.map fun q => (q.1, ρ q.2)) = vs at hps hmap
  generalize (ps.toList.map fun q => (q.1, ev q.2)) = ds at hps h
  unfold effBuildSl at h
  split at h
  · rename_i a b e z ht
    have hu := slice_of hT ht
    split at h
    · rename_i ti hti
      have htik := hT _ _ hti
      split at h
      · rename_i φ xs us he
        cases hc : (Nat.beq ti.size 0 || !Nat.beq ds.length len || !(us.all fun u => !Nat.beq u.1 id)) with
        | true => simp [hc] at h
        | false =>
          simp only [hc, cond_false, Option.some.injEq] at h
          simp only [Bool.or_eq_false_iff, Bool.not_eq_false'] at hc
          obtain ⟨⟨c1, c2⟩, c3⟩ := hc
          have hz0 : 0 < ti.size := Nat.pos_of_ne_zero fun e => by rw [e] at c1; cases c1
          obtain rfl := Nat.eq_of_beq_eq_true c2
          subst h
          obtain ⟨f1, f2, f4⟩ := hφ
          obtain ⟨m, μ⟩ := p
          obtain ⟨r1, r2, r3, r4⟩ := RM.pubs us m hR (elems_ok he)
          obtain ⟨k1, k2, k3, k4, k5⟩ := elems_goes r1 (hps.kept r2) he f1 r3
          have hvl : (vs.map (·.2)).length = ds.length := by
            have : ∀ (ds : List (Nat × D)) (vs : List (Nat × Value)), RepPs ⟨m, μ⟩ (CW X ⟨m, μ⟩ w) w ds vs → vs.length = ds.length := by
              intro ds
              induction ds with
              | nil => intro vs h; cases vs with
                | nil => rfl
                | cons => exact h.elim
              | cons d ds ih => intro vs h; cases vs with
                | nil => exact h.elim
                | cons v vs => simp [ih vs h.2.2]
            rw [List.length_map, this ds vs hps]
          have hvz : (vs.map fun q => q.2.cells.toList).flatten = ((vs.map (·.2)).map fun v => v.cells.toList).flatten := by rw [List.map_map]; rfl
          generalize hvv : vs.map (·.2) = us' at k4 k5 hvl hvz
          obtain ⟨zv, hz1, hz2⟩ := zero_run (w := w) htik
          obtain ⟨zz, hzz⟩ : ∃ zz : Array Value, (if ds.length * ti.size = 0 then pure #[] else do pure (← zeroValue e).cells : Sem (Array Value)).run P w = .ok zz w := by
            by_cases h0 : ds.length * ti.size = 0
            · exact ⟨#[], by rw [if_pos h0]; rfl⟩
            · exact ⟨zv.cells, by rw [if_neg h0]; simp [hz1]⟩
          obtain ⟨out, o1, o2⟩ := fill_list ti.size hz0 us' ((Array.range (ds.length * ti.size)).map fun q => zz[q % zz.size]!) k4 (by rw [hvl]; simp)
          rw [← k5] at o1
          have hrun : (execOp ρ o).run P w = .ok (.value (.slice (some ⟨w.heap.size, 0, none⟩) ds.length ds.length)) (w.alloc (.cells out e)) := by
            have hno : ¬ (ds.length * ti.size > 2 ^ 24) := by omega
            have hb : (Instr.buildSlice t ds.length (ps.map fun (i, x) => (i, ρ x))).run P w = .ok (.slice (some ⟨w.heap.size, 0, none⟩) ds.length ds.length) (w.alloc (.cells out e)) := by
              by_cases h0 : ds.length * ti.size = 0
              · rw [if_pos h0] at hzz
                cases hzz
                have o1' : Instr.fill (fun i => some (i * ti.size, ti.size)) ((Array.range (ds.length * ti.size)).map fun q => (#[] : Array Value)[q % (#[] : Array Value).size]!) vs = some out := o1
                simp only [Instr.buildSlice, Sem.run_bind, run_underlying hu, Result.andThen_ok, htik.size, hno, if_false, if_pos h0, hmap, Sem.run_pure]
                rw [o1']
                simp [newRow]
              · rw [if_neg h0] at hzz
                simp only [Sem.run_bind, hz1, Result.andThen_ok, Sem.run_pure, Result.ok.injEq] at hzz
                obtain ⟨rfl, _⟩ := hzz
                simp only [Instr.buildSlice, Sem.run_bind, run_underlying hu, Result.andThen_ok, htik.size, hno, if_false, if_neg h0, hz1, hmap, Sem.run_pure]
                have o1' : Instr.fill (fun i => some (i * ti.size, ti.size)) ((Array.range (ds.length * ti.size)).map fun q => zv.cells[q % zv.cells.size]!) vs = some out := o1
                rw [o1']
                simp [newRow]
            simp only [execOp, ho, Sem.run_bind, hb, Result.andThen_ok]
            rfl
          have hol : out.size = ds.length * ti.size := by
            have h1 := k3.1
            rw [List.length_map, flatten_len xs k2, k1, hvz, ← o2, Array.length_toList] at h1
            exact h1.symm
          have ra := row_alloc (X := X) (p := ⟨appU m us, μ⟩) r1 (ob := out) (t := e) (lo := 0) (hi := 0) (id := id) (ver := nver m id) (z := ti.size) (cap := ds.length) (xs := xs) (pub := 0) (w.alloc (.cells out e)) rfl rfl rfl rfl (by omega) hz0 k2 (fun b hb => by
            have hb : appU m us id = some b := hb
            rw [r4 id (all_ne c3)] at hb
            exact nver_lt (p := ⟨m, μ⟩) b hb) (Nat.zero_le _) (by rw [k1]; exact Nat.le_refl _) (by simp only [maxLen]; omega) (by rw [hol]; exact Nat.le_refl _) k3 (fun i u hu => by
              rw [hvz, ← o2] at hu
              rw [← Array.getElem?_toList]
              exact hu)
          rw [k1] at ra
          refine ⟨_, _, upd μ id (some w.heap.size), .inl hrun, ?_⟩
          simp only [appU_append]
          exact ⟨ra.1, r2.trans ra.2.1, ra.2.2⟩
      · cases h
    · cases h
  · cases h

/-- a slice literal of data, told as data at once -/
theorem lit_goes (hT : TOk P T) (hR : RM X p w) {t len id : Nat} {ps : Array (Nat × Operand)} {ev : Ev} {o : Oper} {ρ : Operand → Value} (ho : o.op = .buildSlice t len ps) (hρ : ∀ q ∈ ps.toList, RepD p (CW X p w) w (ev q.2) (ρ q.2)) {φ : Prop} {i ver i' ver' z' pub' : Nat} {xs' : List (List E)}
    (h : effBuildSl T p.mem id t len (ps.toList.map fun q => (q.1, ev q.2)) = some ⟨φ, .one (.own i ver), [(i', ⟨ver', .row z' xs', pub'⟩)]⟩) (hφ : φ) : Goes P X p w o ρ ⟨True, .one (.e (.sl xs')), []⟩ := by
  have hps := repPs_map (p := p) (C := CW X p w) (w := w) ps.toList hρ
  have hmap : (ps.map fun (i, x) => (i, ρ x)).toList = ps.toList.map fun q => (q.1, ρ q.2) := by simp
  generalize (ps.toList.map fun q => (q.1, ρ q.2)) = vs at hps hmap
  generalize (ps.toList.map fun q => (q.1, ev q.2)) = ds at hps h
  unfold effBuildSl at h
  split at h
  · rename_i a b e z ht
    have hu := slice_of hT ht
    split at h
    · rename_i ti hti
      have htik := hT _ _ hti
      split at h
      · rename_i φ xs us he
        cases hc : (Nat.beq ti.size 0 || !Nat.beq ds.length len || !(us.all fun u => !Nat.beq u.1 id)) with
        | true => simp [hc] at h
        | false =>
          simp only [hc, cond_false, Option.some.injEq, Ef.mk.injEq] at h
          simp only [Bool.or_eq_false_iff, Bool.not_eq_false'] at hc
          obtain ⟨⟨c1, c2⟩, c3⟩ := hc
          have hz0 : 0 < ti.size := Nat.pos_of_ne_zero fun e => by rw [e] at c1; cases c1
          obtain rfl := Nat.eq_of_beq_eq_true c2
          obtain ⟨rfl, _, h⟩ := h
          cases us with
          | cons u r => cases r <;> cases h
          | nil =>
          obtain ⟨e1, e2⟩ := Prod.mk.inj (List.cons.inj h).1
          subst e1
          cases e2
          obtain ⟨f1, f2, f4⟩ := hφ
          obtain ⟨m, μ⟩ := p
          obtain ⟨r1, r2, r3, r4⟩ := RM.pubs [] m hR (elems_ok he)
          obtain ⟨k1, k2, k3, k4, k5⟩ := elems_goes r1 (hps.kept r2) he f1 r3
          have hvl : (vs.map (·.2)).length = ds.length := by
            have : ∀ (ds : List (Nat × D)) (vs : List (Nat × Value)), RepPs ⟨m, μ⟩ (CW X ⟨m, μ⟩ w) w ds vs → vs.length = ds.length := by
              intro ds
              induction ds with
              | nil => intro vs h; cases vs with
                | nil => rfl
                | cons => exact h.elim
              | cons d ds ih => intro vs h; cases vs with
                | nil => exact h.elim
                | cons v vs => simp [ih vs h.2.2]
            rw [List.length_map, this ds vs hps]
          have hvz : (vs.map fun q => q.2.cells.toList).flatten = ((vs.map (·.2)).map fun v => v.cells.toList).flatten := by rw [List.map_map]; rfl
          generalize hvv : vs.map (·.2) = us' at k4 k5 hvl hvz
          obtain ⟨zv, hz1, hz2⟩ := zero_run (w := w) htik
          obtain ⟨zz, hzz⟩ : ∃ zz : Array Value, (if ds.length * ti.size = 0 then pure #[] else do pure (← zeroValue e).cells : Sem (Array Value)).run P w = .ok zz w := by
            by_cases h0 : ds.length * ti.size = 0
            · exact ⟨#[], by rw [if_pos h0]; rfl⟩
            · exact ⟨zv.cells, by rw [if_neg h0]; simp [hz1]⟩
          obtain ⟨out, o1, o2⟩ := fill_list ti.size hz0 us' ((Array.range (ds.length * ti.size)).map fun q => zz[q % zz.size]!) k4 (by rw [hvl]; simp)
          rw [← k5] at o1
          have hrun : (execOp ρ o).run P w = .ok (.value (.slice (some ⟨w.heap.size, 0, none⟩) ds.length ds.length)) (w.alloc (.cells out e)) := by
            have hno : ¬ (ds.length * ti.size > 2 ^ 24) := by omega
            have hb : (Instr.buildSlice t ds.length (ps.map fun (i, x) => (i, ρ x))).run P w = .ok (.slice (some ⟨w.heap.size, 0, none⟩) ds.length ds.length) (w.alloc (.cells out e)) := by
              by_cases h0 : ds.length * ti.size = 0
              · rw [if_pos h0] at hzz
                cases hzz
                have o1' : Instr.fill (fun i => some (i * ti.size, ti.size)) ((Array.range (ds.length * ti.size)).map fun q => (#[] : Array Value)[q % (#[] : Array Value).size]!) vs = some out := o1
                simp only [Instr.buildSlice, Sem.run_bind, run_underlying hu, Result.andThen_ok, htik.size, hno, if_false, if_pos h0, hmap, Sem.run_pure]
                rw [o1']
                simp [newRow]
              · rw [if_neg h0] at hzz
                simp only [Sem.run_bind, hz1, Result.andThen_ok, Sem.run_pure, Result.ok.injEq] at hzz
                obtain ⟨rfl, _⟩ := hzz
                simp only [Instr.buildSlice, Sem.run_bind, run_underlying hu, Result.andThen_ok, htik.size, hno, if_false, if_neg h0, hz1, hmap, Sem.run_pure]
                have o1' : Instr.fill (fun i => some (i * ti.size, ti.size)) ((Array.range (ds.length * ti.size)).map fun q => zv.cells[q % zv.cells.size]!) vs = some out := o1
                rw [o1']
                simp [newRow]
            simp only [execOp, ho, Sem.run_bind, hb, Result.andThen_ok]
            rfl
          have hol : out.size = ds.length * ti.size := by
            have h1 := k3.1
            rw [List.length_map, flatten_len xs' k2, k1, hvz, ← o2, Array.length_toList] at h1
            exact h1.symm
          have hbel : Below w.heap.size w (w.alloc (.cells out e)) := ⟨rfl, rfl, rfl, by show w.heap.size ≤ (w.heap.push _).size; rw [Array.size_push]; omega, fun q hq => by
            show (w.heap.push _)[q]? = _
            rw [Array.getElem?_push, if_neg (by omega)]⟩
          obtain ⟨q1, q2⟩ := hR.call hbel
          have hcell : ∀ q, (w.alloc (.cells out e)).cell? ⟨w.heap.size, q, none⟩ = out[q]? := fun q => cell_row (fr := (0, 0)) (by show (w.heap.push _)[w.heap.size]? = _; rw [Array.getElem?_push, if_pos rfl]) q
          have hget : ∀ i cs j e', xs'[i]? = some cs → cs[j]? = some e' → ∃ u, out[i * ti.size + j]? = some u ∧ RepE (CW X ⟨m, μ⟩ w) e' u := fun i cs j e' hi hj => by
            have hj' : j < ti.size := by
              rw [← k2 cs (List.mem_of_getElem? hi)]
              exact (List.getElem?_eq_some_iff.1 hj).1
            have hfl := flatten_at xs' k2 i j hj'
            rw [List.getD_eq_getElem?_getD, hi, Option.getD_some, hj] at hfl
            have hlt := (List.getElem?_eq_some_iff.1 hfl).1
            have hlt2 : i * ti.size + j < (vs.map fun q => q.2.cells.toList).flatten.length := by
              rw [← k3.1, List.length_map]
              exact hlt
            refine ⟨_, ?_, k3.2 (i * ti.size + j) (.e e') _ (by rw [List.getElem?_map, hfl]; rfl) (List.getElem?_eq_getElem hlt2)⟩
            rw [← Array.getElem?_toList, o2, ← hvz]
            exact List.getElem?_eq_getElem hlt2
          refine ⟨_, _, μ, .inl hrun, q1, q2, ?_⟩
          have hnot : ∀ id blk, m id = some blk → μ id = some w.heap.size → False := fun id blk m1 m2 => by
            have := hR.blk id blk m1
            simp only [BlkOk, m2] at this
            obtain ⟨_, _, _, _, cur, e, lo, hi, g4, _⟩ := this
            exact absurd (Array.getElem?_eq_some_iff.1 g4).1 (Nat.lt_irrefl _)
          refine RepE.sl _ _ _ ti.size w.heap.size 0 (fun i j => out.getD (i * ti.size + j) undef) xs' k1 (Nat.le_refl _) (by simp only [maxLen]; omega) (fun _ => rfl) k2 (fun i cs j e' hi hj => ?_) (fun i cs j e' hi hj => ?_)
          · obtain ⟨u, h1, _⟩ := hget i cs j e' hi hj
            refine ⟨?_, fun hno => absurd (.inl hR.bel.size) hno, fun _ id blk m1 m2 => (hnot id blk m1 m2).elim⟩
            rw [Nat.zero_add, hcell, Array.getD_eq_getD_getElem?, h1]
            rfl
          · obtain ⟨u, h1, h2⟩ := hget i cs j e' hi hj
            have h2 := h2.mono q2.hC
            rw [show out.getD (i * ti.size + j) undef = u by rw [Array.getD_eq_getD_getElem?, h1]; rfl]
            exact h2
      · cases h
    · cases h
  · cases h

theorem byteCells_get (s : ByteArray) : (byteCells s).length = s.size := byteCells_length s

theorem bytes_goes (hT : TOk P T) (hR : RM X p w) {s dt id : Nat} {x : Operand} {dx : D} {o : Oper} {ρ : Operand → Value} (ho : o.op = .convert s dt x) (hx : RepD p (CW X p w) w dx (ρ x)) {ef : Ef}
    (h : effBytes T p.mem id s dt dx = some ef) (hφ : ef.φ) : Goes P X p w o ρ ef := by
  unfold effBytes at h
  split at h
  · rename_i a b z a' b' e z' str hs hd
    have hus := str_of hT hs
    have hud := slice_of hT hd
    split at h
    · rename_i b'' z'' hte
      have hue := int_of hT hte
      cases h
      have hρx := repV hx
      obtain ⟨i0, d0, z0, g1, g2, _⟩ := (hT _ _ hs).out
      have hge : str.size ≤ grownCap w str.size 0 e := grownCap_ge w str.size 0 e
      have hle : grownCap w str.size 0 e ≤ maxLen := grownCap_le_maxLen w str.size 0 e hφ
      have hbl : (byteCells str).length = str.size := byteCells_length str
      have hbc : (Lib.bytesCells w e str).size = grownCap w str.size 0 e ∧ ∀ (i : Nat) u, (byteCells str)[i]? = some u → (Lib.bytesCells w e str)[i]? = some u := by
        have hel : (str.data.map fun b => Value.int .u8 (b.toNat : Int)) = (byteCells str).toArray := by
          apply Array.ext'
          simp [byteCells]
        unfold Lib.bytesCells
        rw [hel]
        refine ⟨by simp only [Array.size_append, List.size_toArray, Array.size_replicate, hbl]; omega, fun i u hu => ?_⟩
        rw [Array.getElem?_append_left (by simpa using (List.getElem?_eq_some_iff.1 hu).1)]
        simpa using hu
      have hheap : (Lib.bytesWorld w e str).heap = w.heap.push (.cells (Lib.bytesCells w e str) e ((Lib.bytesCells w e str).size, (Lib.bytesCells w e str).size + 1)) := by
        apply Array.ext
        · rw [Lib.bytesWorld_size]; simp
        · intro i h1 h2
          rw [Lib.bytesWorld_size] at h1
          have : (Lib.bytesWorld w e str).heap[i]? = (w.heap.push (.cells (Lib.bytesCells w e str) e ((Lib.bytesCells w e str).size, (Lib.bytesCells w e str).size + 1)))[i]? := by
            by_cases hi : i = w.heap.size
            · subst hi
              rw [Lib.bytesWorld_at_new]; simp
            · rw [Lib.bytesWorld_at_old _ _ _ _ (by omega), Array.getElem?_push, if_neg hi]
          rw [Array.getElem?_eq_getElem (by rw [Lib.bytesWorld_size]; exact h1), Array.getElem?_eq_getElem h2] at this
          exact Option.some.inj this
      have hrun : (execOp ρ o).run P w = .ok (.value (.slice (some ⟨w.heap.size, 0, none⟩) str.size (grownCap w str.size 0 e))) (Lib.bytesWorld w e str) := by
        have := Lib.run_convert_string_bytes (P := P) w s dt e str g2 hud hue
        rw [← hρx] at this
        simp only [execOp, ho, Sem.run_bind, this, Result.andThen_ok]
        rfl
      have hfr : (Lib.bytesWorld w e str).os = w.os ∧ (Lib.bytesWorld w e str).tape = w.tape ∧ (Lib.bytesWorld w e str).output = w.output := ⟨rfl, rfl, rfl⟩
      have ra := row_alloc (X := X) (p := p) hR (ob := Lib.bytesCells w e str) (t := e) (lo := (Lib.bytesCells w e str).size) (hi := (Lib.bytesCells w e str).size + 1) (id := id) (ver := nver p.mem id) (z := 1) (cap := grownCap w str.size 0 e) (xs := strBytes str) (pub := 0) (Lib.bytesWorld w e str) hheap hfr.1 hfr.2.1 hfr.2.2 (fun _ => Nat.le_refl _) (by omega) (fun cs hc => by
          unfold strBytes at hc
          obtain ⟨b, _, rfl⟩ := List.mem_map.1 hc
          rfl) nver_lt (Nat.zero_le _) (by rw [strBytes_len]; exact hge) hle (by rw [hbc.1]; omega) (strBytes_rep str) hbc.2
      rw [strBytes_len] at ra
      exact ⟨_, _, _, .inl hrun, ra.1, ra.2.1, ra.2.2⟩
    · cases h
  · cases h

theorem trunc_goes (hT : TOk P T) (hR : RM X p w) {t i ver : Nat} {x : Operand} {lo hi : Option Operand} {ev : Ev} {o : Oper} {ρ : Operand → Value} (ho : o.op = .slice t x lo hi none) (hx : Rep0 p (CW X p w) w (.own i ver) (ρ x)) (hhi : ∀ y, hi = some y → RepD p (CW X p w) w (ev y) (ρ y)) {ef : Ef}
    (h : truncO T p.mem t i ver (lo.map ev) (hi.map ev) = some ef) (hφ : ef.φ) : Goes P X p w o ρ ef := by
  unfold truncO at h
  split at h
  · rename_i k n a b e s bv z xs hlo hhi' ht hb
    split at h
    · rename_i ti hti
      cases hv : (Nat.beq bv ver && Nat.beq z ti.size) with
      | false => simp [hv] at h
      | true =>
        simp only [hv, cond_true, Option.some.injEq] at h
        subst h
        rw [Bool.and_eq_true] at hv
        obtain rfl := Nat.eq_of_beq_eq_true hv.1
        obtain rfl := Nat.eq_of_beq_eq_true hv.2
        obtain ⟨f0, f1⟩ := hφ
        have hu := slice_of hT ht
        have hsz := (hT _ _ hti).size w
        obtain rfl : lo = none := Option.map_eq_none_iff.1 hlo
        obtain ⟨y, rfl, hy⟩ := Option.map_eq_some_iff.1 hhi'
        have hyv := hhi y rfl
        rw [hy] at hyv
        have hyv : ρ y = .int k n := repV hyv
        have hbd : ∀ len cap : Nat, n ≤ cap → (Instr.sliceBounds true len cap none (some (.int k n)) none).run P w = .ok (0, n.toNat, cap) w := fun len cap hc => by
          have := bounds_goes (P := P) (w := w) (C := CW X p w) (p := p) (lo := none) (hi := some (.one (.e (.v (.int k n))))) (vlo := none) (vhi := some (.int k n)) (fun _ h => nomatch h) (fun _ => rfl) (fun x hx => ⟨_, rfl, by cases hx; exact repV_mk rfl⟩) (fun h => nomatch h) (len := len) (cap := cap) rfl rfl (Int.le_refl 0) f0 hc true
          exact this
        obtain ⟨hz0, hzx⟩ := row_ok hR hb
        obtain ⟨_, blk, h1, h2, h3⟩ := hx
        rw [hb] at h1
        cases h1
        obtain ⟨z', n', q1, q2, q3⟩ := h3 rfl
        simp only [Body.shape, Prod.mk.injEq] at q1
        obtain ⟨rfl, rfl⟩ := q1
        rcases q3 with ⟨q3, A, hA⟩ | ⟨g, cap, g1, hA, g3, g4, g5⟩
        · have hx0 : xs = [] := List.eq_nil_of_length_eq_zero q3
          subst hx0
          have hn : n = 0 := by simp at f1; omega
          subst hn
          have hg := hR.ghost (id := i) (ver := bv + 1) q2 (fun b hb' => by rw [hb] at hb'; cases hb'; exact Nat.lt_succ_self _)
          have hbd := hbd 0 0 (Int.le_refl 0)
          refine ⟨.slice A 0 0, w, upd p.μ i none, .inl ?_, hg.1, hg.2, rfl, _, upd_same _ _ _, Nat.le_refl _, fun _ => ⟨ti.size, 0, rfl, q2, .inl ⟨rfl, A, rfl⟩⟩⟩
          simp only [execOp, ho, Sem.run_bind, Option.map_none, Option.map_some, hA, hyv]
          simp [Instr.sliceAt, Instr.slice, run_underlying hu, hbd, hsz]
        · have hbo := hR.blk i _ hb
          simp only [BlkOk, g1] at hbo
          obtain ⟨_, b1, b2, b3, cur, et, lo', hi', b4, b5, b6, b7⟩ := hbo
          have hcl : (xs.take n.toNat).flatten.map D0.e ++ (xs.drop n.toNat).flatten.map D0.e = xs.flatten.map D0.e := by
            rw [← List.map_append, ← List.flatten_append, List.take_append_drop]
          have hw := hR.write (blk' := ⟨bv + 1, .row ti.size (xs.take n.toNat), 0⟩) w hb g1 b4 b4 (fun _ _ => rfl) rfl rfl rfl rfl rfl (fun _ h => absurd h (Nat.not_lt_zero _)) (Nat.le_refl _) (Nat.zero_le _) (by
            have h6 : (xs.flatten.map D0.e).length ≤ cur.size := b6
            rw [← hcl, List.length_append] at h6
            show ((xs.take n.toNat).flatten.map D0.e).length ≤ cur.size
            omega) ⟨q2, fun cs hc => hzx cs (List.mem_of_mem_take hc)⟩ (Nat.le_succ _) (fun e => absurd e (Nat.ne_of_lt (Nat.lt_succ_self _))) (fun j x hj => b7 j x (by
              have hj : ((xs.take n.toNat).flatten.map D0.e)[j]? = some x := hj
              show (xs.flatten.map D0.e)[j]? = some x
              rw [← hcl, List.getElem?_append_left (List.getElem?_eq_some_iff.1 hj).1]
              exact hj))
          have hbd := hbd xs.length cap (by omega)
          have hlen : (xs.take n.toNat).length = n.toNat := by rw [List.length_take]; omega
          refine ⟨.slice (some ⟨g, 0, none⟩) n.toNat cap, w, p.μ, .inl ?_, hw.1, hw.2, rfl, _, upd_same _ _ _, Nat.le_refl _, fun _ => ⟨ti.size, (xs.take n.toNat).length, rfl, q2, .inr ⟨g, cap, g1, by rw [hlen], by omega, g4, g5⟩⟩⟩
          simp only [execOp, ho, Sem.run_bind, Option.map_none, Option.map_some, hA, hyv]
          simp [Instr.sliceAt, Instr.slice, run_underlying hu, hbd, hsz, add_at]
    · cases h
  · cases h
theorem sliceO_goes (hT : TOk P T) (hR : RM X p w) {t : Nat} {x : Operand} {lo hi : Option Operand} {ev : Ev} {o : Oper} {ρ : Operand → Value} (ho : o.op = .slice t x lo hi none) (hx : RepD p (CW X p w) w (ev x) (ρ x)) (hlo : ∀ y, lo = some y → RepD p (CW X p w) w (ev y) (ρ y)) (hhi : ∀ y, hi = some y → RepD p (CW X p w) w (ev y) (ρ y)) {ef : Ef}
    (h : effSliceO T p.mem t (ev x) (lo.map ev) (hi.map ev) = some ef) (hφ : ef.φ) : Goes P X p w o ρ ef := by
  have fin : ∀ {p' : Rho} {y : D} {φ : Prop} {d : D}, Kept p (CW X p w) w p' (CW X p' w) w → RepD p' (CW X p' w) w y (ρ x) → effSlice T t y (lo.map ev) (hi.map ev) = some (φ, d) → φ → ∃ v, (execOp ρ o).run P w = .ok (.value v) w ∧ RepD p' (CW X p' w) w d v := by
    intro p' y φ d hk hy hs hφ
    obtain ⟨v, h1, h2⟩ := slice_goes (P := P) (vlo := lo.map ρ) (vhi := hi.map ρ) hT hy (fun y hy => by
        obtain ⟨z, rfl, rfl⟩ := Option.map_eq_some_iff.1 hy
        exact ⟨_, rfl, (hlo z rfl).kept hk⟩) (fun hn => by simp at hn; simp [hn]) (fun y hy => by
        obtain ⟨z, rfl, rfl⟩ := Option.map_eq_some_iff.1 hy
        exact ⟨_, rfl, (hhi z rfl).kept hk⟩) (fun hn => by simp at hn; simp [hn]) hs hφ
    exact ⟨v, by simp only [execOp, ho, Sem.run_bind, Option.map_none, h1]; rfl, h2⟩
  unfold effSliceO at h
  split at h
  · rename_i i ver he
    rw [he] at hx
    split at h
    · rename_i ef' hf
      cases h
      exact trunc_goes hT hR ho hx hhi hf hφ
    · split at h
      · rename_i e us hf
        rw [Option.map_eq_some_iff] at h
        obtain ⟨⟨φ, d⟩, h1, rfl⟩ := h
        obtain ⟨m, μ⟩ := p
        obtain ⟨r1, r2, r3, r4⟩ := RM.pubs us m hR (frz_ok hf)
        obtain ⟨v, k1, k2⟩ := fin (y := .one (.e e)) r2 (frz_rep r1 (Rep0.kept r2 hx) hf r3) h1 hφ
        exact ⟨v, w, μ, .inl k1, r1, r2, k2⟩
      · cases h
  · rename_i he
    rw [he] at hx
    rw [Option.map_eq_some_iff] at h
    obtain ⟨⟨φ, d⟩, h1, rfl⟩ := h
    obtain ⟨m, μ⟩ := p
    have hnil : RepE (CW X ⟨m, μ⟩ w) (.sl []) (ρ x) := by
      rw [show ρ x = .slice none 0 0 from hx]
      exact RepE.sl none 0 0 0 0 0 (fun _ _ => undef) [] rfl (Nat.le_refl _) (Nat.zero_le _) (fun h => absurd h (by omega)) (fun cs hc => nomatch hc) (fun i cs j e hi => nomatch hi) (fun i cs j e hi => nomatch hi)
    obtain ⟨v, k1, k2⟩ := fin (p' := ⟨m, μ⟩) (y := .one (.e (.sl []))) Kept.rfl' hnil h1 hφ
    exact ⟨v, w, μ, .inl k1, hR, Kept.rfl', k2⟩
  · rename_i id ver off he
    rw [he] at hx
    split at h
    · rename_i a b len e z ht
      have hu := arr_of hT ht
      split at h
      · rename_i ti l h' bv c pub hti hl hh hb
        have hsz := (hT _ _ hti).size w
        cases hv : Nat.beq bv ver with
        | false => simp [hv] at h
        | true =>
          obtain rfl := Nat.eq_of_beq_eq_true hv
          simp only [hv, cond_true, Option.some.injEq] at h
          subst h
          obtain ⟨f0, f1, f2, f3, f4, f5, f6⟩ := hφ
          obtain ⟨h0, blk, h1, h2, h3⟩ := hx
          rw [hb] at h1
          cases h1
          obtain ⟨g, hg, hvx⟩ := h3 rfl
          have hbd := bounds_goes (P := P) (w := w) (C := CW X p w) (p := p) (vlo := lo.map ρ) (vhi := hi.map ρ) (fun y hy => by
            obtain ⟨z, rfl, rfl⟩ := Option.map_eq_some_iff.1 hy
            exact ⟨_, rfl, hlo z rfl⟩) (fun hn => by simp at hn; simp [hn]) (fun y hy => by
            obtain ⟨z, rfl, rfl⟩ := Option.map_eq_some_iff.1 hy
            exact ⟨_, rfl, hhi z rfl⟩) (fun hn => by simp at hn; simp [hn]) hl hh f0 f2 f3 false
          have hne : len ≠ l.toNat := by omega
          refine ⟨.slice (some ⟨g, off + l.toNat * ti.size, none⟩) (h'.toNat - l.toNat) (len - l.toNat), w, p.μ, .inl ?_, hR, Kept.rfl', rfl, _, hb, Nat.le_refl _, fun _ => ⟨f6, ?_, g, len - l.toNat, hg, ?_, ?_, ?_⟩⟩
          · simp only [execOp, ho, Sem.run_bind, Option.map_none, hvx]
            simp [Instr.sliceAt, run_underlying hu, Instr.sureAddr, hbd, hsz, hne, add_at]
          · have e1 : (h' - l).toNat ≤ len - l.toNat := by omega
            have e2 : (h' - l).toNat * ti.size ≤ (len - l.toNat) * ti.size := Nat.mul_le_mul_right _ e1
            have e3 : (len - l.toNat) * ti.size + l.toNat * ti.size = len * ti.size := by rw [← Nat.add_mul]; congr 1; omega
            simp only [Body.shape]
            rw [Cs.len_eq]
            omega
          · rw [show (h' - l).toNat = h'.toNat - l.toNat by omega]
          · omega
          · simp only [maxLen]
            omega
      · cases h
    · cases h
  · cases h

theorem rep2_repl {C : Nat → Nat → Value → Prop} {es : List E} {zs : List Value} (h : Rep2 p C w (es.map .e) zs) : ∀ n, Rep2 p C w ((List.replicate n es).flatten.map .e) (List.replicate n zs).flatten
  | 0 => ⟨rfl, (fun i x u h => nomatch h)⟩
  | n + 1 => by
    simp only [List.replicate_succ, List.flatten_cons, List.map_append]
    exact rep2_append h (rep2_repl h n)
theorem repl_get {z : Nat} {zs : List Value} (hl : zs.length = z) (h0 : 0 < z) : ∀ (n i : Nat) u, (List.replicate n zs).flatten[i]? = some u → i < n * z ∧ zs[i % z]? = some u
  | 0, i, u, h => by simp at h
  | n + 1, i, u, h => by
    simp only [List.replicate_succ, List.flatten_cons] at h
    by_cases hi : i < zs.length
    · rw [List.getElem?_append_left hi] at h
      rw [Nat.succ_mul, Nat.mod_eq_of_lt (by omega)]
      exact ⟨by omega, h⟩
    · rw [List.getElem?_append_right (by omega)] at h
      obtain ⟨h1, h2⟩ := repl_get hl h0 n _ u h
      rw [Nat.succ_mul]
      refine ⟨by omega, ?_⟩
      rw [hl] at h2 hi
      rw [Nat.mod_eq_sub_mod (by omega)]
      exact h2

theorem setEl_flat {z : Nat} (xs : List (List E)) (hz : ∀ cs ∈ xs, cs.length = z) {i j n : Nat} {ys : List E} (hi : i < xs.length) (hj : j + n ≤ z) (hy : ys.length = n) :
    (setEl xs i j n ys).flatten = xs.flatten.take (i * z + j) ++ ys ++ xs.flatten.drop (i * z + j + n) ∧ (∀ cs ∈ setEl xs i j n ys, cs.length = z) ∧ (setEl xs i j n ys).length = xs.length := by
  have hx : xs.getD i [] = xs[i] := by simp [List.getD_eq_getElem?_getD, hi]
  have hlen := hz _ (List.getElem_mem hi)
  have hsp : xs = xs.take i ++ xs[i] :: xs.drop (i + 1) := by rw [List.getElem_cons_drop, List.take_append_drop]
  have hl1 : (xs.take i).flatten.length = i * z := by
    rw [flatten_len _ (fun cs hc => hz cs (List.mem_of_mem_take hc)), List.length_take, Nat.min_eq_left (Nat.le_of_lt hi)]
  have hf : xs.flatten = (xs.take i).flatten ++ (xs[i] ++ (xs.drop (i + 1)).flatten) := by
    have := congrArg List.flatten hsp
    rw [List.flatten_append, List.flatten_cons] at this
    exact this
  refine ⟨?_, fun cs hc => ?_, by simp [setEl]⟩
  · unfold setEl
    rw [hx, List.set_eq_take_append_cons_drop, if_pos hi, List.flatten_append, List.flatten_cons, hf]
    generalize (xs.take i).flatten = A at hl1
    generalize xs[i] = B at hlen
    generalize (xs.drop (i + 1)).flatten = C
    have e1 : (A ++ (B ++ C)).take (i * z + j) = A ++ B.take j := by
      rw [List.take_append, hl1, List.take_of_length_le (by omega), show i * z + j - i * z = j by omega, List.take_append, hlen, show j - z = 0 by omega]
      simp
    have e2 : (A ++ (B ++ C)).drop (i * z + j + n) = B.drop (j + n) ++ C := by
      rw [List.drop_append, hl1, List.drop_of_length_le (by omega), show i * z + j + n - i * z = j + n by omega, List.drop_append, hlen, show j + n - z = 0 by omega]
      simp
    rw [e1, e2]
    simp [List.append_assoc]
  · unfold setEl at hc
    rcases List.mem_or_eq_of_mem_set hc with hc | rfl
    · exact hz cs hc
    · rw [hx]
      simp only [List.length_append, List.length_take, List.length_drop, hlen, hy]
      omega

theorem box_write (hR : RM X p w) {id bv pub g off k : Nat} {b c : Cs} {us : List Value} (hb : p.mem id = some ⟨bv, .box b, pub⟩) (hg : p.μ id = some g) (hcs : Rep2 p (CW X p w) w c.d0 us) (f1 : c.len = k) (f2 : off + k ≤ b.len) (f3 : pub ≤ off)
    {cur : Array Value} {et : TypeId} {lo hi : Nat} (b4 : w.heap[g]? = some (.cells cur et (lo, hi))) (b6 : b.len ≤ cur.size) (b3 : pub ≤ b.len) :
    RM X ⟨upd p.mem id (some ⟨bv, .box (b.put off k c), pub⟩), p.μ⟩ (w.setRow g (cur.toList.take off ++ us ++ cur.toList.drop (off + k)).toArray) ∧
      Kept p (CW X p w) w ⟨upd p.mem id (some ⟨bv, .box (b.put off k c), pub⟩), p.μ⟩ (CW X ⟨upd p.mem id (some ⟨bv, .box (b.put off k c), pub⟩), p.μ⟩ (w.setRow g (cur.toList.take off ++ us ++ cur.toList.drop (off + k)).toArray)) (w.setRow g (cur.toList.take off ++ us ++ cur.toList.drop (off + k)).toArray) := by
  have hsz : us.length = k := by
    have := hcs.1
    rw [Cs.len_eq, f1] at this
    exact this.symm
  have htl : (cur.toList.take off).length = off := by simp; omega
  have hcz : (cur.toList.take off ++ us ++ cur.toList.drop (off + k)).toArray.size = cur.size := by
    simp only [List.size_toArray, List.length_append, List.length_take, List.length_drop, Array.length_toList, hsz]
    omega
  have hlen : (b.put off k c).d0.length = b.len := by
    rw [Cs.put_d0]
    simp only [List.length_append, List.length_take, List.length_drop, Cs.len_eq, f1]
    omega
  have hm := mem_of hR hb hg
  obtain ⟨olds, o1, o2⟩ := hm.list
  have holdl : olds.length = b.len := by rw [← o1.1]; exact Cs.len_eq b
  have hput : Rep2 p (CW X p w) w (b.put off k c).d0 (olds.take off ++ us ++ olds.drop (off + k)) := by
    rw [Cs.put_d0]
    exact rep2_append (rep2_append (rep2_take o1 _) hcs) (rep2_drop o1 _)
  have hcur : ∀ (i : Nat) u, olds[i]? = some u → cur[i]? = some u := fun i u hu => by
    have := o2 i u hu
    rw [Nat.zero_add, cell_row b4] at this
    exact this
  exact hR.write (blk' := ⟨bv, .box (b.put off k c), pub⟩) (w.setRow g (cur.toList.take off ++ us ++ cur.toList.drop (off + k)).toArray) hb hg b4 (setRow_heap w g cur _ et _ b4) (fun k hk => setRow_other w g k _ hk) (by simp [World.setRow]) rfl rfl rfl hcz (fun q hq => by
    have hq : q < off := Nat.lt_of_lt_of_le hq f3
    simp only [List.getElem?_toArray]
    rw [List.append_assoc, List.getElem?_append_left (by rw [htl]; exact hq), List.getElem?_take_of_lt hq]
    simp) (Nat.le_refl _) (by show pub ≤ (b.put off k c).d0.length; rw [hlen]; exact b3) (by show (b.put off k c).d0.length ≤ _; rw [hlen]; exact b6) trivial (Nat.le_refl _) (fun _ => by
      show (0, (b.put off k c).d0.length) = (0, b.d0.length)
      rw [hlen, Cs.len_eq]) (fun q y hy => by
      have hql : q < (olds.take off ++ us ++ olds.drop (off + k)).length := by rw [← hput.1]; exact (List.getElem?_eq_some_iff.1 hy).1
      have hu := List.getElem?_eq_getElem hql
      refine ⟨_, ?_, hput.2 q y _ hy hu⟩
      simp only [List.getElem?_toArray]
      generalize (olds.take off ++ us ++ olds.drop (off + k))[q] = u at hu
      rw [List.append_assoc] at hu ⊢
      by_cases hq : q < off
      · rw [List.getElem?_append_left (by simp; omega), List.getElem?_take_of_lt hq] at hu
        rw [List.getElem?_append_left (by rw [htl]; exact hq), List.getElem?_take_of_lt hq]
        have := hcur q u hu
        simpa using this
      · rw [List.getElem?_append_right (by simp; omega)] at hu
        rw [List.getElem?_append_right (by rw [htl]; omega), htl]
        have hto : (olds.take off).length = off := by simp; omega
        rw [hto] at hu
        by_cases hq2 : q - off < us.length
        · rw [List.getElem?_append_left hq2] at hu ⊢
          exact hu
        · rw [List.getElem?_append_right (by omega)] at hu ⊢
          rw [List.getElem?_drop] at hu ⊢
          have := hcur _ u hu
          simpa using this)
theorem copy_goes (hT : TOk P T) (hR : RM X p w) {t tx : Nat} {x y : Operand} {dx dy : D} {o : Oper} {ρ : Operand → Value} (ho : o.op = .call ⟨.builtin .copy, #[x, y], #[t, tx]⟩) (hx : RepD p (CW X p w) w dx (ρ x)) (hy : RepD p (CW X p w) w dy (ρ y)) {ef : Ef}
    (h : effCopy T p.mem t tx dx dy = some ef) (hφ : ef.φ) : Goes P X p w o ρ ef := by
  unfold effCopy at h
  split at h
  · rename_i a b' e z' tix id ver off z n ht htx
    have hu := slice_of hT ht
    split at h
    · rename_i ti bv b pub φ ys hti hb hs
      cases hv : (Nat.beq bv ver && Nat.beq ti.size z) with
      | false => simp [hv] at h
      | true =>
        simp only [hv, cond_true, Option.some.injEq] at h
        subst h
        simp only [Bool.and_eq_true] at hv
        obtain rfl := Nat.eq_of_beq_eq_true hv.1
        obtain rfl := Nat.eq_of_beq_eq_true hv.2
        obtain ⟨f1, f2⟩ := hφ
        obtain ⟨s1, s2, news, s3, s4⟩ := src_first hT hR htx hy hs f1
        have hsz := (hT _ _ hti).size w
        obtain ⟨_, blk, h1, h2, h3⟩ := hx
        rw [hb] at h1
        cases h1
        obtain ⟨z0, z1, g, cap, hg, hvx, g3, g4⟩ := h3 rfl
        simp only [Body.shape] at z1
        rw [Cs.len_eq] at z1
        have hbo := hR.blk id _ hb
        simp only [BlkOk, hg] at hbo
        obtain ⟨_, b1, b2, b3, cur, et, lo, hi, b4, b5, b6, b7⟩ := hbo
        simp only [Blk.cells, Body.cells, Cs.len_eq] at b3 b6 b7
        have hk1 : min n ys.length ≤ ys.length := Nat.min_le_right _ _
        have hk2 : min n ys.length ≤ n := Nat.min_le_left _ _
        have hmk : Nat.min ys.length n = min n ys.length := Nat.min_comm _ _
        generalize min n ys.length = k at hk1 hk2 hmk ⊢
        have hkz : k * ti.size ≤ n * ti.size := Nat.mul_le_mul_right _ hk2
        have hnl : news.length = ys.length * ti.size := by rw [← s3.1, List.length_map, flatten_len ys s2]
        have hkn : k * ti.size ≤ news.length := by rw [hnl]; exact Nat.mul_le_mul_right _ hk1
        have hfl : (ys.take k).flatten = ys.flatten.take (k * ti.size) := by
          have e1 : ys.flatten = (ys.take k).flatten ++ (ys.drop k).flatten := by rw [← List.flatten_append, List.take_append_drop]
          have e2 : (ys.take k).flatten.length = k * ti.size := by rw [flatten_len _ (fun cs hc => s2 cs (List.mem_of_mem_take hc)), List.length_take, Nat.min_eq_left hk1]
          rw [e1, List.take_left' e2]
        have hrep : Rep2 p (CW X p w) w (Cs.es (ys.take k).flatten).d0 (news.take (k * ti.size)) := by
          have := rep2_take s3 (k * ti.size)
          rw [← List.map_take, ← hfl] at this
          exact this
        have hlen : (Cs.es (ys.take k).flatten).len = k * ti.size := by
          rw [← Cs.len_eq, hrep.1, List.length_take]
          omega
        have hst := run_store_own (P := P) (g := g) (o := off) (lo := lo) (hi := hi) (t := et) (news.take (k * ti.size)) 0 cur w b4 b5 (by rw [List.length_take]; omega) (rep2_one hrep)
        have hln : (news.take (k * ti.size)).length = k * ti.size := by rw [List.length_take]; omega
        rw [Nat.add_zero, hln] at hst
        have hw := box_write hR hb hg hrep hlen (by omega) f2 b4 b6 b3
        refine ⟨.int .i64 (k : Int), _, p.μ, .inl ?_, hw.1, hw.2, repV_mk rfl⟩
        simp [execOp, ho, resolve, invoke, builtin, Builtin.copy_, run_underlying hu, hvx, s1, hsz, hmk, s4 k hk1, hst, goInt]
    · cases h
  · cases h
theorem store_goes (hT : TOk P T) (hR : RM X p w) {t : Nat} {ti : TI} (hti : T t = some ti) {a x : Operand} {da dx : D} {o : Oper} {ρ : Operand → Value} (ho : o.op = .store t a x) (ha : RepD p (CW X p w) w da (ρ a)) (hx : RepD p (CW X p w) w dx (ρ x)) {ef : Ef}
    (h : effStore ti p.mem da dx = some ef) (hφ : ef.φ) : Goes P X p w o ρ ef := by
  have htik := hT _ _ hti
  -- the store itself
  have hstore : ∀ {g off : Nat} {cur : Array Value} {et : TypeId} {lo hi : Nat}, w.heap[g]? = some (.cells cur et (lo, hi)) → (lo < hi → cur.size ≤ lo) → ρ a = .pointer (some ⟨g, off, none⟩) → (ρ x).cells.size = ti.size → off + ti.size ≤ cur.size → (∀ u ∈ (ρ x).cells.toList, u.oneCell' = true) →
      (execOp ρ o).run P w = .ok .skip (w.setRow g (cur.toList.take off ++ (ρ x).cells.toList ++ cur.toList.drop (off + ti.size)).toArray) := by
    intro g off cur et lo hi h1 h2 h3 h4 h5 h6
    have hst := run_store_own (P := P) (g := g) (o := off) (lo := lo) (hi := hi) (t := et) (ρ x).cells.toList 0 cur w h1 h2 (by simpa [h4] using h5) h6
    simp only [Nat.add_zero, Array.length_toList, h4] at hst
    simp only [execOp, ho, Sem.run_bind, Instr.storeAt, h3, Instr.sureAddr, Sem.run_pure, Result.andThen_ok, storeVar, htik.size]
    rw [if_neg (by rw [h4]; simp), hst]
    rfl
  unfold effStore at h
  split at h
  · cases h
  · rename_i c hc
    have hcs := rep_cs hx hc
    split at h
    · rename_i id ver off
      split at h
      · rename_i bv b pub hb
        cases hv : Nat.beq bv ver with
        | false => simp [hv] at h
        | true =>
          obtain rfl := Nat.eq_of_beq_eq_true hv
          simp only [hv, cond_true, Option.some.injEq] at h
          subst h
          obtain ⟨f1, f2, f3⟩ := hφ
          obtain ⟨_, blk, h1, h2, h3⟩ := ha
          rw [hb] at h1
          cases h1
          obtain ⟨g, hg, hρa⟩ := h3 rfl
          have hbo := hR.blk id _ hb
          simp only [BlkOk, hg] at hbo
          obtain ⟨_, b1, b2, b3, cur, et, lo, hi, b4, b5, b6, b7⟩ := hbo
          simp only [Blk.cells, Body.cells, Cs.len_eq] at b3 b6 b7
          have hsz : (ρ x).cells.size = ti.size := by
            have := hcs.1
            rw [Cs.len_eq, f1] at this
            simpa using this.symm
          have hrun := hstore b4 b5 hρa hsz (by omega) (rep2_one hcs)
          have htl : (cur.toList.take off).length = off := by simp; omega
          have hcz : (cur.toList.take off ++ (ρ x).cells.toList ++ cur.toList.drop (off + ti.size)).toArray.size = cur.size := by
            simp only [List.size_toArray, List.length_append, List.length_take, List.length_drop, Array.length_toList, hsz]
            omega
          have hlen : (b.put off ti.size c).d0.length = b.len := by
            rw [Cs.put_d0]
            simp only [List.length_append, List.length_take, List.length_drop, Cs.len_eq, f1]
            omega
          have hm := mem_of hR hb hg
          obtain ⟨olds, o1, o2⟩ := hm.list
          have holdl : olds.length = b.len := by rw [← o1.1]; exact Cs.len_eq b
          have hput : Rep2 p (CW X p w) w (b.put off ti.size c).d0 (olds.take off ++ (ρ x).cells.toList ++ olds.drop (off + ti.size)) := by
            rw [Cs.put_d0]
            exact rep2_append (rep2_append (rep2_take o1 _) hcs) (rep2_drop o1 _)
          have hcur : ∀ (i : Nat) u, olds[i]? = some u → cur[i]? = some u := fun i u hu => by
            have := o2 i u hu
            rw [Nat.zero_add, cell_row b4] at this
            exact this
          have hw := hR.write (blk' := ⟨bv, .box (b.put off ti.size c), pub⟩) (w.setRow g (cur.toList.take off ++ (ρ x).cells.toList ++ cur.toList.drop (off + ti.size)).toArray) hb hg b4 (setRow_heap w g cur _ et _ b4) (fun k hk => setRow_other w g k _ hk) (by simp [World.setRow]) rfl rfl rfl hcz (fun q hq => by
            have hq : q < off := Nat.lt_of_lt_of_le hq f3
            simp only [List.getElem?_toArray]
            rw [List.append_assoc, List.getElem?_append_left (by rw [htl]; exact hq), List.getElem?_take_of_lt hq]
            simp) (Nat.le_refl _) (by show pub ≤ (b.put off ti.size c).d0.length; rw [hlen]; exact b3) (by show (b.put off ti.size c).d0.length ≤ _; rw [hlen]; exact b6) trivial (Nat.le_refl _) (fun _ => by
              show (0, (b.put off ti.size c).d0.length) = (0, b.d0.length)
              rw [hlen, Cs.len_eq]) (fun q y hy => by
              have hql : q < (olds.take off ++ (ρ x).cells.toList ++ olds.drop (off + ti.size)).length := by rw [← hput.1]; exact (List.getElem?_eq_some_iff.1 hy).1
              have hu := List.getElem?_eq_getElem hql
              refine ⟨_, ?_, hput.2 q y _ hy hu⟩
              simp only [List.getElem?_toArray]
              generalize (olds.take off ++ (ρ x).cells.toList ++ olds.drop (off + ti.size))[q] = u at hu
              rw [List.append_assoc] at hu ⊢
              by_cases hq : q < off
              · rw [List.getElem?_append_left (by simp; omega), List.getElem?_take_of_lt hq] at hu
                rw [List.getElem?_append_left (by rw [htl]; exact hq), List.getElem?_take_of_lt hq]
                have := hcur q u hu
                simpa using this
              · rw [List.getElem?_append_right (by simp; omega)] at hu
                rw [List.getElem?_append_right (by rw [htl]; omega), htl]
                have hto : (olds.take off).length = off := by simp; omega
                rw [hto] at hu
                by_cases hq2 : q - off < (ρ x).cells.toList.length
                · rw [List.getElem?_append_left hq2] at hu ⊢
                  exact hu
                · rw [List.getElem?_append_right (by omega)] at hu ⊢
                  rw [List.getElem?_drop] at hu ⊢
                  have := hcur _ u hu
                  simpa using this)
          exact ⟨undef, _, p.μ, .inr ⟨hrun, rfl⟩, hw.1, hw.2, trivial⟩
      · cases h
    · rename_i id ver i j
      split at h
      · rename_i bv z xs pub es us hb hf
        cases hv : (Nat.beq bv ver && us.all (fun u => !Nat.beq u.1 id)) with
        | false => simp [hv] at h
        | true =>
          simp only [hv, cond_true, Option.some.injEq] at h
          simp only [Bool.and_eq_true] at hv
          obtain rfl := Nat.eq_of_beq_eq_true hv.1
          subst h
          obtain ⟨f1, f2, f3, f4⟩ := hφ
          obtain ⟨m, μ⟩ := p
          obtain ⟨r1, r2, r3, r4⟩ := RM.pubs us m hR (frzC_ok hf)
          have hb' : appU m us id = some ⟨bv, .row z xs, pub⟩ := by rw [r4 id (all_ne hv.2)]; exact hb
          obtain ⟨hz0, hzx⟩ := row_ok hR hb
          obtain ⟨_, blk, h1, h2, h3⟩ := ha
          rw [hb] at h1
          cases h1
          obtain ⟨g, hg, hρa⟩ := h3 rfl
          simp only [Body.shape] at hρa
          have hcs' := frzC_rep r1 (hcs.kept r2) hf r3
          have hg : μ id = some g := hg
          have hbo := r1.blk id _ hb'
          simp only [BlkOk, hg] at hbo
          obtain ⟨_, b1, b2, b3, cur, et, lo, hi, b4, b5, b6, b7⟩ := hbo
          simp only [Blk.cells, Body.cells, List.length_map, flatten_len xs hzx] at b3 b6
          have hsz : (ρ x).cells.size = ti.size := by
            have := hcs'.1
            rw [List.length_map, f1] at this
            simpa using this.symm
          have hil : (i + 1) * z ≤ xs.length * z := Nat.mul_le_mul_right _ f3
          rw [Nat.succ_mul] at hil
          have hrun := hstore b4 b5 hρa hsz (by omega) (rep2_one hcs)
          obtain ⟨s1, s2, s3⟩ := setEl_flat xs hzx (j := j) (n := ti.size) (ys := es) f3 f2 f1
          obtain ⟨off, hoff⟩ : ∃ off, off = i * z + j := ⟨_, rfl⟩
          rw [← hoff] at hrun s1 f4
          have hofl : off + ti.size ≤ xs.length * z := by omega
          have htl : (cur.toList.take off).length = off := by simp; omega
          have hcz : (cur.toList.take off ++ (ρ x).cells.toList ++ cur.toList.drop (off + ti.size)).toArray.size = cur.size := by
            simp only [List.size_toArray, List.length_append, List.length_take, List.length_drop, Array.length_toList, hsz]
            omega
          have hm := mem_of r1 hb' hg
          obtain ⟨olds, o1, o2⟩ := hm.list
          have holdl : olds.length = xs.length * z := by
            rw [← o1.1]
            show (xs.flatten.map D0.e).length = _
            rw [List.length_map, flatten_len xs hzx]
          have hput : Rep2 ⟨appU m us, μ⟩ (CW X ⟨appU m us, μ⟩ w) w ((setEl xs i j ti.size es).flatten.map .e) (olds.take off ++ (ρ x).cells.toList ++ olds.drop (off + ti.size)) := by
            rw [s1, List.map_append, List.map_append, List.map_take, List.map_drop]
            exact rep2_append (rep2_append (rep2_take o1 _) hcs') (rep2_drop o1 _)
          have hcur : ∀ (i : Nat) u, olds[i]? = some u → cur[i]? = some u := fun i u hu => by
            have := o2 i u hu
            rw [Nat.zero_add, cell_row b4] at this
            exact this
          have hw := r1.write (blk' := ⟨bv, .row z (setEl xs i j ti.size es), pub⟩) (w.setRow g (cur.toList.take off ++ (ρ x).cells.toList ++ cur.toList.drop (off + ti.size)).toArray) hb' hg b4 (setRow_heap w g cur _ et _ b4) (fun k hk => setRow_other w g k _ hk) (by simp [World.setRow]) rfl rfl rfl hcz (fun q hq => by
            have hq : q < off := Nat.lt_of_lt_of_le hq f4
            simp only [List.getElem?_toArray]
            rw [List.append_assoc, List.getElem?_append_left (by rw [htl]; exact hq), List.getElem?_take_of_lt hq]
            simp) (Nat.le_refl _) (by
              show pub ≤ ((setEl xs i j ti.size es).flatten.map D0.e).length
              rw [List.length_map, flatten_len _ s2, s3]; exact b3) (by
              show ((setEl xs i j ti.size es).flatten.map D0.e).length ≤ _
              rw [List.length_map, flatten_len _ s2, s3]; exact b6) ⟨hz0, s2⟩ (Nat.le_refl _) (fun _ => by
              show (z, (setEl xs i j ti.size es).length) = (z, xs.length)
              rw [s3]) (fun q y hy => by
              have hql : q < (olds.take off ++ (ρ x).cells.toList ++ olds.drop (off + ti.size)).length := by rw [← hput.1]; exact (List.getElem?_eq_some_iff.1 hy).1
              have hu := List.getElem?_eq_getElem hql
              refine ⟨_, ?_, hput.2 q y _ hy hu⟩
              simp only [List.getElem?_toArray]
              generalize (olds.take off ++ (ρ x).cells.toList ++ olds.drop (off + ti.size))[q] = u at hu
              rw [List.append_assoc] at hu ⊢
              by_cases hq : q < off
              · rw [List.getElem?_append_left (by simp; omega), List.getElem?_take_of_lt hq] at hu
                rw [List.getElem?_append_left (by rw [htl]; exact hq), List.getElem?_take_of_lt hq]
                have := hcur q u hu
                simpa using this
              · rw [List.getElem?_append_right (by simp; omega)] at hu
                rw [List.getElem?_append_right (by rw [htl]; omega), htl]
                have hto : (olds.take off).length = off := by simp; omega
                rw [hto] at hu
                by_cases hq2 : q - off < (ρ x).cells.toList.length
                · rw [List.getElem?_append_left hq2] at hu ⊢
                  exact hu
                · rw [List.getElem?_append_right (by omega)] at hu ⊢
                  rw [List.getElem?_drop] at hu ⊢
                  have := hcur _ u hu
                  simpa using this)
          refine ⟨undef, _, μ, .inr ⟨hrun, rfl⟩, ?_⟩
          simp only [appU_append]
          exact ⟨hw.1, r2.trans hw.2, trivial⟩
      · cases h
    · cases h
theorem make_goes (hT : TOk P T) (hR : RM X p w) {t id : Nat} {l c : Operand} {dl dc : D} {o : Oper} {ρ : Operand → Value} (ho : o.op = .makeSlice t l c) (hl : RepD p (CW X p w) w dl (ρ l)) (hc : RepD p (CW X p w) w dc (ρ c)) {ef : Ef}
    (h : effMake T p.mem id t dl dc = some ef) (hφ : ef.φ) : Goes P X p w o ρ ef := by
  unfold effMake at h
  split at h
  · rename_i a b e z k1 n k2 k ht
    have hu := slice_of hT ht
    have hρl := repV hl
    have hρc := repV hc
    split at h
    · rename_i ti hti
      have htik := hT _ _ hti
      split at h
      · rename_i es hf
        cases hz : Nat.beq ti.size 0 with
        | true => simp [hz] at h
        | false =>
          have hz0 : 0 < ti.size := Nat.pos_of_ne_zero fun e => by rw [e] at hz; cases hz
          simp only [hz, cond_false, Option.some.injEq] at h
          subst h
          obtain ⟨f1, f2, f3, f4, f5⟩ := hφ
          obtain ⟨i0, d0, zv, i1, i2, i3, i4, i5, i6, hz2, i8⟩ := htik.out
          have hzr := zeroCs_rep (p := p) (C := CW X p w) (w := w) (zero_one htik)
          obtain ⟨m, μ⟩ := p
          have hes := frzC_rep hR hzr hf (fun u hu => nomatch hu)
          have hzs : zv.cells.size = ti.size := by rw [← Array.length_toList, hz2, htik.len]
          obtain ⟨kn, rfl⟩ := Int.eq_ofNat_of_zero_le (show 0 ≤ k by omega)
          obtain ⟨nn, rfl⟩ := Int.eq_ofNat_of_zero_le f1
          obtain ⟨ob, hob⟩ : ∃ ob : Array Value, ob = madeCells zv.cells (kn * ti.size) := ⟨_, rfl⟩
          have hkb : (i0.bytes : Int) * kn ≤ 281474976710656 := by rw [i4, Int.mul_comm]; omega
          have hrun : (execOp ρ o).run P w = .ok (.value (.slice (some ⟨w.heap.size, 0, none⟩) nn kn)) (w.alloc (.cells ob e)) := by
            have hb := run_make (P := P) w t e i0 zv hu i1 i6 k1 k2 nn kn f1 f2 hkb (by omega)
            rw [Int.toNat_natCast, Int.toNat_natCast, i3, ← hob] at hb
            simp only [execOp, ho, Sem.run_bind, hρl, hρc, hb, Result.andThen_ok]
            rfl
          have hzl : ti.zero.length = ti.size := htik.len
          have hobs : ob.size = kn * ti.size := by rw [hob, size_madeCells]
          have hrep := rep2_repl hes nn
          have hpre : ∀ (i : Nat) u, (List.replicate nn ti.zero).flatten[i]? = some u → ob[i]? = some u := fun i u hu => by
            obtain ⟨q1, q2⟩ := repl_get hzl hz0 nn i u hu
            have hle : nn * ti.size ≤ kn * ti.size := Nat.mul_le_mul_right _ (by omega)
            have hil : i % ti.size < zv.cells.size := by rw [hzs]; exact Nat.mod_lt _ hz0
            rw [hob, madeCells, Array.getElem?_map, Array.getElem?_range, if_pos (by omega)]
            simp only [Option.map_some, hzs]
            rw [getElem!_pos zv.cells (i % ti.size) hil]
            rw [← hz2] at q2
            rw [Array.getElem?_toList, Array.getElem?_eq_getElem hil] at q2
            exact q2
          have ra := row_alloc (X := X) (p := ⟨m, μ⟩) hR (ob := ob) (t := e) (lo := 0) (hi := 0) (id := id) (ver := nver m id) (z := ti.size) (cap := kn) (xs := List.replicate nn es) (pub := 0) (w.alloc (.cells ob e)) rfl rfl rfl rfl (by omega) hz0 (fun cs hc => by rw [List.eq_of_mem_replicate hc]; exact f5) nver_lt (Nat.zero_le _) (by rw [List.length_replicate]; omega) (by simp only [maxLen]; omega) (by rw [hobs]; exact Nat.le_refl _) hrep hpre
          rw [List.length_replicate] at ra
          exact ⟨_, _, _, .inl hrun, ra.1, ra.2.1, ra.2.2⟩
      · cases h
    · cases h
  · cases h

/-! ### walks along texts; tables -/
theorem decode_pos (s : ByteArray) (pos : Nat) (h : pos < s.size) : 1 ≤ (Utf8.decode s pos).2 := by
  rcases Nat.lt_or_ge (s[pos]'h).toNat 128 with ha | ha
  · rw [decode_ascii s pos h ha]; exact Nat.le_refl _
  · exact (decode_high s pos h ha).2
theorem runesF_ok (s : ByteArray) : ∀ (f pos : Nat), s.size ≤ pos + f → Runes s pos (runesF s f pos)
  | 0, pos, h => h
  | f + 1, pos, h => by
    rw [runesF]
    split
    · rename_i hp
      have := decode_pos s pos hp
      exact ⟨hp, rfl, runesF_ok s f _ (by omega)⟩
    · rename_i hp
      exact Nat.not_lt.1 hp
theorem runes_ok (s : ByteArray) : Runes s 0 (runes s) := runesF_ok s _ _ (by omega)
theorem range_goes (hT : TOk P T) (hR : RM X p w) {t id : Nat} {x : Operand} {dx : D} {o : Oper} {ρ : Operand → Value} (ho : o.op = .range t x) (hx : RepD p (CW X p w) w dx (ρ x)) {ef : Ef}
    (h : effRange T p.mem id t dx = some ef) : Goes P X p w o ρ ef := by
  unfold effRange at h
  split at h
  · rename_i a b z s ht
    cases h
    have hρ := repV hx
    have h1 := hR.allocRaw (ob := .iter s 0 (runes s)) (id := id) (ver := nver p.mem id) (w.iter s 0) rfl rfl rfl rfl (runes_ok s) nver_lt
    refine ⟨_, _, _, .inl ?_, h1.1, h1.2, rfl, _, upd_same _ _ _, Nat.le_refl _, fun _ => ⟨_, upd_same _ _ _, rfl⟩⟩
    simp only [execOp, ho, hρ, Sem.run_bind, run_range_string w t s (str_of hT ht), Result.andThen]
    rfl
  · cases h
theorem makeMap_goes (hR : RM X p w) {t id : Nat} {o : Oper} {ρ : Operand → Value} (ho : o.op = .makeMap t none) :
    Goes P X p w o ρ ⟨True, .one (.hnd id (nver p.mem id)), [(id, ⟨nver p.mem id, .raw (.smap []), 0⟩)]⟩ := by
  have h1 := hR.allocRaw (ob := .smap []) (id := id) (ver := nver p.mem id) (w.alloc (.map #[] 0)) rfl rfl rfl rfl trivial nver_lt
  refine ⟨.map (some w.heap.size), _, _, .inl ?_, h1.1, h1.2, rfl, _, upd_same _ _ _, Nat.le_refl _, fun _ => ⟨_, upd_same _ _ _, rfl⟩⟩
  simp only [execOp, ho]
  rfl
theorem next_goes (hR : RM X p w) {x : Operand} {dx : D} {o : Oper} {ρ : Operand → Value} (ho : o.op = .next x true) (hx : RepD p (CW X p w) w dx (ρ x)) {ef : Ef}
    (h : effNext p.mem dx = some ef) : Goes P X p w o ρ ef := by
  unfold effNext at h
  split at h
  · rename_i id ver
    split at h
    · rename_i bv s pos l hm
      cases hc : Nat.beq bv ver with
      | false => rw [hc] at h; cases h
      | true =>
        rw [hc, cond_true] at h
        obtain rfl := Nat.eq_of_beq_eq_true hc
        obtain ⟨g, hg, hv, hh⟩ := raw_at hR hm rfl hx.2
        have hh : w.heap[g]? = some (.stringIter s pos) := hh
        have hgo : (getObj g).run P w = .ok (.stringIter s pos) w := by simp [getObj, Sem.run, hh]
        have hso : ∀ o', (setObj g o').run P w = .ok () { w with heap := w.heap.setIfInBounds g o' } := fun o' => by simp [setObj, Sem.run, hh]
        have hok := hR.blk id _ hm
        simp only [BlkOk, hg] at hok
        have hok : Runes s pos l := hok.1
        cases l with
        | nil =>
          cases h
          have hn : ¬ pos < s.size := Nat.not_lt.2 hok
          refine ⟨.tuple #[.bool false], w, p.μ, .inl ?_, hR, Kept.rfl', [.bool false], rfl, rfl, fun i y u h1 h2 => ?_⟩
          · simp only [execOp, ho, hv, Instr.next, Sem.run_bind, hgo, Result.andThen_ok, if_neg hn]
            rfl
          · cases i with
            | zero =>
              simp at h1 h2
              subst h1
              subst h2
              refine ⟨rfl, fun j y u h1 h2 => ?_⟩
              cases j with
              | zero => simp [Cs.d0] at h1 h2; subst h1; subst h2; exact RepE.v _ rfl
              | succ j => simp at h2
            | succ i => simp at h1
        | cons y r =>
          obtain ⟨c, n⟩ := y
          cases h
          obtain ⟨h1, h2, h3⟩ := hok
          let w' : World := { w with heap := w.heap.setIfInBounds g (.stringIter s (pos + n)) }
          have hs := MapKept.heap_set (o' := .stringIter s (pos + n)) hh
          have h4 := hR.writeRaw (ob := .iter s pos ((c, n) :: r)) (ob' := .iter s (pos + n) r) (id := id) (ver := bv) (g := g) w' hm hg hs.1 (fun k hk => hs.2 k hk) (by simp [w']) rfl rfl rfl h3
          refine ⟨.tuple #[.bool true, .int .i64 pos, .int .i32 c], w', p.μ, .inl ?_, h4.1, h4.2, [.bool true, .int .i64 pos, .int .i32 c], rfl, rfl, fun i y u k1 k2 => ?_⟩
          · simp only [execOp, ho, hv, Instr.next, Sem.run_bind, hgo, Result.andThen_ok, if_pos h1, h2, hso]
            rfl
          · have one : ∀ (C : Nat → Nat → Value → Prop) (p : Rho) (w : World) (v : Value), v.oneCell' = true → RepT p C w (false, .es [.v v]) v := fun C p w v hv => ⟨rfl, fun j y u e1 e2 => by
              cases j with
              | zero => simp [Cs.d0] at e1 e2; subst e1; subst e2; exact RepE.v _ hv
              | succ j => simp at e2⟩
            match i, k1, k2 with
            | 0, k1, k2 => simp at k1 k2; subst k1; subst k2; exact one _ _ _ _ rfl
            | 1, k1, k2 => simp at k1 k2; subst k1; subst k2; exact one _ _ _ _ rfl
            | 2, k1, k2 => simp at k1 k2; subst k1; subst k2; exact one _ _ _ _ rfl
            | i + 3, k1, k2 => simp at k1
    · cases h
  · cases h
theorem ents_len : ∀ (b : Nat) (l : List (ByteArray × Int)), (mapEnts b l).length = l.length
  | b, [] => rfl
  | b, (k, v) :: r => by simp [mapEnts, ents_len (b + 1) r]
theorem ents_app : ∀ (b : Nat) (l : List (ByteArray × Int)) (k : ByteArray) (v : Int), mapEnts b (l ++ [(k, v)]) = mapEnts b l ++ [{ key := .string k, val := .int .i64 v, born := b + l.length }]
  | b, [], k, v => rfl
  | b, (k', v') :: r, k, v => by
    simp only [List.cons_append, mapEnts, ents_app (b + 1) r, List.length_cons]
    rw [show b + 1 + r.length = b + (r.length + 1) by omega]
theorem ents_get : ∀ (b : Nat) (l : List (ByteArray × Int)) (j : Nat) (k : ByteArray) (v : Int), l[j]? = some (k, v) → (mapEnts b l)[j]? = some { key := .string k, val := .int .i64 v, born := b + j }
  | b, (k', v') :: r, 0, k, v, h => by simp at h; obtain ⟨rfl, rfl⟩ := h; rfl
  | b, (k', v') :: r, j + 1, k, v, h => by
    rw [mapEnts, List.getElem?_cons_succ, ents_get (b + 1) r j k v (by simpa using h)]
    rw [show b + 1 + j = b + (j + 1) by omega]
theorem ents_set : ∀ (b : Nat) (l : List (ByteArray × Int)) (j : Nat) (k : ByteArray) (v : Int), j < l.length → mapEnts b (l.set j (k, v)) = (mapEnts b l).set j { key := .string k, val := .int .i64 v, born := b + j }
  | b, (k', v') :: r, 0, k, v, h => rfl
  | b, (k', v') :: r, j + 1, k, v, h => by
    rw [List.set_cons_succ, mapEnts, ents_set (b + 1) r j k v (by simpa using h), mapEnts, List.set_cons_succ]
    rw [show b + 1 + j = b + (j + 1) by omega]
theorem mapPut_goes (hT : TOk P T) (hR : RM X p w) {t : Nat} {x i y : Operand} {dx di dy : D} {o : Oper} {ρ : Operand → Value} (ho : o.op = .mapUpdate t x i y) (hx : RepD p (CW X p w) w dx (ρ x)) (hi : RepD p (CW X p w) w di (ρ i)) (hy : RepD p (CW X p w) w dy (ρ y)) {ef : Ef}
    (h : effMapPut T p.mem t dx di dy = some ef) : Goes P X p w o ρ ef := by
  unfold effMapPut at h
  split at h
  · rename_i a b k e z id ver s n ht
    split at h
    · rename_i a1 b1 z1 bv l hk hm
      cases hc : Nat.beq bv ver with
      | false => rw [hc] at h; cases h
      | true =>
        rw [hc, cond_true] at h
        obtain rfl := Nat.eq_of_beq_eq_true hc
        cases h
        obtain ⟨g, hg, hv, hh⟩ := raw_at hR hm rfl hx.2
        have hρi := repV hi
        have hρy := repV hy
        have hh : w.heap[g]? = some (.map (mapEnts 0 l).toArray l.length) := hh
        have hs := str_of hT hk
        let w' : World := { w with heap := w.heap.setIfInBounds g (Raw.smap (mPut l s n)).obj }
        have hse := MapKept.heap_set (o' := (Raw.smap (mPut l s n)).obj) hh
        have h4 := hR.writeRaw (ob := .smap l) (ob' := .smap (mPut l s n)) (id := id) (ver := bv) (g := g) w' hm hg hse.1 (fun k hk => hse.2 k hk) (by simp [w']) rfl rfl rfl trivial
        have hrun : (Instr.mapUpdate t (.map (some g)) (.string s) (.int .i64 n)).run P w = .ok () w' := by
          rcases find_ents s l 0 0 with ⟨h1, h2, h3⟩ | ⟨j, k', v', h1, h2, h3, h4, h5⟩
          · have e : (Raw.smap (mPut l s n)).obj = .map ((mapEnts 0 l).toArray.push { key := .string s, val := .int .i64 n, born := l.length }) (l.length + 1) := by
              rw [h2]
              show Obj.map (mapEnts 0 (l ++ [(s, n)])).toArray (l ++ [(s, n)]).length = _
              rw [ents_app, List.length_append, Nat.zero_add, List.push_toArray]
              rfl
            simp only [w']
            rw [e]
            simp [Instr.mapUpdate, run_underlying (map_of hT ht), MapKept.run_getObj_map hh, MapKept.run_checkKey (k := .string s) hs trivial, MapKept.run_findKey hs h1, MapKept.run_setObj_map _ hh, Result.andThen]
          · subst h3
            rw [Nat.zero_add] at h1
            have hj : j < l.length := (List.getElem?_eq_some_iff.1 h2).1
            have hge := ents_get 0 l j s v' h2
            have e : (Raw.smap (mPut l s n)).obj = .map ((mapEnts 0 l).toArray.modify j fun q => { q with key := .string s, val := .int .i64 n }) l.length := by
              rw [h5]
              show Obj.map (mapEnts 0 (l.set j (s, n))).toArray (l.set j (s, n)).length = _
              rw [ents_set 0 l j s n hj, List.length_set]
              congr 1
              apply Array.ext'
              simp only [Array.toList_modify]
              apply List.ext_getElem?
              intro q
              rw [List.getElem?_set, List.getElem?_modify]
              by_cases hq : j = q
              · subst hq
                rw [if_pos rfl, if_pos (by rw [ents_len]; exact hj), hge]
                simp
              · rw [if_neg hq]
                simp [hq]
            simp only [w']
            rw [e]
            simp [Instr.mapUpdate, run_underlying (map_of hT ht), MapKept.run_getObj_map hh, MapKept.run_checkKey (k := .string s) hs trivial, MapKept.run_findKey hs h1, hge, MapKept.run_keyThatStays (d := .string) (k := .string s) trivial, MapKept.run_setObj_map _ hh, Result.andThen]
        refine ⟨undef, w', p.μ, .inr ⟨?_, rfl⟩, h4.1, h4.2, trivial⟩
        simp [execOp, ho, hv, hρi, hρy, hrun]
    · cases h
  · cases h
end
end Go.Proofs.YtcdifgacoleckaaDoor.Ab
namespace Go.Proofs.YtcdifgacoleckaaDoor.Ab
open Go Go.RowKit

section
variable {P : Program} {T : Nat → Option TI} {X : Ctx} {w : World} {p : Rho}

theorem effM_sound (hT : TOk P T) (hR : RM X p w) {id : Nat} {o : Oper} {ev : Ev} {ρ : Operand → Value} (hρ : ∀ x ∈ o.op.operands, RepD p (CW X p w) w (ev x) (ρ x)) {ef : Ef} (h : effM T p.mem id o.op ev = some ef) (hφ : ef.φ) : Goes P X p w o ρ ef := by
  obtain ⟨dst, op, type, pos, after, guard⟩ := o
  dsimp only at h hρ
  unfold effM at h
  split at h
  · rename_i t x
    split at h
    · rename_i c hc
      cases h
      have hr := rep_cs (hρ x (by simp [Op.operands])) hc
      refine box_goes hR hr (t := t) ?_
      simp [execOp, Instr.box, newVar, newRow]
    · cases h
  · rename_i t
    split at h
    · rename_i ti hti
      cases h
      obtain ⟨z, hz1, hz2⟩ := zero_run (w := w) (hT _ _ hti)
      have hr : Rep2 p (CW X p w) w (zeroCs ti.zero).d0 z.cells.toList := by rw [hz2]; exact zeroCs_rep (zero_one (hT _ _ hti))
      refine box_goes hR hr (t := t) ?_
      simp [execOp, Instr.alloc, newVar, newRow, hz1]
    · cases h
  · rename_i t ps
    obtain ⟨h1, v, h2, h3⟩ := build_goes (P := P) (ρ := ρ) hT (fun q hq => hρ q.2 (by simp only [Op.operands]; simpa using ⟨q.1, by simpa using hq⟩)) h hφ
    refine ⟨v, w, p.μ, .inl (by simp only [execOp, Sem.run_bind, h2]; rfl), ?_⟩
    rw [h1]
    exact ⟨hR, Kept.rfl', h3⟩
  · rename_i t len ps
    exact buildSlice_goes hT hR rfl (fun q hq => hρ q.2 (by simp only [Op.operands]; simpa using ⟨q.1, by simpa using hq⟩)) h hφ
  · rename_i t a x
    split at h
    · rename_i ti hti
      exact store_goes hT hR hti rfl (hρ a (by simp [Op.operands])) (hρ x (by simp [Op.operands])) h hφ
    · cases h
  · rename_i args ts
    split at h
    · rename_i x y t tx ha ht
      obtain rfl : args = #[x, y] := by rw [← Array.toArray_toList (xs := args), ha]
      obtain rfl : ts = #[t, tx] := by rw [← Array.toArray_toList (xs := ts), ht]
      obtain ⟨v, w', μ', h1, h2⟩ := append_goes (P := P) (ty := type) hT hR (hρ x (by simp [Op.operands, Call.operands])) (hρ y (by simp [Op.operands, Call.operands])) h hφ
      exact ⟨v, w', μ', .inl (by simp [execOp, resolve, invoke, builtin, h1]), h2⟩
    · cases h
  · rename_i args ts
    split at h
    · rename_i x y t tx ha ht
      obtain rfl : args = #[x, y] := by rw [← Array.toArray_toList (xs := args), ha]
      obtain rfl : ts = #[t, tx] := by rw [← Array.toArray_toList (xs := ts), ht]
      exact copy_goes hT hR rfl (hρ x (by simp [Op.operands, Call.operands])) (hρ y (by simp [Op.operands, Call.operands])) h hφ
    · cases h
  · rename_i s d x
    exact bytes_goes hT hR rfl (hρ x (by simp [Op.operands])) h hφ
  · rename_i t x lo hi
    exact sliceO_goes hT hR rfl (hρ x (by simp [Op.operands])) (fun y hy => hρ y (by simp [Op.operands, hy])) (fun y hy => hρ y (by simp [Op.operands, hy])) h hφ
  · rename_i t l c
    exact make_goes hT hR rfl (hρ l (by simp [Op.operands])) (hρ c (by simp [Op.operands])) h hφ
  · rename_i t x
    exact range_goes hT hR rfl (hρ x (by simp [Op.operands])) h
  · rename_i x
    exact next_goes hR rfl (hρ x (by simp [Op.operands])) h
  · cases h
    exact makeMap_goes hR rfl
  · rename_i t x i y
    exact mapPut_goes hT hR rfl (hρ x (by simp [Op.operands])) (hρ i (by simp [Op.operands])) (hρ y (by simp [Op.operands])) h
  · rename_i f first caps
    have key : ∀ (l : List Operand) (cs : List (Nat × Nat × Nat)), (∀ x ∈ l, RepD p (CW X p w) w (ev x) (ρ x)) → capsOf (l.map ev) = some cs → cs.length = (l.map ρ).length ∧ ∀ (i : Nat) c u, cs[i]? = some c → (l.map ρ)[i]? = some u → Live p c.1 c.2.1 fun g => u = .pointer (some ⟨g, c.2.2, none⟩) := by
      intro l
      induction l with
      | nil => intro cs _ h; cases h; exact ⟨rfl, fun i c u h => nomatch h⟩
      | cons x l ih =>
        intro cs hx h
        rw [List.map_cons, capsOf.eq_def] at h
        split at h
        · rename_i hq; cases hq
        · rename_i i v o r hq
          obtain ⟨hq1, rfl⟩ := List.cons.inj hq
          split at h
          · rename_i cs' h1
            cases h
            obtain ⟨k1, k2⟩ := ih cs' (fun y hy => hx y (List.mem_cons_of_mem _ hy)) h1
            refine ⟨by simp [k1], fun j c u hc hu => ?_⟩
            cases j with
            | zero =>
              simp at hc hu
              subst hc
              subst hu
              have := hx x (List.mem_cons_self ..)
              rw [hq1] at this
              exact this.2
            | succ j => exact k2 j c u (by simpa using hc) (by simpa using hu)
          · cases h
        · cases h
    split at h
    · rename_i cs hfi hcs
      cases hb : Nat.ble 1048576 f with
      | true => rw [hb] at h; cases h
      | false =>
      rw [hb] at h
      cases h
      obtain rfl : first = #[] := by rw [← Array.toArray_toList (xs := first), hfi]
      refine ⟨.func (.func f) #[] (caps.map ρ), w, p.μ, .inl (by simp [execOp, Instr.makeFunc]), hR, Kept.rfl', (caps.map ρ).toList, by rw [cloV_lt hb, Array.toArray_toList], ?_⟩
      have := key caps.toList cs (fun x hx => hρ x (by simp only [Op.operands]; simpa using hx)) hcs
      rw [Array.toList_map]
      exact this
    · rename_i y r cs hfi hci hcs
      cases h
      obtain rfl : caps = #[] := by rw [← Array.toArray_toList (xs := caps), hci]
      refine ⟨.func (.func f) (first.map ρ) #[], w, p.μ, .inl (by simp [execOp, Instr.makeFunc]), hR, Kept.rfl', (first.map ρ).toList, by rw [cloV_ge, Array.toArray_toList], ?_⟩
      have := key first.toList cs (fun x hx => hρ x (by simp only [Op.operands]; simpa using hx)) hcs
      rw [Array.toList_map]
      exact this
    · cases h
  · cases h

theorem eff_sound (hT : TOk P T) (hR : RM X p w) {id : Nat} {o : Oper} {ev : Ev} {ρ : Operand → Value} (hρ : ∀ x ∈ o.op.operands, RepD p (CW X p w) w (ev x) (ρ x)) {ef : Ef} (h : eff T p.mem id o.op ev = some ef) (hφ : ef.φ) : Goes P X p w o ρ ef := by
  unfold eff at h
  split at h
  · rename_i φ d hq
    cases h
    obtain ⟨v, h1, h2⟩ := effQ_sound hT hR hρ hq hφ
    exact ⟨v, w, p.μ, .inl h1, hR, Kept.rfl', h2⟩
  · exact effM_sound hT hR hρ h hφ
end
end Go.Proofs.YtcdifgacoleckaaDoor.Ab
