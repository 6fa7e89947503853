/- Part of the proof: steps of the program over abstract states. No condition. -/
import Derived.Test.YtcdifgacoleckaaGreatDoorG03
import Derived.ScopeJumps
import Derived.Test.YtcdifgacoleckaaGreatDoorG00
import Derived.Test.YtcdifgacoleckaaGreatDoorProg
import Derived.KernelRfl
set_option linter.unusedVariables false
set_option linter.unusedSimpArgs false
namespace Go.Proofs.YtcdifgacoleckaaGreatDoor.Ab
open Go Go.RowKit
def zLi {α : Type} (l : List Nat) (k : List Nat -> α) : α :=
 match l with
 | [] => k []
 | x :: r => zLi r fun r => k (x :: r)
theorem zCV {α : Type} (l : List Nat) (k : List Nat -> α) : zLi l k = k l := by
 induction l generalizing k with
 | nil => rfl
 | cons x r ih => simp only [zLi, ih]
def zKs (s : St) : List Operand -> List Nat
 | [] => []
 | x :: r => zCO (s.ev x) ++ zKs s r
theorem zCh {s : St} : ∀ {l : List Operand}, ∀ x ∈ l, ∀ k ∈ zCO (s.ev x), k ∈ zKs s l
 | [], x, hx, _, _ => by cases hx
 | y :: r, x, hx, k, hk => by
  rw [zKs]
  rcases List.mem_cons.1 hx with rfl | hx
  ·exact List.mem_append_left _ hk
  ·exact List.mem_append_right _ (zCh x hx k hk)
theorem zAG : ∀ {l : List Nat} {k : Nat}, k ∈ l -> inB l k = true
 | [], k, h => by cases h
 | a :: l, k, h => by
  simp only [inB, Bool.or_eq_true]
  rcases List.mem_cons.1 h with rfl | h
  ·exact .inl (Nat.beq_refl _)
  ·exact .inr (zAG h)
def upV : List Nat -> List Nat
 | [] => []
 | k :: r => (k + 2000000) :: upV r
theorem zLD : ∀ {l : List Nat} {k : Nat}, k ∈ l -> k + 2000000 ∈ upV l
 | [], k, h => by cases h
 | a :: l, k, h => by
  rcases List.mem_cons.1 h with rfl | h
  ·exact List.mem_cons_self ..
  ·exact List.mem_cons_of_mem _ (zLD h)
def zWF (s : St) (op : Op) : List Nat := zKs s (rdO op) ++ upV (zKs s (rdV op))
structure RanD where
 ps : List Prop
 tm : Nat -> D
 mem : Mem
 rest : List Oper
 fps : List FP
def zKO (T : Nat -> Option TI) (nt : Nat) (ops : Array Oper) : List Oper -> List Prop -> (Nat -> D) -> Mem -> Option RanD
 | [], ps, tm, m => some ⟨ps, tm, m, [], []⟩
 | o :: r, ps, tm, m =>
  bif zVq o.op then some ⟨ps, tm, m, o :: r, []⟩ else
  match zGA T nt ops ⟨tm, m⟩ o with
  | some ⟨φ, d, us⟩ => fD d fun d => fU us fun us => zLi (zWF ⟨tm, m⟩ o.op) fun rd =>
   match o.dst, us with
   | some t, [] =>
    match zKO T nt ops r (φ :: ps) (upd tm t d) m with
    | some ⟨a, b, c, e, f⟩ => some ⟨a, b, c, e, (t :: rd, []) :: f⟩
    | none => none
   | some t, [(i, b)] =>
    match zKO T nt ops r (φ :: ps) (upd tm t d) (upd m i (some b)) with
    | some ⟨a, b, c, e, f⟩ => some ⟨a, b, c, e, (t :: rd, [i, i + 2000000]) :: f⟩
    | none => none
   | none, [(i, b)] =>
    match zKO T nt ops r (φ :: ps) tm (upd m i (some b)) with
    | some ⟨a, b, c, e, f⟩ => some ⟨a, b, c, e, (0 :: rd, [i, i + 2000000]) :: f⟩
    | none => none
   | some t, us =>
    match zKO T nt ops r (φ :: ps) (upd tm t d) (zDH m us) with
    | some ⟨a, b, c, e, f⟩ => some ⟨a, b, c, e, (t :: rd, wrL us) :: f⟩
    | none => none
   | none, us =>
    match zKO T nt ops r (φ :: ps) tm (zDH m us) with
    | some ⟨a, b, c, e, f⟩ => some ⟨a, b, c, e, (0 :: rd, wrL us) :: f⟩
    | none => none
  | none => none
section
variable {P : Program} {T : Nat -> Option TI} {X : Ctx} {nt : Nat} {ops : Array Oper}
theorem zIk : ∀ {l : List Oper} {ps : List Prop} {tm : Nat -> D} {m : Mem} {q : RanD}, zKO T nt ops l ps tm m = some q -> (zBh q.ps -> zBh ps) /\ ∀ s'' fps', zBh q.ps -> LexD P T nt ops q.rest ⟨q.tm, q.mem⟩ fps' s'' -> LexD P T nt ops l ⟨tm, m⟩ (q.fps ++ fps') s''
 | [], ps, tm, m, q, h => by cases h; exact ⟨id, fun s'' _ _ k => k⟩
 | o :: r, ps, tm, m, q, h => by
  rw [zKO] at h
  cases hg : zVq o.op with
  | true => simp only [hg, cond_true, Option.some.injEq] at h; subst h; exact ⟨id, fun s'' _ _ k => k⟩
  | false =>
   simp only [hg, cond_false] at h
   split at h
   ·rename_i φ d us he
    simp only [zUT, zUR, zCV] at h
    have key : ∃ q', zKO T nt ops r (φ :: ps) (match o.dst with | some t => upd tm t d | none => tm) (zBd m us) = some q' /\ q.ps = q'.ps /\ q.tm = q'.tm /\ q.mem = q'.mem /\ q.rest = q'.rest /\ q.fps = (zFk o.dst :: zWF ⟨tm, m⟩ o.op, wrL us) :: q'.fps := by
     split at h
     ·rename_i t hd
      rw [hd]
      split at h
      ·rename_i a b c e f hq; cases h; exact ⟨_, hq, rfl, rfl, rfl, rfl, rfl⟩
      ·cases h
     ·rename_i t i b hd
      rw [hd]
      split at h
      ·rename_i a b c e f hq; cases h; exact ⟨_, hq, rfl, rfl, rfl, rfl, rfl⟩
      ·cases h
     ·rename_i i b hd
      rw [hd]
      split at h
      ·rename_i a b c e f hq; cases h; exact ⟨_, hq, rfl, rfl, rfl, rfl, rfl⟩
      ·cases h
     ·rename_i t hd _ _
      rw [hd]
      rw [zB9] at h
      split at h
      ·rename_i a b c e f hq; cases h; exact ⟨_, hq, rfl, rfl, rfl, rfl, rfl⟩
      ·cases h
     ·rename_i hd _
      rw [hd]
      rw [zB9] at h
      split at h
      ·rename_i a b c e f hq; cases h; exact ⟨_, hq, rfl, rfl, rfl, rfl, rfl⟩
      ·cases h
    obtain ⟨q', hq', e1, e2, e3, e4, e5⟩ := key
    obtain ⟨h1, h2⟩ := zIk hq'
    rw [e1, e2, e3, e4, e5]
    refine ⟨fun ha => (zDw.1 (h1 ha)).2, fun s'' fps' ha k => ?_⟩
    rw [List.cons_append]
    refine .cons ⟨.op he (zDw.1 (h1 ha)).1, fun x hx k hk => zAG (List.mem_cons_of_mem _ (List.mem_append_left _ (zCh x hx k hk))), zAG (List.mem_cons_self ..), fun u hu => (zJg u hu).1, fun x hx k hk => zAG (List.mem_cons_of_mem _ (List.mem_append_right _ (zLD (zCh x hx k hk)))), fun u hu => .inl (zJg u hu).2⟩ ?_
    exact h2 s'' fps' ha k
   ·cases h
theorem zA2 {l : List Oper} {tm : Nat -> D} {m : Mem} {ps : List Prop} {tm' : Nat -> D} {m' : Mem} {rest : List Oper} {fps fps' : List FP} {s'' : St} (h : zKO T nt ops l [] tm m = some ⟨ps, tm', m', rest, fps⟩) (hp : zBh ps) (k : LexD P T nt ops rest ⟨tm', m'⟩ fps' s'') : LexD P T nt ops l ⟨tm, m⟩ (fps ++ fps') s'' :=
 (zIk h).2 s'' fps' hp k
theorem zXe (hT : TOk P T) (hm : P.follows .mixedOrders = true) (hnt : X.nt = nt) {id : Nat} {tm : Nat -> D} {m : Mem} {ps : List Prop} {tm' : Nat -> D} {m' : Mem} {fps : List FP} {Q : Exit -> St -> Prop} (h : zKO T nt ops ops.toList [] tm m = some ⟨ps, tm', m', [], fps⟩)
  (hB : zQG .any ops fps ops.size 0 (Array.replicate ops.size false) = true) (hp : zBh ps) (k : Q .normal ⟨tm', m'⟩) : Tr P X (.region id ops true) ⟨tm, m⟩ Q := by
 have := zA2 (P := P) (fps' := []) h hp (.nil _)
 rw [List.append_nil] at this
 exact zAK hT hnt hm this hB k
theorem call {o : Oper} {rest : List Oper} {tm : Nat -> D} {m : Mem} {fo : Operand} {f t : Nat} {args : Array Operand} {ts : Array TypeId} {az : List D} {r : D} {s'' : St} (hop : o.op = .call ⟨.value fo, args, ts⟩) (hgd : zBT ops ⟨tm, m⟩ o = .free) (hfo : ((⟨tm, m⟩ : St).ev fo).strip = .one (.clo f []))
  (has : zBi m (args.toList.map fun x => ((⟨tm, m⟩ : St).ev x).strip) = some (az, [])) (hn : zAR ⟨tm, m⟩ (fo :: args.toList) = []) (hd : o.dst = some t) (hlt : Nat.blt t nt = true) (hnt : X.nt = nt) (hfn : FnD P f az r) (k : Lex P X ops rest ⟨upd tm t r, m⟩ s'') : Lex P X ops (o :: rest) ⟨tm, m⟩ s'' := by
 refine .cons (zIp (us := []) hop hgd hfo has (fun p hp => by rw [hn] at hp; cases hp) hfn (by rw [hd, hnt]; exact hlt)) ?_
 rw [hd]
 exact k
theorem zU7 {o : Oper} {rest : List Oper} {tm : Nat -> D} {m : Mem} {fo : Operand} {f t : Nat} {args : Array Operand} {ts : Array TypeId} {az : List D} {r : D} {s'' : St} (hop : o.op = .call ⟨.value fo, args, ts⟩) (hgd : zBT ops ⟨tm, m⟩ o = .free) (hfo : ((⟨tm, m⟩ : St).ev fo).strip = .one (.clo f []))
  (has : zBi m (args.toList.map fun x => ((⟨tm, m⟩ : St).ev x).strip) = some (az, [])) (hn : zAR ⟨tm, m⟩ (fo :: args.toList) = []) (hd : o.dst = some t) (hlt : Nat.blt t nt = true) (hnt : X.nt = nt) (hfn : FnE P f az r) (k : Lex P X ops rest ⟨upd tm t r, m⟩ s'') : Lex P X ops (o :: rest) ⟨tm, m⟩ s'' := by
 refine .cons (zOu (us := []) hop hgd hfo has (fun p hp => by rw [hn] at hp; cases hp) hfn (by rw [hd, hnt]; exact hlt)) ?_
 rw [hd]
 exact k
end
theorem zLo {a b : Bool} (h : (bif a then true else b) = false) : a = false /\ b = false := by cases a <;> first | exact ⟨rfl, h⟩ | cases h
theorem zNG {a b : Bool} (h : (bif a then b else false) = true) : a = true /\ b = true := by cases a <;> first | exact ⟨rfl, h⟩ | cases h
theorem zAr {a b : Bool} : ((bif a then true else b) = false) = (a = false /\ b = false) := propext ⟨zLo, fun h => by rw [h.1, h.2]; rfl⟩
theorem zAs {a b : Bool} : ((bif a then b else false) = true) = (a = true /\ b = true) := propext ⟨zNG, fun h => by rw [h.1, h.2]; rfl⟩
theorem zEt {a b : Bool} : ((bif a then true else b) = true) = (a = true \/ b = true) := by cases a <;> simp
theorem zGp {a b : Bool} : ((bif a then b else false) = false) = (a = false \/ b = false) := by cases a <;> simp
theorem zBm {a : Bool} : ((!a) = true) = (a = false) := by cases a <;> simp
theorem zBp {a : Bool} : ((!a) = false) = (a = true) := by cases a <;> simp
def eB (b : UInt8) : E := .v (.int .u8 (b.toNat : Int))
def eI (n : Int) : E := .v (.int .i64 n)
def zRY (l : List UInt8) : List (List E) := l.map fun b => [eB b]
theorem zAm (l : List UInt8) : ∀ cs ∈ zRY l, cs.length = 1 := by
 intro cs h
 obtain ⟨b, _, rfl⟩ := List.mem_map.1 h
 rfl
theorem zAi (l : List UInt8) : ∀ cs ∈ zRY l, zGS cs := by
 intro cs h
 obtain ⟨b, _, rfl⟩ := List.mem_map.1 h
 exact ⟨b, rfl⟩
theorem zAf {n : Int} (h0 : -9223372036854775808 <= n) (h1 : n <= 9223372036854775807) : IntKind.i64.wrap n = n := by
 unfold IntKind.wrap
 simp [IntKind.bits, IntKind.signed]
 omega
theorem zAe {ad : List Nat} {s s' : St} {id v v' z pub : Nat} {xs xs' : List (List E)} {r : List (Nat × Blk)} (h1 : inB ad id = false) (h2 : s.mem id = some ⟨v, .row z xs, pub⟩) (h3 : xs = xs') (hr : zHt ad s s' r) :
  zHt ad s s' ((id, ⟨v', .row z xs', pub⟩) :: r) := by
 refine ⟨?_, hr⟩
 unfold zRh
 rw [h1, h2]
 exact ⟨⟨rfl, h3⟩, rfl⟩
theorem zAg {ad : List Nat} {s s' : St} {id v v' pub : Nat} {c c' : Cs} {r : List (Nat × Blk)} (h1 : inB ad id = false) (h2 : s.mem id = some ⟨v, .box c, pub⟩) (h3 : zNQ ad s.mem s'.mem c c') (hr : zHt ad s s' r) :
  zHt ad s s' ((id, ⟨v', .box c', pub⟩) :: r) := by
 refine ⟨?_, hr⟩
 unfold zRh
 rw [h1, h2]
 exact ⟨h3, rfl⟩
theorem zON {ad : List Nat} {s s' : St} {id v' z : Nat} {r : List (Nat × Blk)} (h1 : inB ad id = true) (h2 : 0 < z) (hr : zHt ad s s' r) : zHt ad s s' ((id, ⟨v', .row z [], 0⟩) :: r) := by
 refine ⟨?_, hr⟩
 unfold zRh
 rw [h1]
 exact h2
def zA5 (l : List UInt8) : ByteArray := ⟨l.toArray⟩
theorem zAJ (l : List UInt8) : (zA5 l).size = l.length := by simp [zA5, ByteArray.size]
theorem zDT (l : List UInt8) : (zA5 l).data.toList = l := by simp [zA5]
theorem zJq (l : List UInt8) (i j : Nat) : (zA5 l).extract i j = zA5 ((l.take j).drop i) := by
 unfold zA5
 apply ByteArray.ext
 rw [ByteArray.data_extract]
 apply Array.ext'
 simp [List.extract_eq_take_drop, List.drop_take]
theorem zEu : ∀ {l : List Prop}, zBh l -> ∀ p ∈ l, p
 | q :: r, h, p, hp => by
  rcases List.mem_cons.1 hp with rfl | hp
  ·exact (zDw.1 h).1
  ·exact zEu (zDw.1 h).2 p hp
theorem callG {P : Program} {X : Ctx} {nt : Nat} {ops : Array Oper} {o : Oper} {rest : List Oper} {tm : Nat -> D} {m : Mem} {fo : Operand} {f t : Nat} {args : Array Operand} {ts : Array TypeId} {q : Prop} {az : List D} {r : D} {s'' : St} (hop : o.op = .call ⟨.value fo, args, ts⟩) (hgd : zBT ops ⟨tm, m⟩ o = .iff q) (hfo : ((⟨tm, m⟩ : St).ev fo).strip = .one (.clo f []))
  (has : zBi m (args.toList.map fun x => ((⟨tm, m⟩ : St).ev x).strip) = some (az, [])) (hd : o.dst = some t) (hlt : Nat.blt t nt = true) (hnt : X.nt = nt) {ns : List Prop} (hns : zAR ⟨tm, m⟩ (fo :: args.toList) = ns) (hn : q -> zBh ns) (hfn : q -> FnD P f az r) (k : Lex P X ops rest ⟨upd tm t (.gd q r), m⟩ s'') : Lex P X ops (o :: rest) ⟨tm, m⟩ s'' := by
 refine .cons (zJL hop hgd hfo has (fun hq => by rw [hns]; exact zEu (hn hq)) hfn (by rw [hd, hnt]; exact hlt)) ?_
 rw [hd]
 exact k
theorem zNH {P : Program} {T : Nat -> Option TI} {nt : Nat} {ops : Array Oper} {o : Oper} {rest : List Oper} {tm : Nat -> D} {m : Mem} {fo : Operand} {f t : Nat} {args : Array Operand} {ts : Array TypeId} {az : List D} {r : D} {fps : List FP} {s'' : St} (hop : o.op = .call ⟨.value fo, args, ts⟩) (hgd : zBT ops ⟨tm, m⟩ o = .free) (hfo : ((⟨tm, m⟩ : St).ev fo).strip = .one (.clo f []))
  (has : zBi m (args.toList.map fun x => ((⟨tm, m⟩ : St).ev x).strip) = some (az, [])) (hn : zAR ⟨tm, m⟩ (fo :: args.toList) = []) (hd : o.dst = some t) (hlt : Nat.blt t nt = true) {rd : List Nat} (hrd : (zLi (zKs ⟨tm, m⟩ o.op.operands.toList) fun rd => some rd) = some rd) (hfn : FnD P f az r) (k : LexD P T nt ops rest ⟨upd tm t r, m⟩ fps s'') : LexD P T nt ops (o :: rest) ⟨tm, m⟩ ((t :: rd, []) :: fps) s'' := by
 rw [zCV] at hrd
 cases hrd
 refine .cons (d := r) (us := []) ⟨.call hop hgd hfo has (fun p hp => by rw [hn] at hp; cases hp) hfn (by rw [hd]; exact hlt), fun x hx k hk => zAG (List.mem_cons_of_mem _ (zCh x (by simpa using zBR hx) k hk)), by rw [hd]; exact zAG (List.mem_cons_self ..), fun u hu => (by cases hu), zCL hop, fun u hu => (by cases hu)⟩ ?_
 rw [hd]
 exact k
theorem callC {P : Program} {X : Ctx} {nt : Nat} {ops : Array Oper} {o : Oper} {rest : List Oper} {tm : Nat -> D} {m : Mem} {fo : Operand} {f t : Nat} {caps : List (Nat × Nat × Nat)} {args : Array Operand} {ts : Array TypeId} {az : List D} {us : zBa} {r : D} {s'' : St} (hop : o.op = .call ⟨.value fo, args, ts⟩) (hgd : zBT ops ⟨tm, m⟩ o = .free) (hfo : ((⟨tm, m⟩ : St).ev fo).strip = .one (.clo f caps))
  (has : zBi m ((args.toList.map fun x => ((⟨tm, m⟩ : St).ev x).strip) ++ zET caps) = some (az, us)) (hn : zAR ⟨tm, m⟩ (fo :: args.toList) = []) (hd : o.dst = some t) (hlt : Nat.blt t nt = true) (hnt : X.nt = nt) (hfn : FnD P f az r) (k : Lex P X ops rest ⟨upd tm t r, zDH m us⟩ s'') : Lex P X ops (o :: rest) ⟨tm, m⟩ s'' := by
 refine .cons (zGG (us := us) hop hgd hfo has (fun p hp => by rw [hn] at hp; cases hp) hfn (by rw [hd, hnt]; exact hlt)) ?_
 rw [hd]
 rw [zB9] at k
 exact k
theorem zEF {P : Program} {T : Nat -> Option TI} {nt : Nat} {ops : Array Oper} {o : Oper} {rest : List Oper} {tm : Nat -> D} {m : Mem} {fo : Operand} {f t : Nat} {args : Array Operand} {ts : Array TypeId} {q : Prop} {az : List D} {r : D} {fps : List FP} {s'' : St} (hop : o.op = .call ⟨.value fo, args, ts⟩) (hgd : zBT ops ⟨tm, m⟩ o = .iff q) (hfo : ((⟨tm, m⟩ : St).ev fo).strip = .one (.clo f []))
  (has : zBi m (args.toList.map fun x => ((⟨tm, m⟩ : St).ev x).strip) = some (az, [])) (hd : o.dst = some t) (hlt : Nat.blt t nt = true) {rd : List Nat} (hrd : (zLi (zKs ⟨tm, m⟩ o.op.operands.toList) fun rd => some rd) = some rd) {ns : List Prop} (hns : zAR ⟨tm, m⟩ (fo :: args.toList) = ns) (hn : q -> zBh ns) (hfn : q -> FnD P f az r) (k : LexD P T nt ops rest ⟨upd tm t (.gd q r), m⟩ fps s'') : LexD P T nt ops (o :: rest) ⟨tm, m⟩ ((t :: rd, []) :: fps) s'' := by
 rw [zCV] at hrd
 cases hrd
 refine .cons (d := .gd q r) (us := []) ⟨.callG hop hgd hfo has (fun hq => by rw [hns]; exact zEu (hn hq)) hfn (by rw [hd]; exact hlt), fun x hx k hk => zAG (List.mem_cons_of_mem _ (zCh x (by simpa using zBR hx) k hk)), by rw [hd]; exact zAG (List.mem_cons_self ..), fun u hu => (by cases hu), zCL hop, fun u hu => (by cases hu)⟩ ?_
 rw [hd]
 exact k
end Go.Proofs.YtcdifgacoleckaaGreatDoor.Ab
namespace Go.Proofs.YtcdifgacoleckaaGreatDoor
open Go.ChangeShapes Go.WideShapes Go.ChangeAt Go.RowKit Go.Deep Go.Proofs.YtcdifgacoleckaaGreatDoor.Ab
abbrev zPF : Nat -> Nat -> Prop := fun _ _ => True
structure Enc {α : Type} (c : Cd α) (e : α -> List E) : Prop where
 len : ∀ {w : World} {S : Nat -> Prop} {cs : List Value} {x : α}, c.rel w S cs x -> (e x).length = c.size
 rep : ∀ {w : World} {S : Nat -> Prop} {cs : List Value} {x : α}, c.rel w S cs x -> ∀ (i : Nat) y u, (e x)[i]? = some y -> cs[i]? = some u -> RepE (CI w zPF) y u
theorem zHE {α : Type} {a : α} {i : Nat} {b : α} (h : [a][i]? = some b) : i = 0 /\ b = a := by
 cases i with
 | zero => exact ⟨rfl, by simpa using h.symm⟩
 | succ i => simp at h
theorem zLj (k : IntKind) : Enc (zLs k) (fun x => [E.v (.int k x)]) where
 len _ := rfl
 rep h i y u hy hu := by
  obtain ⟨rfl, _⟩ := h
  obtain ⟨rfl, rfl⟩ := zHE hy
  obtain ⟨_, rfl⟩ := zHE hu
  exact .v _ rfl
theorem zSW : Enc zS6 (fun x => [E.v (.string x)]) where
 len _ := rfl
 rep h i y u hy hu := by
  obtain ⟨rfl, _⟩ := h
  obtain ⟨rfl, rfl⟩ := zHE hy
  obtain ⟨_, rfl⟩ := zHE hu
  exact .v _ rfl
theorem zUY {α : Type} {c : Cd α} {e : α -> List E} (he : Enc c e) {w : World} {S : Nat -> Prop} {A : Option Addr} {n cap : Nat} {xs : List α} (h1 : n <= cap) (h2 : cap <= maxLen) (h : SlR c w S A n xs) : RepE (CI w zPF) (.sl (xs.map e)) (.slice A n cap) := by
 obtain ⟨hl, hx⟩ := h
 cases n with
 | zero =>
  have : xs = [] := List.eq_nil_of_length_eq_zero hl
  subst this
  exact .sl A 0 cap 0 0 0 (fun _ _ => undef) [] rfl h1 h2 (fun h => absurd h (by omega)) (fun cs h => by cases h) (fun i cs j y h => by simp at h) (fun i cs j y h => by simp at h)
 | succ n =>
  obtain ⟨b, o, hA, _, hx⟩ := hx (Nat.succ_pos n)
  have key : ∀ i cs j y, (xs.map e)[i]? = some cs -> cs[j]? = some y -> CI w zPF b (o + i * c.size + j) ((w.cell? ⟨b, o + i * c.size + j, none⟩).getD undef) /\ RepE (CI w zPF) y ((w.cell? ⟨b, o + i * c.size + j, none⟩).getD undef) := by
   intro i cs j y hi hj
   simp only [List.getElem?_map, Option.map_eq_some_iff] at hi
   obtain ⟨x, hi, rfl⟩ := hi
   obtain ⟨us, hat, hrel⟩ := hx i x hi
   have hjl : j < us.length := by
    have := (List.getElem?_eq_some_iff.1 hj).1
    rw [he.len hrel] at this
    rw [c.len hrel]
    exact this
   have hu := hat j us[j] (List.getElem?_eq_getElem hjl)
   rw [hu]
   exact ⟨⟨hu, trivial⟩, he.rep hrel j y us[j] hj (List.getElem?_eq_getElem hjl)⟩
  refine .sl A (n + 1) cap c.size b o (fun i j => (w.cell? ⟨b, o + i * c.size + j, none⟩).getD undef) (xs.map e) (by simpa using hl) h1 h2 (fun _ => hA) ?_ (fun i cs j y hi hj => (key i cs j y hi hj).1) (fun i cs j y hi hj => (key i cs j y hi hj).2)
  intro cs hcs
  obtain ⟨x, hm, rfl⟩ := List.mem_map.1 hcs
  obtain ⟨i, hi⟩ := List.getElem?_of_mem hm
  obtain ⟨us, _, hrel⟩ := hx i x hi
  exact he.len hrel
theorem zPa {α : Type} {c : Cd α} {e : α -> List E} (he : Enc c e) : Enc (zD7 c) (fun xs => [E.sl (xs.map e)]) where
 len _ := rfl
 rep h i y u hy hu := by
  obtain ⟨A, n, cap, rfl, h1, h2, h3⟩ := h
  obtain ⟨rfl, rfl⟩ := zHE hy
  obtain ⟨_, rfl⟩ := zHE hu
  exact zUY he h1 h2 h3
theorem zSX : Enc zS7 (fun _ => []) where
 len _ := rfl
 rep h i y u hy hu := by simp at hy
theorem zGn {α β : Type} {c : Cd α} {d : Cd β} {e : α -> List E} {f : β -> List E} (he : Enc c e) (hf : Enc d f) : Enc (zDv c d) (fun x => e x.1 ++ f x.2) where
 len h := by
  obtain ⟨l, r, rfl, h1, h2⟩ := h
  rw [List.length_append, he.len h1, hf.len h2]
  rfl
 rep h i y u hy hu := by
  obtain ⟨l, r, rfl, h1, h2⟩ := h
  by_cases hi : i < c.size
  ·rw [List.getElem?_append_left (by rw [he.len h1]; exact hi)] at hy
   rw [List.getElem?_append_left (by rw [c.len h1]; exact hi)] at hu
   exact he.rep h1 i y u hy hu
  ·rw [List.getElem?_append_right (by rw [he.len h1]; omega), he.len h1] at hy
   rw [List.getElem?_append_right (by rw [c.len h1]; omega), c.len h1] at hu
   exact hf.rep h2 _ y u hy hu
theorem zNz {α : Type} {c : Cd α} {e : α -> List E} (he : Enc c e) : Enc (zER c) e where
 len h := he.len (c := c) h
 rep h := he.rep (c := c) h
theorem zTc {α : Type} {c : Cd α} {e : α -> E} (he : Enc c (fun x => [e x])) {w : World} {v : Value} {x : α} (h : c.rel w (lt w.heap.size) [v] x) : zAy p0 (CI w zPF) w (.one (.e (e x))) v :=
 he.rep h 0 _ _ rfl rfl
theorem Enc.of {α : Type} {c : Cd α} {e e' : α -> List E} (h : Enc c e) (hh : ∀ {w : World} {S : Nat -> Prop} {cs : List Value} {x : α}, c.rel w S cs x -> e x = e' x) : Enc c e' where
 len hr := by rw [<-hh hr]; exact h.len hr
 rep hr i y u hy hu := by rw [<-hh hr] at hy; exact h.rep hr i y u hy hu
theorem zOa {α : Type} {c : Cd α} {Q : α -> Prop} (hQ : ∀ {w : World} {S : Nat -> Prop} {cs : List Value} {x : α}, c.rel w S cs x -> Q x) {w : World} {S : Nat -> Prop} {cs : List Value} {xs : List α} (h : (zD7 c).rel w S cs xs) : ∀ x ∈ xs, Q x := by
 obtain ⟨A, n, cap, rfl, h1, h2, hl, hx⟩ := h
 intro x hm
 obtain ⟨i, hi⟩ := List.getElem?_of_mem hm
 have hlt := (List.getElem?_eq_some_iff.1 hi).1
 obtain ⟨b, o, _, _, h3⟩ := hx (by omega)
 obtain ⟨us, _, h4⟩ := h3 i x hi
 exact hQ h4
theorem zN9 {α : Type} {c : Cd α} {w : World} {S : Nat -> Prop} {cs : List Value} {xs : List α} (h : (zD7 c).rel w S cs xs) : xs.length <= maxLen := by
 obtain ⟨A, n, cap, rfl, h1, h2, hl, hx⟩ := h
 omega
theorem zTG {x : Int} (h : (Lit.int .i64 x).wf = true) : -9223372036854775808 <= x /\ x <= 9223372036854775807 := by
 simp [Lit.wf, IntKind.min, IntKind.max, IntKind.bits, IntKind.signed] at h
 omega
theorem zTF {x : Int} (h : (Lit.int .u64 x).wf = true) : 0 <= x /\ x < 18446744073709551616 := by
 simp [Lit.wf, IntKind.min, IntKind.max, IntKind.bits, IntKind.signed] at h
 omega
theorem zNn {P : Program} {f : Nat} {gs : List (Nat × List E)} {ds : List D} {vs : Array Value} (h : FnG P f gs ds (.v (.bool true))) {V : World} (hg : ∀ x ∈ gs, zAy p0 (CI V zPF) V (.one (.eptr x.2)) (.pointer (some ⟨x.1, 0, none⟩))) (ha : zHy (CI V zPF) V ds vs.toList) : Calls P f vs V fun e W' => e = .returned (.bool true) /\ Below V.heap.size V W' := by
 refine (h.2 V vs zPF hg ha).mono ?_
 rintro e w' ⟨v, rfl, hb, hv⟩
 refine ⟨?_, hb⟩
 have hv : RepE _ (.v (.bool true)) v := hv
 cases hv
 rfl
end Go.Proofs.YtcdifgacoleckaaGreatDoor
namespace Go.Proofs.YtcdifgacoleckaaGreatDoor
open Go Go.RowKit Go.Proofs.YtcdifgacoleckaaGreatDoor.Ab
def zVF : List (Option TI) := [
 none,
 some ⟨1, 8, .other, [.nilFunc]⟩,
 some ⟨1, 8, .int .i64, [.int .i64 0]⟩,
 some ⟨1, 8, .int .i64, [.int .i64 0]⟩,
 some ⟨1, 1, .bool, [.bool false]⟩,
 some ⟨1, 1, .int .u8, [.int .u8 0]⟩,
 some ⟨1, 1, .int .u8, [.int .u8 0]⟩,
 none,
 none,
 some ⟨1, 16, .str, [.string .empty]⟩,
 some ⟨1, 16, .str, [.string .empty]⟩,
 some ⟨1, 16, .str, [.string .empty]⟩,
 some ⟨1, 8, .int .u64, [.int .u64 0]⟩,
 none,
 none,
 some ⟨1, 8, .ptr 169, [.pointer none]⟩,
 some ⟨1, 8, .ptr 172, [.pointer none]⟩,
 some ⟨1, 8, .ptr 180, [.pointer none]⟩,
 none,
 none,
 some ⟨1, 16, .other, [.nilIface]⟩,
 some ⟨1, 4, .int .i32, [.int .i32 0]⟩,
 some ⟨1, 24, .slice 72, [.slice none 0 0]⟩,
 some ⟨1, 24, .slice 83, [.slice none 0 0]⟩,
 some ⟨1, 24, .slice 28, [.slice none 0 0]⟩,
 some ⟨1, 24, .slice 49, [.slice none 0 0]⟩,
 some ⟨1, 8, .int .u64, [.int .u64 0]⟩,
 some ⟨4, 40, .struct [(0, 3), (1, 3), (2, 26), (3, 9)], [.int .i64 0, .int .i64 0, .int .u64 0, .string .empty]⟩,
 some ⟨4, 40, .struct [(0, 3), (1, 3), (2, 26), (3, 9)], [.int .i64 0, .int .i64 0, .int .u64 0, .string .empty]⟩,
 some ⟨1, 24, .slice 31, [.slice none 0 0]⟩,
 some ⟨7, 88, .struct [(0, 3), (1, 28), (5, 9), (6, 29)], [.int .i64 0, .int .i64 0, .int .i64 0, .int .u64 0, .string .empty, .string .empty, .slice none 0 0]⟩,
 some ⟨7, 88, .struct [(0, 3), (1, 28), (5, 9), (6, 29)], [.int .i64 0, .int .i64 0, .int .i64 0, .int .u64 0, .string .empty, .string .empty, .slice none 0 0]⟩,
 some ⟨1, 24, .slice 88, [.slice none 0 0]⟩,
 some ⟨1, 24, .slice 90, [.slice none 0 0]⟩,
 some ⟨12, 168, .struct [(0, 32), (1, 31), (8, 9), (9, 33), (10, 4), (11, 3)], [.slice none 0 0, .int .i64 0, .int .i64 0, .int .i64 0, .int .u64 0, .string .empty, .string .empty, .slice none 0 0, .string .empty, .slice none 0 0, .bool false, .int .i64 0]⟩,
 some ⟨12, 168, .struct [(0, 32), (1, 31), (8, 9), (9, 33), (10, 4), (11, 3)], [.slice none 0 0, .int .i64 0, .int .i64 0, .int .i64 0, .int .u64 0, .string .empty, .string .empty, .slice none 0 0, .string .empty, .slice none 0 0, .bool false, .int .i64 0]⟩,
 some ⟨29, 392, .struct [(0, 3), (1, 3), (2, 9), (3, 3), (4, 23), (5, 24), (6, 25), (7, 31), (14, 35), (26, 3), (27, 3), (28, 4)], [.int .i64 0, .int .i64 0, .string .empty, .int .i64 0, .slice none 0 0, .slice none 0 0, .slice none 0 0, .int .i64 0, .int .i64 0, .int .i64 0, .int .u64 0, .string .empty, .string .empty, .slice none 0 0, .slice none 0 0, .int .i64 0, .int .i64 0, .int .i64 0, .int .u64 0, .string .empty, .string .empty, .slice none 0 0, .string .empty, .slice none 0 0, .bool false, .int .i64 0, .int .i64 0, .int .i64 0, .bool false]⟩,
 some ⟨29, 392, .struct [(0, 3), (1, 3), (2, 9), (3, 3), (4, 23), (5, 24), (6, 25), (7, 31), (14, 35), (26, 3), (27, 3), (28, 4)], [.int .i64 0, .int .i64 0, .string .empty, .int .i64 0, .slice none 0 0, .slice none 0 0, .slice none 0 0, .int .i64 0, .int .i64 0, .int .i64 0, .int .u64 0, .string .empty, .string .empty, .slice none 0 0, .slice none 0 0, .int .i64 0, .int .i64 0, .int .i64 0, .int .u64 0, .string .empty, .string .empty, .slice none 0 0, .string .empty, .slice none 0 0, .bool false, .int .i64 0, .int .i64 0, .int .i64 0, .bool false]⟩,
 some ⟨1, 8, .int .i64, [.int .i64 0]⟩,
 none,
 some ⟨1, 8, .other, [.nilFunc]⟩,
 some ⟨1, 8, .other, [.nilFunc]⟩,
 some ⟨1, 8, .other, [.nilFunc]⟩,
 some ⟨1, 8, .other, [.nilFunc]⟩,
 some ⟨3, 40, .struct [(0, 22), (1, 3), (2, 38)], [.slice none 0 0, .int .i64 0, .int .i64 0]⟩,
 some ⟨3, 40, .struct [(0, 22), (1, 3), (2, 38)], [.slice none 0 0, .int .i64 0, .int .i64 0]⟩,
 some ⟨1, 8, .other, [.nilFunc]⟩,
 some ⟨1, 8, .ptr 37, [.pointer none]⟩,
 some ⟨8, 104, .struct [(0, 9), (1, 31)], [.string .empty, .int .i64 0, .int .i64 0, .int .i64 0, .int .u64 0, .string .empty, .string .empty, .slice none 0 0]⟩,
 some ⟨8, 104, .struct [(0, 9), (1, 31)], [.string .empty, .int .i64 0, .int .i64 0, .int .i64 0, .int .u64 0, .string .empty, .string .empty, .slice none 0 0]⟩,
 some ⟨1, 8, .other, [.nilFunc]⟩,
 some ⟨1, 8, .other, [.nilFunc]⟩,
 some ⟨1, 8, .other, [.nilFunc]⟩,
 some ⟨1, 8, .other, [.nilFunc]⟩,
 some ⟨1, 8, .ptr 58, [.pointer none]⟩,
 some ⟨2, 32, .struct [(0, 22), (1, 3)], [.slice none 0 0, .int .i64 0]⟩,
 some ⟨2, 32, .struct [(0, 22), (1, 3)], [.slice none 0 0, .int .i64 0]⟩,
 some ⟨31, 424, .struct [(0, 56), (2, 37)], [.slice none 0 0, .int .i64 0, .int .i64 0, .int .i64 0, .string .empty, .int .i64 0, .slice none 0 0, .slice none 0 0, .slice none 0 0, .int .i64 0, .int .i64 0, .int .i64 0, .int .u64 0, .string .empty, .string .empty, .slice none 0 0, .slice none 0 0, .int .i64 0, .int .i64 0, .int .i64 0, .int .u64 0, .string .empty, .string .empty, .slice none 0 0, .string .empty, .slice none 0 0, .bool false, .int .i64 0, .int .i64 0, .int .i64 0, .bool false]⟩,
 some ⟨31, 424, .struct [(0, 56), (2, 37)], [.slice none 0 0, .int .i64 0, .int .i64 0, .int .i64 0, .string .empty, .int .i64 0, .slice none 0 0, .slice none 0 0, .slice none 0 0, .int .i64 0, .int .i64 0, .int .i64 0, .int .u64 0, .string .empty, .string .empty, .slice none 0 0, .slice none 0 0, .int .i64 0, .int .i64 0, .int .i64 0, .int .u64 0, .string .empty, .string .empty, .slice none 0 0, .string .empty, .slice none 0 0, .bool false, .int .i64 0, .int .i64 0, .int .i64 0, .bool false]⟩,
 some ⟨2, 16, .struct [(0, 3), (1, 38)], [.int .i64 0, .int .i64 0]⟩,
 some ⟨2, 16, .struct [(0, 3), (1, 38)], [.int .i64 0, .int .i64 0]⟩,
 none,
 some ⟨1, 8, .other, [.nilFunc]⟩,
 none,
 some ⟨1, 8, .other, [.nilFunc]⟩,
 some ⟨1, 24, .slice 9, [.slice none 0 0]⟩,
 some ⟨1, 8, .other, [.nilFunc]⟩,
 some ⟨1, 8, .other, [.nilFunc]⟩,
 none,
 some ⟨1, 8, .other, [.nilFunc]⟩,
 some ⟨1, 8, .other, [.nilFunc]⟩,
 some ⟨4, 40, .struct [(0, 3), (1, 9), (2, 3), (3, 26)], [.int .i64 0, .string .empty, .int .i64 0, .int .u64 0]⟩,
 some ⟨4, 40, .struct [(0, 3), (1, 9), (2, 3), (3, 26)], [.int .i64 0, .string .empty, .int .i64 0, .int .u64 0]⟩,
 none,
 some ⟨1, 8, .other, [.nilFunc]⟩,
 none,
 some ⟨1, 8, .other, [.nilFunc]⟩,
 some ⟨1, 8, .other, [.nilFunc]⟩,
 some ⟨1, 8, .other, [.nilFunc]⟩,
 some ⟨1, 8, .other, [.nilFunc]⟩,
 some ⟨1, 8, .other, [.nilFunc]⟩,
 some ⟨1, 8, .other, [.nilFunc]⟩,
 some ⟨3, 32, .struct [(0, 9), (1, 3), (2, 4)], [.string .empty, .int .i64 0, .bool false]⟩,
 some ⟨3, 32, .struct [(0, 9), (1, 3), (2, 4)], [.string .empty, .int .i64 0, .bool false]⟩,
 some ⟨1, 8, .other, [.nilFunc]⟩,
 some ⟨1, 8, .other, [.nilFunc]⟩,
 some ⟨1, 8, .other, [.nilFunc]⟩,
 some ⟨8, 96, .struct [(0, 3), (1, 31)], [.int .i64 0, .int .i64 0, .int .i64 0, .int .i64 0, .int .u64 0, .string .empty, .string .empty, .slice none 0 0]⟩,
 some ⟨8, 96, .struct [(0, 3), (1, 31)], [.int .i64 0, .int .i64 0, .int .i64 0, .int .i64 0, .int .u64 0, .string .empty, .string .empty, .slice none 0 0]⟩,
 some ⟨2, 16, .struct [(0, 3), (1, 4)], [.int .i64 0, .bool false]⟩,
 some ⟨2, 16, .struct [(0, 3), (1, 4)], [.int .i64 0, .bool false]⟩,
 some ⟨1, 8, .other, [.nilFunc]⟩,
 some ⟨1, 8, .other, [.nilFunc]⟩,
 some ⟨1, 8, .other, [.nilFunc]⟩,
 some ⟨1, 8, .other, [.nilFunc]⟩,
 some ⟨1, 8, .other, [.nilFunc]⟩,
 some ⟨1, 8, .other, [.nilFunc]⟩,
 some ⟨1, 8, .ptr 56, [.pointer none]⟩,
 some ⟨1, 24, .slice 3, [.slice none 0 0]⟩,
 some ⟨1, 8, .other, [.nilFunc]⟩,
 some ⟨1, 8, .other, [.nilFunc]⟩,
 some ⟨5, 80, .arr 5 9, [.string .empty, .string .empty, .string .empty, .string .empty, .string .empty]⟩,
 none,
 some ⟨1, 8, .other, [.nilFunc]⟩,
 some ⟨1, 8, .other, [.nilFunc]⟩,
 some ⟨1, 8, .other, [.nilFunc]⟩,
 some ⟨1, 8, .other, [.nilFunc]⟩,
 some ⟨1, 8, .ptr 35, [.pointer none]⟩,
 some ⟨3, 48, .arr 3 9, [.string .empty, .string .empty, .string .empty]⟩,
 some ⟨1, 8, .other, [.nilFunc]⟩,
 some ⟨1, 8, .int .u64, [.int .u64 0]⟩,
 some ⟨1, 8, .other, [.nilFunc]⟩,
 some ⟨1, 8, .other, [.nilFunc]⟩,
 some ⟨1, 8, .other, [.nilFunc]⟩,
 none,
 some ⟨1, 8, .other, [.nilFunc]⟩,
 some ⟨1, 8, .other, [.float .f64 0]⟩,
 some ⟨1, 8, .other, [.nilFunc]⟩,
 some ⟨1, 8, .other, [.nilFunc]⟩,
 none,
 some ⟨1, 8, .other, [.nilFunc]⟩,
 some ⟨256, 256, .arr 256 5, [.int .u8 0, .int .u8 0, .int .u8 0, .int .u8 0, .int .u8 0, .int .u8 0, .int .u8 0, .int .u8 0, .int .u8 0, .int .u8 0, .int .u8 0, .int .u8 0, .int .u8 0, .int .u8 0, .int .u8 0, .int .u8 0, .int .u8 0, .int .u8 0, .int .u8 0, .int .u8 0, .int .u8 0, .int .u8 0, .int .u8 0, .int .u8 0, .int .u8 0, .int .u8 0, .int .u8 0, .int .u8 0, .int .u8 0, .int .u8 0, .int .u8 0, .int .u8 0, .int .u8 0, .int .u8 0, .int .u8 0, .int .u8 0, .int .u8 0, .int .u8 0, .int .u8 0, .int .u8 0, .int .u8 0, .int .u8 0, .int .u8 0, .int .u8 0, .int .u8 0, .int .u8 0, .int .u8 0, .int .u8 0, .int .u8 0, .int .u8 0, .int .u8 0, .int .u8 0, .int .u8 0, .int .u8 0, .int .u8 0, .int .u8 0, .int .u8 0, .int .u8 0, .int .u8 0, .int .u8 0, .int .u8 0, .int .u8 0, .int .u8 0, .int .u8 0, .int .u8 0, .int .u8 0, .int .u8 0, .int .u8 0, .int .u8 0, .int .u8 0, .int .u8 0, .int .u8 0, .int .u8 0, .int .u8 0, .int .u8 0, .int .u8 0, .int .u8 0, .int .u8 0, .int .u8 0, .int .u8 0, .int .u8 0, .int .u8 0, .int .u8 0, .int .u8 0, .int .u8 0, .int .u8 0, .int .u8 0, .int .u8 0, .int .u8 0, .int .u8 0, .int .u8 0, .int .u8 0, .int .u8 0, .int .u8 0, .int .u8 0, .int .u8 0, .int .u8 0, .int .u8 0, .int .u8 0, .int .u8 0, .int .u8 0, .int .u8 0, .int .u8 0, .int .u8 0, .int .u8 0, .int .u8 0, .int .u8 0, .int .u8 0, .int .u8 0, .int .u8 0, .int .u8 0, .int .u8 0, .int .u8 0, .int .u8 0, .int .u8 0, .int .u8 0, .int .u8 0, .int .u8 0, .int .u8 0, .int .u8 0, .int .u8 0, .int .u8 0, .int .u8 0, .int .u8 0, .int .u8 0, .int .u8 0, .int .u8 0, .int .u8 0, .int .u8 0, .int .u8 0, .int .u8 0, .int .u8 0, .int .u8 0, .int .u8 0, .int .u8 0, .int .u8 0, .int .u8 0, .int .u8 0, .int .u8 0, .int .u8 0, .int .u8 0, .int .u8 0, .int .u8 0, .int .u8 0, .int .u8 0, .int .u8 0, .int .u8 0, .int .u8 0, .int .u8 0, .int .u8 0, .int .u8 0, .int .u8 0, .int .u8 0, .int .u8 0, .int .u8 0, .int .u8 0, .int .u8 0, .int .u8 0, .int .u8 0, .int .u8 0, .int .u8 0, .int .u8 0, .int .u8 0, .int .u8 0, .int .u8 0, .int .u8 0, .int .u8 0, .int .u8 0, .int .u8 0, .int .u8 0, .int .u8 0, .int .u8 0, .int .u8 0, .int .u8 0, .int .u8 0, .int .u8 0, .int .u8 0, .int .u8 0, .int .u8 0, .int .u8 0, .int .u8 0, .int .u8 0, .int .u8 0, .int .u8 0, .int .u8 0, .int .u8 0, .int .u8 0, .int .u8 0, .int .u8 0, .int .u8 0, .int .u8 0, .int .u8 0, .int .u8 0, .int .u8 0, .int .u8 0, .int .u8 0, .int .u8 0, .int .u8 0, .int .u8 0, .int .u8 0, .int .u8 0, .int .u8 0, .int .u8 0, .int .u8 0, .int .u8 0, .int .u8 0, .int .u8 0, .int .u8 0, .int .u8 0, .int .u8 0, .int .u8 0, .int .u8 0, .int .u8 0, .int .u8 0, .int .u8 0, .int .u8 0, .int .u8 0, .int .u8 0, .int .u8 0, .int .u8 0, .int .u8 0, .int .u8 0, .int .u8 0, .int .u8 0, .int .u8 0, .int .u8 0, .int .u8 0, .int .u8 0, .int .u8 0, .int .u8 0, .int .u8 0, .int .u8 0, .int .u8 0, .int .u8 0, .int .u8 0, .int .u8 0, .int .u8 0, .int .u8 0, .int .u8 0, .int .u8 0, .int .u8 0, .int .u8 0, .int .u8 0, .int .u8 0, .int .u8 0, .int .u8 0, .int .u8 0, .int .u8 0, .int .u8 0, .int .u8 0, .int .u8 0, .int .u8 0, .int .u8 0, .int .u8 0, .int .u8 0, .int .u8 0]⟩,
 some ⟨1, 8, .other, [.nilFunc]⟩,
 some ⟨1, 8, .other, [.nilFunc]⟩,
 some ⟨1, 8, .other, [.nilFunc]⟩,
 some ⟨21, 336, .arr 21 9, [.string .empty, .string .empty, .string .empty, .string .empty, .string .empty, .string .empty, .string .empty, .string .empty, .string .empty, .string .empty, .string .empty, .string .empty, .string .empty, .string .empty, .string .empty, .string .empty, .string .empty, .string .empty, .string .empty, .string .empty, .string .empty]⟩,
 some ⟨1, 8, .other, [.nilFunc]⟩,
 some ⟨1, 8, .other, [.nilFunc]⟩,
 some ⟨1, 8, .other, [.nilFunc]⟩,
 some ⟨2, 2, .struct [(0, 5), (1, 5)], [.int .u8 0, .int .u8 0]⟩,
 some ⟨2, 2, .struct [(0, 5), (1, 5)], [.int .u8 0, .int .u8 0]⟩,
 some ⟨32, 32, .arr 16 130, [.int .u8 0, .int .u8 0, .int .u8 0, .int .u8 0, .int .u8 0, .int .u8 0, .int .u8 0, .int .u8 0, .int .u8 0, .int .u8 0, .int .u8 0, .int .u8 0, .int .u8 0, .int .u8 0, .int .u8 0, .int .u8 0, .int .u8 0, .int .u8 0, .int .u8 0, .int .u8 0, .int .u8 0, .int .u8 0, .int .u8 0, .int .u8 0, .int .u8 0, .int .u8 0, .int .u8 0, .int .u8 0, .int .u8 0, .int .u8 0, .int .u8 0, .int .u8 0]⟩,
 some ⟨1, 8, .other, [.nilFunc]⟩,
 some ⟨1, 8, .other, [.nilFunc]⟩,
 some ⟨1, 8, .ptr 136, [.pointer none]⟩,
 some ⟨2, 32, .struct [(0, 22), (1, 3)], [.slice none 0 0, .int .i64 0]⟩,
 some ⟨2, 32, .struct [(0, 22), (1, 3)], [.slice none 0 0, .int .i64 0]⟩,
 some ⟨2, 16, .struct [(0, 3), (1, 38)], [.int .i64 0, .int .i64 0]⟩,
 some ⟨2, 16, .struct [(0, 3), (1, 38)], [.int .i64 0, .int .i64 0]⟩,
 none,
 some ⟨1, 8, .other, [.nilFunc]⟩,
 some ⟨1, 24, .slice 143, [.slice none 0 0]⟩,
 none,
 none,
 some ⟨1, 4, .int .u32, [.int .u32 0]⟩,
 some ⟨1, 8, .other, [.nilFunc]⟩,
 some ⟨1, 8, .ptr 152, [.pointer none]⟩,
 some ⟨1, 24, .slice 98, [.slice none 0 0]⟩,
 some ⟨1, 8, .other, [.nilFunc]⟩,
 some ⟨1, 24, .slice 155, [.slice none 0 0]⟩,
 some ⟨1, 24, .slice 158, [.slice none 0 0]⟩,
 none,
 none,
 some ⟨1, 2, .int .u16, [.int .u16 0]⟩,
 none,
 none,
 some ⟨1, 8, .other, [.nilFunc]⟩,
 none,
 none,
 some ⟨1, 8, .other, [.nilFunc]⟩,
 some ⟨1, 8, .other, [.nilFunc]⟩,
 some ⟨1, 8, .other, [.nilFunc]⟩,
 some ⟨1, 8, .ptr 155, [.pointer none]⟩,
 some ⟨1, 8, .ptr 158, [.pointer none]⟩,
 some ⟨1, 8, .other, [.nilFunc]⟩,
 some ⟨1, 8, .other, [.nilFunc]⟩,
 some ⟨1, 8, .other, [.nilFunc]⟩,
 some ⟨1, 8, .other, [.nilFunc]⟩,
 none,
 none,
 some ⟨0, 0, .arr 0 16, []⟩,
 none,
 none,
 some ⟨1, 1, .int .u8, [.int .u8 0]⟩,
 some ⟨1, 1, .int .u8, [.int .u8 0]⟩,
 some ⟨1, 8, .other, [.nilFunc]⟩,
 some ⟨1, 8, .ptr 5, [.pointer none]⟩,
 some ⟨1, 4, .int .i32, [.int .i32 0]⟩,
 some ⟨1, 4, .int .i32, [.int .i32 0]⟩,
 none,
 none,
 some ⟨1, 8, .other, [.pointer none]⟩]
theorem zSi : zVF = (List.range 182).map fun t => match zVF.getD t none with | some _ => zVk Tryz.prog t | none => none := by kernel_rfl
abbrev tab : Nat -> Option TI := zSh zVF
theorem tOk : TOk Tryz.prog tab := zTP zSi
theorem zzt {p : Prop} (h : p := by (dsimp only [zBh]; (repeat' first | exact trivial | assumption | exact Nat.le_of_ble_eq_true rfl | apply And.intro | decide | intro _ | exact rfl))) : p := h
theorem zza {p : Prop} (h : p := by (dsimp only [zBh]; (repeat' first | exact trivial | assumption | exact Nat.le_of_ble_eq_true rfl | apply And.intro | exact zAm _ _ ‹_› | exact zAi _ _ ‹_› | (intro hh_; have hg_ := hh_; (try simp only [zAr, zAs, zBm, zBp, Bool.and_eq_true, ne_eq, decide_eq_true_eq, decide_eq_false_iff_not] at hg_)) | intro _ | exact rfl | omega))) : p := h
theorem zzp {p : Prop} (h : p := by (repeat' first | exact trivial | exact Nat.le_of_ble_eq_true rfl | apply And.intro)) : p := h
theorem zzi {p : Prop} (h : p := by (repeat' first | exact trivial | rfl | apply And.intro)) : p := h
theorem zzl {p : Prop} (h : p := by first | exact trivial | rfl | exact ⟨rfl, rfl⟩ | exact ⟨rfl, rfl, rfl⟩ | exact ⟨rfl, rfl, rfl, rfl⟩ | exact ⟨rfl, rfl, rfl, rfl, rfl⟩ | exact congrArg (fun z : Int => E.v (.int .i64 z)) (zAf (by omega) (by omega)) | exact congrArg (fun z : Int => E.v (.int .u8 z)) (by assumption) | exact congrArg (fun z : ByteArray => E.v (.string z)) (by assumption) | (refine ⟨rfl, ?_⟩; repeat' first | exact trivial | rfl | apply And.intro)) : p := h
theorem zzm : Tryz.prog.follows .mixedOrders = true := by kernel_rfl
section
variable {X : Ctx}
theorem zzs {x y : Code} {s : St} {Q : Exit -> St -> Prop} (h : Tr Tryz.prog X x s (andThen Tryz.prog X y Q)) : Tr Tryz.prog X (.seq x y) s Q := zDI h
theorem zzb {id : Nat} {c : Code} {s : St} {Q : Exit -> St -> Prop} (h : Tr Tryz.prog X c s (zNp id Q)) : Tr Tryz.prog X (.block id c) s Q := zEX h
theorem zzk {s : St} {Q : Exit -> St -> Prop} (h : Q .normal s) : Tr Tryz.prog X .skip s Q := zGv h
theorem zzr {nt : Nat} (hnt : X.nt = nt) {id : Nat} {ops : Array Oper} {tm : Nat -> D} {m : Mem} {ps : List Prop} {tm' : Nat -> D} {m' : Mem} {Q : Exit -> St -> Prop} (h : zGb tab nt ops ops.toList [] tm m = some ⟨ps, tm', m', []⟩) (hp : zBh ps) (k : Q .normal ⟨tm', m'⟩) : Tr Tryz.prog X (.region id ops false) ⟨tm, m⟩ Q := reg (T := tab) tOk hnt h hp k
theorem zzd {nt : Nat} (hnt : X.nt = nt) {id : Nat} {ops : Array Oper} {tm : Nat -> D} {m : Mem} {ps : List Prop} {tm' : Nat -> D} {m' : Mem} {fps : List FP} {Q : Exit -> St -> Prop} (h : zKO tab nt ops ops.toList [] tm m = some ⟨ps, tm', m', [], fps⟩) (hp : zBh ps) (k : Q .normal ⟨tm', m'⟩)
  (hB : zQG .any ops fps ops.size 0 (Array.replicate ops.size false) = true := by first | decide +kernel | kernel_rfl) : Tr Tryz.prog X (.region id ops true) ⟨tm, m⟩ Q := zXe (T := tab) tOk zzm hnt h hB hp k
theorem zzx {nt : Nat} (hnt : X.nt = nt) {ops : Array Oper} {l : List Oper} {tm : Nat -> D} {m : Mem} {ps : List Prop} {tm' : Nat -> D} {m' : Mem} {rest : List Oper} {s'' : St} (h : zGb tab nt ops l [] tm m = some ⟨ps, tm', m', rest⟩) (hp : zBh ps) (k : Lex Tryz.prog X ops rest ⟨tm', m'⟩ s'') : Lex Tryz.prog X ops l ⟨tm, m⟩ s'' := lex (T := tab) tOk hnt h hp k
end
class Zn (P : Program) (X : Ctx) (c : Code) (s : St) (Q : Exit -> St -> Prop) (G : outParam Prop) : Prop where
 go : G -> Tr P X c s Q
class Zf (P : Program) (X : Ctx) (c : Code) (s : St) (Q : Exit -> St -> Prop) (d : outParam Code) (R : outParam (Exit -> St -> Prop)) : Prop where
 go : Tr P X d s R -> Tr P X c s Q
class Zs (P : Program) (X : Ctx) (s : St) (Q : Exit -> St -> Prop) (d : outParam Code) (R : outParam (Exit -> St -> Prop)) : Prop where
 go : Tr P X d s R -> Q .normal s
section
variable {P : Program} {X : Ctx} {s : St} {Q R : Exit -> St -> Prop} {d : Code}
instance {y : Code} [h : Zf P X y s Q d R] : Zs P X s (andThen P X y Q) d R := ⟨h.go⟩
instance {id : Nat} [h : Zs P X s Q d R] : Zs P X s (zNp id Q) d R := ⟨h.go⟩
instance {x y : Code} [h : Zf P X x s (andThen P X y Q) d R] : Zf P X (.seq x y) s Q d R := ⟨fun k => zDI (h.go k)⟩
instance {id : Nat} {c : Code} [h : Zf P X c s (zNp id Q) d R] : Zf P X (.block id c) s Q d R := ⟨fun k => zEX (h.go k)⟩
instance [h : Zs P X s Q d R] : Zf P X .skip s Q d R := ⟨fun k => zGv (h.go k)⟩
instance {id : Nat} {ops : Array Oper} {b : Bool} : Zf P X (.region id ops b) s Q (.region id ops b) Q := ⟨fun k => k⟩
instance {c : Operand} {x y : Code} : Zf P X (.cond c x y) s Q (.cond c x y) Q := ⟨fun k => k⟩
end
section
variable {P : Program} {X : Ctx} {s : St} {Q : Exit -> St -> Prop}
instance {x y : Code} : Zn P X (.seq x y) s Q (Tr P X x s (andThen P X y Q)) := ⟨zDI⟩
instance {id : Nat} {c : Code} : Zn P X (.block id c) s Q (Tr P X c s (zNp id Q)) := ⟨zEX⟩
instance : Zn P X .skip s Q (Q .normal s) := ⟨zGv⟩
theorem zn {c : Code} {G : Prop} [Zn P X c s Q G] (h : G) : Tr P X c s Q := Zn.go h
theorem zc {e : Code} {c : Operand} {x y : Code} {R : Exit -> St -> Prop} {b : Bool} [z : Zf P X e s Q (.cond c x y) R] (ht : b = true -> Tr P X x s R) (hf : b = false -> Tr P X y s R) (hc : s.ev c = .v (.bool b) := by exact rfl) : Tr P X e s Q := z.go (zAj hc ht hf)
end
theorem zz : (∀ a b : Bool, ((bif a then true else b) = true) = (a = true \/ b = true)) /\ (∀ a b : Bool, ((bif a then true else b) = false) = (a = false /\ b = false)) /\ (∀ a b : Bool, ((bif a then b else false) = true) = (a = true /\ b = true)) /\ (∀ a b : Bool, ((bif a then b else false) = false) = (a = false \/ b = false)) ∧
  (∀ a : Bool, ((!a) = true) = (a = false)) /\ (∀ a : Bool, ((!a) = false) = (a = true)) /\ (∀ (p : Prop) [Decidable p], (decide p = true) = p) /\ (∀ (p : Prop) [Decidable p], (decide p = false) = ¬p) :=
 ⟨fun _ _ => zEt, fun _ _ => zAr, fun _ _ => zAs, fun _ _ => zGp, fun _ => zBm, fun _ => zBp, fun _ _ => decide_eq_true_eq, fun _ _ => propext decide_eq_false_iff_not⟩
theorem zg {p : Prop} (h : p := by repeat' first | exact .nil | refine .lent rfl rfl rfl ?_ | refine .data rfl ?_) : p := h
theorem zm {p : Prop} (h : p := by repeat' first | exact trivial | refine zAg rfl rfl ?_ ?_ | refine zAe rfl rfl ?_ ?_ | refine zON rfl (by decide) ?_ | rfl | apply And.intro) : p := h
theorem zzh {p : Prop} (h : p := by (dsimp only [zBh]; (repeat' first | exact trivial | assumption | exact Nat.le_of_ble_eq_true rfl | apply And.intro | exact zAm _ _ ‹_› | exact zAi _ _ ‹_› | (intro hh_; have hg_ := hh_; (try simp only [zAr, zAs, zBm, zBp, Bool.and_eq_true, ne_eq, decide_eq_true_eq, decide_eq_false_iff_not] at hg_)) | intro _ | exact rfl | omega | exact Nat.le_trans (Nat.add_le_add_right hz2 1) (by decide) | exact Nat.le_trans (Nat.mul_le_mul_right _ (Nat.add_le_add_right hz2 1)) (by decide) | exact Nat.le_trans (Nat.add_le_add_left hz2 0) (by decide) | exact Nat.le_trans (Nat.mul_le_mul_right _ (Nat.add_le_add_left hz2 0)) (by decide)))) : p := h
section
variable {X : Ctx} {nt id : Nat} {ops : Array Oper} {tm tm' : Nat -> D} {m m' : Mem} {ps : List Prop} {Q : Exit -> St -> Prop}
structure Zp (X : Ctx) (nt id : Nat) (ops : Array Oper) (b : Bool) (tm : Nat -> D) (m : Mem) (ps : List Prop) (tm' : Nat -> D) (m' : Mem) : Prop where
 go : zBh ps -> ∀ Q : Exit -> St -> Prop, Q .normal ⟨tm', m'⟩ -> Tr Tryz.prog X (.region id ops b) ⟨tm, m⟩ Q
theorem zp0 (hnt : X.nt = nt) (h : zGb tab nt ops ops.toList [] tm m = some ⟨ps, tm', m', []⟩) : Zp X nt id ops false tm m ps tm' m' := ⟨fun hp _ k => zzr hnt h hp k⟩
theorem zp1 {fps : List FP} (hnt : X.nt = nt) (h : zKO tab nt ops ops.toList [] tm m = some ⟨ps, tm', m', [], fps⟩) (hB : zQG .any ops fps ops.size 0 (Array.replicate ops.size false) = true := by first | decide +kernel | kernel_rfl) : Zp X nt id ops true tm m ps tm' m' := ⟨fun hp _ k => zzd hnt h hp k hB⟩
theorem zy {c : Code} {b : Bool} {R : Exit -> St -> Prop} [z : Zf Tryz.prog X c ⟨tm, m⟩ Q (.region id ops b) R] (hp : zBh ps) (k : R .normal ⟨tm', m'⟩) (hnt : X.nt = nt := by assumption) (h : Zp X nt id ops b tm m ps tm' m' := by first | exact zp0 hnt rfl | exact zp1 hnt rfl) : Tr Tryz.prog X c ⟨tm, m⟩ Q := z.go (h.go hp _ k)
theorem zx {c : Code} {b : Bool} {R : Exit -> St -> Prop} [z : Zf Tryz.prog X c ⟨tm, m⟩ Q (.region id ops b) R] (k : R .normal ⟨tm', m'⟩) (hnt : X.nt = nt := by assumption) (h : Zp X nt id ops b tm m ps tm' m' := by first | exact zp0 hnt rfl | exact zp1 hnt rfl) (hp : zBh ps := by exact zzt) : Tr Tryz.prog X c ⟨tm, m⟩ Q := z.go (h.go hp _ k)
theorem zxa {c : Code} {b : Bool} {R : Exit -> St -> Prop} [z : Zf Tryz.prog X c ⟨tm, m⟩ Q (.region id ops b) R] (k : R .normal ⟨tm', m'⟩) (hnt : X.nt = nt := by assumption) (h : Zp X nt id ops b tm m ps tm' m' := by first | exact zp0 hnt rfl | exact zp1 hnt rfl) (hp : zBh ps := by exact zza) : Tr Tryz.prog X c ⟨tm, m⟩ Q := z.go (h.go hp _ k)
theorem zle {s : St} {ts : List (Nat × D)} {ms : List (Nat × Blk)} (h1 : zVj [] s (St.of ts ms) ts := by exact zzi) (h2 : zHt [] s (St.of ts ms) ms := by exact zm) : Le X s (St.of ts ms) := zAh (ad := []) h1 h2
end
end Go.Proofs.YtcdifgacoleckaaGreatDoor
namespace Go.Proofs.YtcdifgacoleckaaGreatDoor.Ab
open Go Go.RowKit
section
variable {P : Program} {T : Nat -> Option TI} {X : Ctx}
theorem zO6 (hT : TOk P T) {f : Nat} {fn : Func} {c : Code} (hf : P.funcs[f]? = some fn) (hb : fn.body = some c) (hname : (fn.name == "runtime.NumGoroutine") = false) {gs : List (Nat × List E)} {args : List D} {r : D} (hn : args.length <= fn.ntmps)
  {K : World -> Prop} (hst : ∀ w w', K w -> Below w.heap.size w w' -> K w') (h : ∀ X : Ctx, X.nt = fn.ntmps -> (∀ w, Bel X w -> K w) -> Tr P X c (St.startG gs args) (Ends T fn.results.toList r)) (hbig : Nat.ble fn.ntmps 900000 = true := by rfl) (hlt : Nat.ble 1048576 f = false := by rfl) : FnK P K f gs args r := by
 refine ⟨⟨fn, c, hf, hb, Bool.or_eq_false_iff.2 ⟨hname, hlt⟩⟩, fun w vs I hk hgs hargs => ?_⟩
 have hlen : args.length = vs.size := by simpa using hargs.1
 let X : Ctx := ⟨w, I, fn.ntmps, Nat.le_of_ble_eq_true hbig, fun _ => False, fun _ => 0, []⟩
 refine calls_of_wp hf hb (wp_mono (h X rfl (fun w' hb => hst w w' hk (hb.toBelow fun _ h => h)) _ w ⟨fun _ => none, ⟨Bel.refl _, fun id blk hb => nomatch hb⟩, by show (vs ++ Array.replicate (fn.ntmps - vs.size) undef).size = fn.ntmps; simp; omega, rfl, fun t => ?_⟩) fun e a w' ⟨s', hE, hR⟩ => ?_)
 ·show zAy p0 _ w (bif Nat.ble 1000000 t then zPO gs (t - 1000000) else zDp args t) _
  cases hbt : Nat.ble 1000000 t with
  | true =>
   have hle := Nat.le_of_ble_eq_true hbt
   have e : zAL X.xg (vs ++ Array.replicate (fn.ntmps - vs.size) undef) t = .pointer (some ⟨t - 1000000, 0, none⟩) := by
    unfold zAL
    rw [hbt]
    rfl
   rw [e]
   exact zFf (fun x hx => (hgs x hx).p0_own fun b o u h => ⟨h.1, fun _ => h.2, fun _ id blk hb => nomatch hb⟩) _
  | false =>
  rw [cond_false, zCl]
  cases hd : args[t]? with
  | none => trivial
  | some d =>
   have ht : t < vs.size := by rw [<-hlen]; exact (List.getElem?_eq_some_iff.1 hd).1
   have hv : zAL X.xg (vs ++ Array.replicate (fn.ntmps - vs.size) undef) t = vs[t] := by
    have := Nat.le_of_ble_eq_true hbig
    rw [zCq (by omega), Array.getD_eq_getD_getElem?, Array.getElem?_append_left ht, Array.getElem?_eq_getElem ht]
    rfl
   simp only [Option.getD_some]
   rw [hv]
   refine (hargs.2 t d vs[t] hd (by simp [ht])).p0_own fun b o u h => ⟨h.1, fun _ => h.2, fun _ id blk hb => nomatch hb⟩
 ·obtain ⟨hend, φ, r', hres, hφ, rfl⟩ := hE
  obtain ⟨μ, hM, hsz, hdf, hr⟩ := hR
  unfold zTj at hres
  split at hres
  ·rename_i φ' ds h1
   split at hres
   ·rename_i xs us h2
    cases hall : xs.all zKw with
    | false => simp [hall] at hres
    | true =>
     simp only [hall, cond_true, Option.some.injEq, Prod.mk.injEq] at hres
     obtain ⟨rfl, rfl⟩ := hres
     cases hro : fn.results.toList.all zKS with
     | false => rw [hro] at h1; cases h1
     | true =>
     rw [hro] at h1
     obtain ⟨us', k1, k2, k3⟩ := zEc hT hM hr (fun x hx => List.all_eq_true.1 hro x hx) h1 hφ
     obtain ⟨r1, r2, r3, r4⟩ := RM.pubs us s'.mem hM (zCM h2)
     have hd := zCc (vs := us') r1 ⟨k2, fun i d v hd hv => (k3 i d v hd hv).kept r2⟩ h2 r3
     have hj := zGR hd hall
     have hrun : (results fn a.tmps).run P w' = .ok (if h : us'.toArray.size = 1 then us'.toArray[0] else .tuple us'.toArray) w' := by
      have he : results fn a.tmps = (do let vs <-fn.results.mapM (zSt a.tmps); pure (if h : vs.size = 1 then vs[0] else .tuple vs) : Sem Value) := rfl
      rw [he, Sem.run_bind, Array.mapM_eq_mapM_toList, Sem.run_map, k1]
      rfl
     have hfin : bodyPost P fn (fun e w'' => ∃ v, e = .returned v /\ Below w.heap.size w w'' /\ zAy p0 (CI' w w'' I) w'' (zNo xs) v) .normal a w' :=
      ⟨hdf, _, hrun, _, rfl, r1.bel.toBelow (fun _ h => h), hj.p0_own fun b o u hc => ⟨hc.1, (Nat.lt_or_ge b w.heap.size).imp (fun hlt => hc.2.1 fun h => h.elim (fun h => Nat.not_lt.2 h hlt) id) id⟩⟩
     rcases hend with rfl | rfl
     ·exact hfin
     ·exact hfin
   ·cases hres
  ·cases hres
theorem zJ4 (hT : TOk P T) {f : Nat} {fn : Func} {c : Code} (hf : P.funcs[f]? = some fn) (hb : fn.body = some c) (hname : (fn.name == "runtime.NumGoroutine") = false) {gs : List (Nat × List E)} {args : List D} {r : D} (hn : args.length <= fn.ntmps)
  (h : ∀ X : Ctx, X.nt = fn.ntmps -> Tr P X c (St.startG gs args) (Ends T fn.results.toList r)) (hbig : Nat.ble fn.ntmps 900000 = true := by rfl) (hlt : Nat.ble 1048576 f = false := by rfl) : FnG P f gs args r :=
 have q := zO6 (K := fun _ => True) hT hf hb hname hn (fun _ _ _ _ => trivial) (fun X hX _ => h X hX) hbig hlt
 ⟨q.1, fun w vs I hg ha => q.2 w vs I trivial hg ha⟩
theorem callV {nt : Nat} {ops : Array Oper} {gs : List (Nat × List E)} {o : Oper} {rest : List Oper} {tm : Nat -> D} {m : Mem} {fo : Operand} {f t : Nat} {args : Array Operand} {ts : Array TypeId} {az : List D} {us : zBa} {r : D} {s'' : St} (hop : o.op = .call ⟨.value fo, args, ts⟩) (hgd : zBT ops ⟨tm, m⟩ o = .free) (hfo : ((⟨tm, m⟩ : St).ev fo).strip = .one (.clo f []))
  (has : zBi m (args.toList.map fun x => ((⟨tm, m⟩ : St).ev x).strip) = some (az, us)) (hn : zAR ⟨tm, m⟩ (fo :: args.toList) = []) (hd : o.dst = some t) (hlt : Nat.blt t nt = true) (hnt : X.nt = nt) (hgl : gs.map (fun x => tm (1000000 + x.1)) = gs.map fun x => .one (.eptr x.2)) (hfn : FnG P f gs az r) (k : Lex P X ops rest ⟨upd tm t r, zDH m us⟩ s'') : Lex P X ops (o :: rest) ⟨tm, m⟩ s'' := by
 refine .cons (zGF (us := us) hop hgd hfo has (fun p hp => by rw [hn] at hp; cases hp) (fun x hx => ?_) hfn (by rw [hd, hnt]; exact hlt)) ?_
 ·obtain ⟨i, hi⟩ := List.getElem?_of_mem hx
  have := congrArg (fun l => l[i]?) hgl
  simp only [List.getElem?_map, hi, Option.map_some, Option.some.injEq] at this
  exact this
 rw [hd]
 rw [zB9] at k
 exact k
end
theorem callVG {P : Program} {gs : List (Nat × List E)} {X : Ctx} {nt : Nat} {ops : Array Oper} {o : Oper} {rest : List Oper} {tm : Nat -> D} {m : Mem} {fo : Operand} {f t : Nat} {args : Array Operand} {ts : Array TypeId} {q : Prop} {az : List D} {r : D} {s'' : St} (hop : o.op = .call ⟨.value fo, args, ts⟩) (hgd : zBT ops ⟨tm, m⟩ o = .iff q) (hfo : ((⟨tm, m⟩ : St).ev fo).strip = .one (.clo f []))
  (has : zBi m (args.toList.map fun x => ((⟨tm, m⟩ : St).ev x).strip) = some (az, [])) (hd : o.dst = some t) (hlt : Nat.blt t nt = true) (hnt : X.nt = nt) {ns : List Prop} (hns : zAR ⟨tm, m⟩ (fo :: args.toList) = ns) (hn : q -> zBh ns) (hgl : gs.map (fun x => tm (1000000 + x.1)) = gs.map fun x => .one (.eptr x.2)) (hfn : q -> FnG P f gs az r) (k : Lex P X ops rest ⟨upd tm t (.gd q r), m⟩ s'') : Lex P X ops (o :: rest) ⟨tm, m⟩ s'' := by
 refine .cons (zHL hop hgd hfo has (fun hq => by rw [hns]; exact zEu (hn hq)) (zB4 hgl) hfn (by rw [hd, hnt]; exact hlt)) ?_
 rw [hd]
 exact k
theorem zCI {P : Program} {gs : List (Nat × List E)} {T : Nat -> Option TI} {nt : Nat} {ops : Array Oper} {o : Oper} {rest : List Oper} {tm : Nat -> D} {m : Mem} {fo : Operand} {f t : Nat} {args : Array Operand} {ts : Array TypeId} {az : List D} {r : D} {fps : List FP} {s'' : St} (hop : o.op = .call ⟨.value fo, args, ts⟩) (hgd : zBT ops ⟨tm, m⟩ o = .free) (hfo : ((⟨tm, m⟩ : St).ev fo).strip = .one (.clo f []))
  (has : zBi m (args.toList.map fun x => ((⟨tm, m⟩ : St).ev x).strip) = some (az, [])) (hn : zAR ⟨tm, m⟩ (fo :: args.toList) = []) (hd : o.dst = some t) (hlt : Nat.blt t nt = true) {rd : List Nat} (hrd : (zLi (zKs ⟨tm, m⟩ o.op.operands.toList) fun rd => some rd) = some rd) (hgl : gs.map (fun x => tm (1000000 + x.1)) = gs.map fun x => .one (.eptr x.2)) (hfn : FnG P f gs az r) (k : LexD P T nt ops rest ⟨upd tm t r, m⟩ fps s'') : LexD P T nt ops (o :: rest) ⟨tm, m⟩ ((t :: rd, []) :: fps) s'' := by
 rw [zCV] at hrd
 cases hrd
 refine .cons (d := r) (us := []) ⟨.callV hop hgd hfo has (fun p hp => by rw [hn] at hp; cases hp) (zB4 hgl) hfn (by rw [hd]; exact hlt), fun x hx k hk => zAG (List.mem_cons_of_mem _ (zCh x (by simpa using zBR hx) k hk)), by rw [hd]; exact zAG (List.mem_cons_self ..), fun u hu => (by cases hu), zCL hop, fun u hu => (by cases hu)⟩ ?_
 rw [hd]
 exact k
theorem zI3 {P : Program} {gs : List (Nat × List E)} {T : Nat -> Option TI} {nt : Nat} {ops : Array Oper} {o : Oper} {rest : List Oper} {tm : Nat -> D} {m : Mem} {fo : Operand} {f t : Nat} {args : Array Operand} {ts : Array TypeId} {q : Prop} {az : List D} {r : D} {fps : List FP} {s'' : St} (hop : o.op = .call ⟨.value fo, args, ts⟩) (hgd : zBT ops ⟨tm, m⟩ o = .iff q) (hfo : ((⟨tm, m⟩ : St).ev fo).strip = .one (.clo f []))
  (has : zBi m (args.toList.map fun x => ((⟨tm, m⟩ : St).ev x).strip) = some (az, [])) (hd : o.dst = some t) (hlt : Nat.blt t nt = true) {rd : List Nat} (hrd : (zLi (zKs ⟨tm, m⟩ o.op.operands.toList) fun rd => some rd) = some rd) {ns : List Prop} (hns : zAR ⟨tm, m⟩ (fo :: args.toList) = ns) (hn : q -> zBh ns) (hgl : gs.map (fun x => tm (1000000 + x.1)) = gs.map fun x => .one (.eptr x.2)) (hfn : q -> FnG P f gs az r) (k : LexD P T nt ops rest ⟨upd tm t (.gd q r), m⟩ fps s'') : LexD P T nt ops (o :: rest) ⟨tm, m⟩ ((t :: rd, []) :: fps) s'' := by
 rw [zCV] at hrd
 cases hrd
 refine .cons (d := .gd q r) (us := []) ⟨.callVG hop hgd hfo has (fun hq => by rw [hns]; exact zEu (hn hq)) (zB4 hgl) hfn (by rw [hd]; exact hlt), fun x hx k hk => zAG (List.mem_cons_of_mem _ (zCh x (by simpa using zBR hx) k hk)), by rw [hd]; exact zAG (List.mem_cons_self ..), fun u hu => (by cases hu), zCL hop, fun u hu => (by cases hu)⟩ ?_
 rw [hd]
 exact k
def zP0 {α : Type} (us : zBa) (k : List Nat -> α) : α :=
 match us with
 | [] => k []
 | (i, _) :: r => zP0 r fun r => k (i :: (i + 2000000) :: r)
theorem zPZ {α : Type} (us : zBa) (k : List Nat -> α) : zP0 us k = k (wrL us) := by
 induction us generalizing k with
 | nil => rfl
 | cons x r ih => simp only [zP0, ih, wrL]
theorem zS4 {P : Program} {gs : List (Nat × List E)} {T : Nat -> Option TI} {nt : Nat} {ops : Array Oper} {o : Oper} {rest : List Oper} {tm : Nat -> D} {m : Mem} {fo : Operand} {f t : Nat} {args : Array Operand} {ts : Array TypeId} {az : List D} {us : zBa} {ids : List Nat} {r : D} {fps : List FP} {s'' : St} (hop : o.op = .call ⟨.value fo, args, ts⟩) (hgd : zBT ops ⟨tm, m⟩ o = .free) (hfo : ((⟨tm, m⟩ : St).ev fo).strip = .one (.clo f []))
  (has : zBi m (args.toList.map fun x => ((⟨tm, m⟩ : St).ev x).strip) = some (az, us)) (hn : zAR ⟨tm, m⟩ (fo :: args.toList) = []) (hd : o.dst = some t) (hlt : Nat.blt t nt = true) {rd : List Nat} (hrd : (zLi (zKs ⟨tm, m⟩ o.op.operands.toList) fun rd => some rd) = some rd) (hids : (zP0 us fun x => some x) = some ids) (hgl : gs.map (fun x => tm (1000000 + x.1)) = gs.map fun x => .one (.eptr x.2)) (hfn : FnG P f gs az r) (k : LexD P T nt ops rest ⟨upd tm t r, zDH m us⟩ fps s'') : LexD P T nt ops (o :: rest) ⟨tm, m⟩ ((t :: rd, ids) :: fps) s'' := by
 rw [zCV] at hrd
 cases hrd
 rw [zPZ] at hids
 cases hids
 refine .cons (d := r) (us := us) ⟨.callV hop hgd hfo has (fun p hp => by rw [hn] at hp; cases hp) (zB4 hgl) hfn (by rw [hd]; exact hlt), fun x hx k hk => zAG (List.mem_cons_of_mem _ (zCh x (by simpa using zBR hx) k hk)), by rw [hd]; exact zAG (List.mem_cons_self ..), fun u hu => (zJg u hu).1, zCL hop, fun u hu => .inl (zJg u hu).2⟩ ?_
 rw [hd]
 rw [zB9] at k
 exact k
abbrev Rn := Nat -> Nat × Nat
def D0.rn (ρ : Rn) : D0 -> D0
 | .ptr i v o => .ptr (ρ i).1 (v + (ρ i).2) o
 | .rptr i v a b => .rptr (ρ i).1 (v + (ρ i).2) a b
 | .own i v => .own (ρ i).1 (v + (ρ i).2)
 | .bsl i v o z n => .bsl (ρ i).1 (v + (ρ i).2) o z n
 | .clo f cs => .clo f (cs.map fun c => ((ρ c.1).1, c.2.1 + (ρ c.1).2, c.2.2))
 | .hnd i v => .hnd (ρ i).1 (v + (ρ i).2)
 | x => x
def Cs.rn (ρ : Rn) : Cs -> Cs
 | .es xs => .es xs
 | .ds xs => .ds (xs.map (D0.rn ρ))
def D.rn (ρ : Rn) : D -> D
 | .any => .any
 | .one x => .one (x.rn ρ)
 | .agg c => .agg (c.rn ρ)
 | .tup xs => .tup (xs.map fun x => (x.1, x.2.rn ρ))
 | .gd q d => .gd q (d.rn ρ)
def Body.rn (ρ : Rn) : Body -> Body
 | .box c => .box (c.rn ρ)
 | .row z xs => .row z xs
 | .raw o => .raw o
theorem Cs.rn_d0 (ρ : Rn) (c : Cs) : (c.rn ρ).d0 = c.d0.map (D0.rn ρ) := by
 cases c with
 | es xs => simp only [Cs.rn, Cs.d0, List.map_map]; rfl
 | ds xs => rfl
theorem Body.rn_cells (ρ : Rn) (b : Body) : (b.rn ρ).cells = b.cells.map (D0.rn ρ) := by
 cases b with
 | box c => exact Cs.rn_d0 ρ c
 | row z xs => simp only [Body.rn, Body.cells, List.map_map]; rfl
 | raw o => rfl
theorem Body.rn_shape (ρ : Rn) (b : Body) : (b.rn ρ).shape = b.shape := by
 cases b with
 | box c => simp [Body.rn, Body.shape, Cs.rn_d0]
 | row z xs => rfl
 | raw o => rfl
theorem Body.rn_ok {ρ : Rn} {b : Body} : (b.rn ρ).ok ↔ b.ok := by cases b <;> exact Iff.rfl
theorem Body.rn_okN {ρ : Rn} {b : Body} : (b.rn ρ).okN ↔ b.okN := by cases b <;> exact Iff.rfl
theorem Body.rn_obj (ρ : Rn) (b : Body) (cur : Array Value) (e : TypeId) (lo hi : Nat) : (b.rn ρ).obj cur e lo hi = b.obj cur e lo hi := by cases b <;> rfl
def zTt (ρ : Rn) (dom : Nat -> Prop) (p p' : Rho) : Prop :=
 ∀ i b, dom i -> p.mem i = some b -> ∃ b', p'.mem (ρ i).1 = some b' /\ b'.ver = b.ver + (ρ i).2 /\ b'.body.shape = b.body.shape /\ p'.μ (ρ i).1 = p.μ i
def zTr (_ : Nat) : Prop := True
section
variable {ρ : Rn} {p p' : Rho} {C C' : Nat -> Nat -> Value -> Prop} {w : World}
theorem zKR (h : zTt ρ zTr p p') {i v : Nat} {K : Nat -> Prop} (hl : zKv p i v K) : zKv p' (ρ i).1 (v + (ρ i).2) K := by
 obtain ⟨b, h1, h2, h3⟩ := hl
 obtain ⟨b', e1, e2, e3, e4⟩ := h i b trivial h1
 refine ⟨b', e1, by omega, fun e => ?_⟩
 obtain ⟨g, hg, hk⟩ := h3 (by omega)
 exact ⟨g, by rw [e4]; exact hg, hk⟩
theorem zKQ (hC : ∀ b o u, C b o u -> C' b o u) (h : zTt ρ zTr p p') {x : D0} {v : Value} (hv : zCQ p C w x v) : zCQ p' C' w (x.rn ρ) v := by
 cases x with
 | e x => exact RepE.mono hC hv
 | nil => exact hv
 | ptr i v o => exact ⟨hv.1, zKR h hv.2⟩
 | rptr i v a b =>
  obtain ⟨h0, blk, h1, h2, h3⟩ := hv
  obtain ⟨b', e1, e2, e3, e4⟩ := h _ _ trivial h1
  refine ⟨h0, b', e1, by omega, fun e => ?_⟩
  obtain ⟨g, g1, g2⟩ := h3 (by omega)
  exact ⟨g, by rw [e4]; exact g1, by rw [e3]; exact g2⟩
 | eptr cs =>
  obtain ⟨b, o, rfl, hc⟩ := hv
  refine ⟨b, o, rfl, fun j e he => ?_⟩
  obtain ⟨u, h1, h2⟩ := hc j e he
  exact ⟨u, hC _ _ _ h1, h2.mono hC⟩
 | own i v =>
  obtain ⟨h0, blk, h1, h2, h3⟩ := hv
  obtain ⟨b', e1, e2, e3, e4⟩ := h _ _ trivial h1
  refine ⟨h0, b', e1, by omega, fun e => ?_⟩
  obtain ⟨z, n, z1, z2, z3⟩ := h3 (by omega)
  refine ⟨z, n, by rw [e3]; exact z1, z2, ?_⟩
  rcases z3 with z3 | ⟨g, cap, g1, g2⟩
  ·exact .inl z3
  ·exact .inr ⟨g, cap, by rw [e4]; exact g1, g2⟩
 | clo f caps =>
  obtain ⟨vs, rfl, hl, hc⟩ := hv
  refine ⟨vs, rfl, by simpa using hl, fun i c u h1 h2 => ?_⟩
  simp only [List.getElem?_map, Option.map_eq_some_iff] at h1
  obtain ⟨c0, h1, rfl⟩ := h1
  exact zKR h (hc i c0 u h1 h2)
 | bsl i v o z n =>
  obtain ⟨h0, blk, h1, h2, h3⟩ := hv
  obtain ⟨b', e1, e2, e3, e4⟩ := h _ _ trivial h1
  refine ⟨h0, b', e1, by omega, fun e => ?_⟩
  obtain ⟨z1, z2, g, cap, g1, g2⟩ := h3 (by omega)
  exact ⟨z1, by rw [e3]; exact z2, g, cap, by rw [e4]; exact g1, g2⟩
 | hnd i v => exact ⟨hv.1, zKR h hv.2⟩
theorem zKP (hC : ∀ b o u, C b o u -> C' b o u) (h : zTt ρ zTr p p') {c : Cs} {vs : List Value} (hv : zBA p C w c.d0 vs) : zBA p' C' w (c.rn ρ).d0 vs := by
 rw [Cs.rn_d0]
 refine ⟨by simpa using hv.1, fun i x u hx hu => ?_⟩
 simp only [List.getElem?_map, Option.map_eq_some_iff] at hx
 obtain ⟨x0, hx, rfl⟩ := hx
 exact zKQ hC h (hv.2 i x0 u hx hu)
theorem zOg (hC : ∀ b o u, C b o u -> C' b o u) (h : zTt ρ zTr p p') {d : D} {v : Value} (hv : zAy p C w d v) : zAy p' C' w (d.rn ρ) v := by
 induction d with
 | any => trivial
 | one x => exact zKQ hC h hv
 | agg c => obtain ⟨vs, rfl, h1⟩ := hv; exact ⟨vs, rfl, zKP hC h h1⟩
 | tup xs =>
  obtain ⟨vs, rfl, hl, hx⟩ := hv
  refine ⟨vs, rfl, by simpa using hl, fun i x u h1 h2 => ?_⟩
  simp only [List.getElem?_map, Option.map_eq_some_iff] at h1
  obtain ⟨⟨b, c⟩, h1, rfl⟩ := h1
  have := hx i (b, c) u h1 h2
  cases b with
  | true => obtain ⟨us, rfl, h3⟩ := this; exact ⟨us, rfl, zKP hC h h3⟩
  | false => exact zKP (c := c) hC h this
 | gd q d ih => exact ⟨fun hq => ih (hv.1 hq), hv.2⟩
def zLw (ρ : Rn) (dom : Nat -> Bool) (p p' : Rho) : Prop :=
 ∀ i, dom i = true -> ∃ b b', p.mem i = some b /\ p'.mem (ρ i).1 = some b' /\ b'.ver = b.ver + (ρ i).2 /\ b'.body.shape = b.body.shape /\ p'.μ (ρ i).1 = p.μ i
theorem zIA {dom : Nat -> Bool} (h : zLw ρ dom p p') {i v : Nat} {K : Nat -> Prop} (hi : dom i = true) (hl : zKv p' (ρ i).1 (v + (ρ i).2) K) : zKv p i v K := by
 obtain ⟨b, b', e1, e2, e3, e4, e5⟩ := h i hi
 obtain ⟨b0, h1, h2, h3⟩ := hl
 rw [e2] at h1
 cases h1
 refine ⟨b, e1, by omega, fun e => ?_⟩
 obtain ⟨g, hg, hk⟩ := h3 (by omega)
 exact ⟨g, by rw [<-e5]; exact hg, hk⟩
def zTn (dom : Nat -> Bool) : List Nat -> Bool
 | [] => true
 | i :: r => dom i && zTn dom r
theorem zLn {dom : Nat -> Bool} : ∀ {l : List Nat}, zTn dom l = true -> ∀ i ∈ l, dom i = true
 | [], _, i, h => nomatch h
 | k :: l, hl, i, h => by
  rw [zTn, Bool.and_eq_true] at hl
  rcases List.mem_cons.1 h with rfl | h
  ·exact hl.1
  ·exact zLn hl.2 i h
theorem zIz {dom : Nat -> Bool} (hC : ∀ b o u, C' b o u -> C b o u) (h : zLw ρ dom p p') {x : D0} (hx : ∀ i ∈ zDy x, dom i = true) {v : Value} (hv : zCQ p' C' w (x.rn ρ) v) : zCQ p C w x v := by
 cases x with
 | e x => exact RepE.mono hC hv
 | nil => exact hv
 | ptr i v o => exact ⟨hv.1, zIA h (hx i (by simp [zDy])) hv.2⟩
 | rptr i v a b =>
  obtain ⟨b1, b', e1, e2, e3, e4, e5⟩ := h i (hx i (by simp [zDy]))
  obtain ⟨h0, blk, h1, h2, h3⟩ := hv
  rw [e2] at h1
  cases h1
  refine ⟨h0, b1, e1, by omega, fun e => ?_⟩
  obtain ⟨g, g1, g2⟩ := h3 (by omega)
  exact ⟨g, by rw [<-e5]; exact g1, by rw [<-e4]; exact g2⟩
 | eptr cs =>
  obtain ⟨b, o, rfl, hc⟩ := hv
  refine ⟨b, o, rfl, fun j e he => ?_⟩
  obtain ⟨u, h1, h2⟩ := hc j e he
  exact ⟨u, hC _ _ _ h1, h2.mono hC⟩
 | own i v =>
  obtain ⟨b1, b', e1, e2, e3, e4, e5⟩ := h i (hx i (by simp [zDy]))
  obtain ⟨h0, blk, h1, h2, h3⟩ := hv
  rw [e2] at h1
  cases h1
  refine ⟨h0, b1, e1, by omega, fun e => ?_⟩
  obtain ⟨z, n, z1, z2, z3⟩ := h3 (by omega)
  refine ⟨z, n, by rw [<-e4]; exact z1, z2, ?_⟩
  rcases z3 with z3 | ⟨g, cap, g1, g2⟩
  ·exact .inl z3
  ·exact .inr ⟨g, cap, by rw [<-e5]; exact g1, g2⟩
 | clo f caps =>
  obtain ⟨vs, rfl, hl, hc⟩ := hv
  refine ⟨vs, rfl, by simpa using hl, fun i c u h1 h2 => ?_⟩
  exact zIA h (hx c.1 (by simp only [zDy]; exact List.mem_map_of_mem (List.mem_of_getElem? h1))) (hc i ((ρ c.1).1, c.2.1 + (ρ c.1).2, c.2.2) u (by simp [h1]) h2)
 | bsl i v o z n =>
  obtain ⟨b1, b', e1, e2, e3, e4, e5⟩ := h i (hx i (by simp [zDy]))
  obtain ⟨h0, blk, h1, h2, h3⟩ := hv
  rw [e2] at h1
  cases h1
  refine ⟨h0, b1, e1, by omega, fun e => ?_⟩
  obtain ⟨z1, z2, g, cap, g1, g2⟩ := h3 (by omega)
  exact ⟨z1, by rw [<-e4]; exact z2, g, cap, by rw [<-e5]; exact g1, g2⟩
 | hnd i v => exact ⟨hv.1, zIA h (hx i (by simp [zDy])) hv.2⟩
theorem zQK {dom : Nat -> Bool} (hC : ∀ b o u, C' b o u -> C b o u) (h : zLw ρ dom p p') {c : Cs} (hx : ∀ i ∈ zQM c, dom i = true) {vs : List Value} (hv : zBA p' C' w (c.rn ρ).d0 vs) : zBA p C w c.d0 vs := by
 rw [Cs.rn_d0] at hv
 refine ⟨by simpa using hv.1, fun i x u h1 h2 => ?_⟩
 refine zIz hC h (fun k hk => ?_) (hv.2 i (x.rn ρ) u (by simp [h1]) h2)
 cases c with
 | es xs =>
  simp only [Cs.d0, List.getElem?_map, Option.map_eq_some_iff] at h1
  obtain ⟨e, _, rfl⟩ := h1
  cases hk
 | ds xs => exact hx k (List.mem_flatMap.2 ⟨x, List.mem_of_getElem? h1, hk⟩)
def zVc : D -> Bool
 | .one _ => true
 | .agg _ => true
 | _ => false
theorem zSL {dom : Nat -> Bool} (hC : ∀ b o u, C' b o u -> C b o u) (h : zLw ρ dom p p') {d : D} (hok : zVc d = true) (hx : ∀ i ∈ zCO d, dom i = true) {v : Value} (hv : zAy p' C' w (d.rn ρ) v) : zAy p C w d v := by
 cases d with
 | one x => exact zIz hC h hx hv
 | agg c => obtain ⟨vs, rfl, h1⟩ := hv; exact ⟨vs, rfl, zQK hC h hx h1⟩
 | _ => cases hok
end
def Blk.isBox (b : Blk) : Bool := match b.body with
 | .box _ => true
 | .row _ _ => false
 | .raw _ => false
def XH (w : World) (I : Nat -> Nat -> Prop) (p : Rho) : Ctx := ⟨w, I, 1, by decide, fun g => ∃ id blk, p.mem id = some blk /\ p.μ id = some g, fun _ => 0, []⟩
def zMQ (p : Rho) (C : Nat -> Nat -> Value -> Prop) (w : World) (args : List D) (vs : List Value) : Prop :=
 args.length = vs.length /\ ∀ (i : Nat) d v, args[i]? = some d -> vs[i]? = some v -> zAy p C w d v
def FnH (P : Program) (f : Nat) (gs : List (Nat × List E)) (ms : List (Nat × Blk)) (args : List D) (r : D) (ms' : List (Nat × Blk)) : Prop :=
 zRc P f /\ ∀ (w : World) (vs : Array Value) (I : Nat -> Nat -> Prop) (μ : Nat -> Option Nat), RM (XH w I ⟨zAl ms, μ⟩) ⟨zAl ms, μ⟩ w ->
  (∀ x ∈ gs, zAy p0 (CW (XH w I ⟨zAl ms, μ⟩) ⟨zAl ms, μ⟩ w) w (.one (.eptr x.2)) (.pointer (some ⟨x.1, 0, none⟩))) ->
  zMQ ⟨zAl ms, μ⟩ (CW (XH w I ⟨zAl ms, μ⟩) ⟨zAl ms, μ⟩ w) w args vs.toList ->
  Calls P f vs w fun e w' => ∃ v, e = .returned v /\ ∃ μ' : Nat -> Option Nat, RM (XH w I ⟨zAl ms, μ⟩) ⟨zAl ms', μ'⟩ w' /\ (∀ id b, zAl ms id = some b -> b.isBox = true -> μ' id = μ id) ∧
   zAy ⟨zAl ms', μ'⟩ (CW (XH w I ⟨zAl ms, μ⟩) ⟨zAl ms', μ'⟩ w') w' r v
def zRU : List (Nat × Blk) -> Nat -> D
 | [], _ => .any
 | (i, b) :: r, t => bif Nat.beq t i then (bif b.isBox then .one (.ptr i 0 0) else .any) else zRU r t
def St.startH (gs : List (Nat × List E)) (ms : List (Nat × Blk)) (args : List D) : St :=
 ⟨fun t => bif Nat.ble 1000000 t then zPO gs (t - 1000000) else bif Nat.ble 900000 t then zRU ms t else zDp args t, zAl ms⟩
def zFu : List (Nat × Blk) -> List (Nat × D)
 | [] => []
 | (i, b) :: r => bif b.isBox then (i, .one (.ptr i 0 0)) :: zFu r else zFu r
def zQv (b : Blk) : Bool := Nat.beq b.ver 0 && match b.body with
 | .box c => Nat.blt 0 c.len
 | .row _ _ => true
 | .raw _ => false
def zOH : List (Nat × Blk) -> Bool
 | [] => true
 | (i, b) :: r => Nat.ble 900000 i && Nat.blt i 1000000 && zQv b && zOH r
def zRE (o : Option Blk) : Bool := match o with
 | some b => Nat.beq b.ver 0 && b.isBox
 | none => false
def zE4 (ms' : List (Nat × Blk)) : List (Nat × Blk) -> Bool
 | [] => true
 | (i, b) :: r => (bif b.isBox then zRE (zAl ms' i) else true) && zE4 ms' r
theorem zEk : ∀ {ms : List (Nat × Blk)} {t : Nat}, zRU ms t = .any \/ ∃ b, zAl ms t = some b /\ b.isBox = true /\ zRU ms t = .one (.ptr t 0 0)
 | [], t => .inl rfl
 | (i, b) :: r, t => by
  rw [zRU, zAl]
  cases h : Nat.beq t i with
  | false => exact zEk (ms := r)
  | true =>
   obtain rfl := Nat.eq_of_beq_eq_true h
   cases hb : b.isBox with
   | false => exact .inl rfl
   | true => exact .inr ⟨b, rfl, hb, rfl⟩
theorem zDC : ∀ {ms : List (Nat × Blk)} {t : Nat} {b : Blk}, zOH ms = true -> zAl ms t = some b -> 900000 <= t /\ t < 1000000 /\ zQv b = true
 | [], t, b, _, h => nomatch h
 | (i, c) :: r, t, b, ho, h => by
  rw [zOH, Bool.and_eq_true, Bool.and_eq_true, Bool.and_eq_true] at ho
  rw [zAl] at h
  cases hb : Nat.beq t i with
  | false => rw [hb] at h; exact zDC ho.2 h
  | true =>
   rw [hb] at h
   cases h
   obtain rfl := Nat.eq_of_beq_eq_true hb
   exact ⟨Nat.le_of_ble_eq_true ho.1.1.1, Nat.blt_eq.mp ho.1.1.2, ho.1.2⟩
theorem zGI {b : Blk} (h : zQv b = true) (hb : b.isBox = true) : b.ver = 0 /\ b.cells ≠ [] := by
 obtain ⟨v, bd, pub⟩ := b
 cases bd with
 | row z xs => cases hb
 | raw o => cases hb
 | box c =>
  rw [zQv, Bool.and_eq_true] at h
  refine ⟨Nat.eq_of_beq_eq_true h.1, fun e => ?_⟩
  have e : c.d0 = [] := e
  have h2 : 0 < c.len := Nat.blt_eq.mp h.2
  rw [<-Cs.len_eq, e] at h2
  exact Nat.lt_irrefl _ h2
theorem zE3 {ms' : List (Nat × Blk)} : ∀ {ms : List (Nat × Blk)} {t : Nat} {b : Blk}, zE4 ms' ms = true -> zAl ms t = some b -> b.isBox = true -> ∃ b', zAl ms' t = some b' /\ b'.ver = 0 /\ b'.isBox = true
 | [], t, b, _, h, _ => nomatch h
 | (i, c) :: r, t, b, ho, h, hx => by
  rw [zE4, Bool.and_eq_true] at ho
  rw [zAl] at h
  cases hb : Nat.beq t i with
  | false => rw [hb] at h; exact zE3 ho.2 h hx
  | true =>
   rw [hb] at h
   cases h
   obtain rfl := Nat.eq_of_beq_eq_true hb
   have h1 := ho.1
   rw [hx, cond_true] at h1
   unfold zRE at h1
   split at h1
   ·rename_i b' hb'
    rw [Bool.and_eq_true] at h1
    exact ⟨b', hb', Nat.eq_of_beq_eq_true h1.1, h1.2⟩
   ·cases h1
theorem zGf : ∀ {ms : List (Nat × Blk)} {t : Nat} {b : Blk}, zAl ms t = some b -> b.isBox = true -> zDO (zFu ms) t = .one (.ptr t 0 0)
 | [], t, b, h, _ => nomatch h
 | (i, c) :: r, t, b, h, hx => by
  rw [zAl] at h
  cases hb : Nat.beq t i with
  | true =>
   rw [hb] at h
   cases h
   obtain rfl := Nat.eq_of_beq_eq_true hb
   rw [zFu, hx, cond_true, zDO, hb]
   rfl
  | false =>
   rw [hb] at h
   have ih := zGf (ms := r) h hx
   rw [zFu]
   cases c.isBox with
   | false => exact ih
   | true => rw [cond_true, zDO, hb]; exact ih
def zRd (T : Nat -> Option TI) (rs : List ResultVar) (r : D) (ms ms' : List (Nat × Blk)) (e : Exit) (s : St) : Prop :=
 (e = .normal \/ e = .ret) /\ ∃ φ ds d, (bif rs.all zKS then zSs T s rs else none) = some (φ, ds) /\ φ /\ zSJ ds = some d /\ ∀ X, Le X ⟨fun t => bif Nat.beq t 0 then d else bif Nat.ble 900000 t then s.tm t else .any, s.mem⟩ (St.of ((0, r) :: zFu ms) ms')
section
variable {P : Program} {T : Nat -> Option TI} {X : Ctx}
theorem zGU (hT : TOk P T) {f : Nat} {fn : Func} {c : Code} (hf : P.funcs[f]? = some fn) (hb : fn.body = some c) (hname : (fn.name == "runtime.NumGoroutine") = false) {gs : List (Nat × List E)} {args : List D} {r : D} {ms ms' : List (Nat × Blk)} (hn : args.length <= fn.ntmps)
  (hin : zOH ms = true) (hout : zE4 ms' ms = true) (h : ∀ X : Ctx, X.nt = fn.ntmps -> Tr P X c (St.startH gs ms args) (zRd T fn.results.toList r ms ms')) (hbig : Nat.ble fn.ntmps 900000 = true := by rfl) (hlt : Nat.ble 1048576 f = false := by rfl) : FnH P f gs ms args r ms' := by
 refine ⟨⟨fn, c, hf, hb, Bool.or_eq_false_iff.2 ⟨hname, hlt⟩⟩, fun w vs I μ hM0 hgs hargs => ?_⟩
 have hlen : args.length = vs.size := by simpa using hargs.1
 let X : Ctx := ⟨w, I, fn.ntmps, Nat.le_of_ble_eq_true hbig, (XH w I ⟨zAl ms, μ⟩).ex, fun t => (μ t).getD 0, []⟩
 have hbig' := Nat.le_of_ble_eq_true hbig
 have hsl : ∀ t, 900000 <= t -> t < 1000000 -> ∀ tmps : Array Value, zAL X.xg tmps t = .pointer (some ⟨(μ t).getD 0, 0, none⟩) := fun t h1 h2 tmps => by
  unfold zAL
  have e1 : Nat.ble 1000000 t = false := by
   cases hb : Nat.ble 1000000 t with
   | false => rfl
   | true => have := Nat.le_of_ble_eq_true hb; omega
  rw [e1, Nat.ble_eq_true_of_le h1]
  rfl
 have hbox : ∀ t b, zAl ms t = some b -> b.isBox = true -> ∃ g, μ t = some g := fun t b h1 h2 => by
  obtain ⟨_, _, k3⟩ := zDC hin h1
  have h3 := hM0.blk t b h1
  cases hg : μ t with
  | some g => exact ⟨g, rfl⟩
  | none =>
   simp only [zAP, hg] at h3
   exact absurd h3.1 (zGI k3 h2).2
 refine calls_of_wp hf hb (wp_mono (h X rfl _ w ⟨μ, ⟨hM0.bel, hM0.blk⟩, by show (vs ++ Array.replicate (fn.ntmps - vs.size) undef).size = fn.ntmps; simp; omega, rfl, fun t => ?_⟩) fun e a w' ⟨s', hE, hR⟩ => ?_)
 ·show zAy _ _ w (bif Nat.ble 1000000 t then zPO gs (t - 1000000) else bif Nat.ble 900000 t then zRU ms t else zDp args t) _
  cases hbt : Nat.ble 1000000 t with
  | true =>
   have e : zAL X.xg (vs ++ Array.replicate (fn.ntmps - vs.size) undef) t = .pointer (some ⟨t - 1000000, 0, none⟩) := by
    unfold zAL
    rw [hbt]
    rfl
   rw [e, cond_true]
   exact (zFf (C := CW X ⟨zAl ms, μ⟩ w) hgs _).kept (zCC fun b o u h => h)
  | false =>
  rw [cond_false]
  have hlt : t < 1000000 := by
   rcases Nat.lt_or_ge t 1000000 with h | h
   ·exact h
   ·rw [Nat.ble_eq_true_of_le h] at hbt; cases hbt
  cases hb9 : Nat.ble 900000 t with
  | true =>
   have hle := Nat.le_of_ble_eq_true hb9
   rw [cond_true, hsl t hle hlt]
   rcases zEk (ms := ms) (t := t) with h1 | ⟨b, h1, h2, h3⟩
   ·rw [h1]; trivial
   ·rw [h3]
    obtain ⟨g, hg⟩ := hbox t b h1 h2
    exact ⟨rfl, b, h1, Nat.zero_le _, fun _ => ⟨g, hg, by rw [hg]; rfl⟩⟩
  | false =>
  rw [cond_false, zCl]
  cases hd : args[t]? with
  | none => trivial
  | some d =>
   have ht : t < vs.size := by rw [<-hlen]; exact (List.getElem?_eq_some_iff.1 hd).1
   have hv : zAL X.xg (vs ++ Array.replicate (fn.ntmps - vs.size) undef) t = vs[t] := by
    rw [zCq (by omega), Array.getD_eq_getD_getElem?, Array.getElem?_append_left ht, Array.getElem?_eq_getElem ht]
    rfl
   simp only [Option.getD_some]
   rw [hv]
   exact hargs.2 t d vs[t] hd (by simp [ht])
 ·obtain ⟨hend, φ, ds, d, h1, hφ, hj, hle⟩ := hE
  obtain ⟨μ1, hM, hsz, hdf, hr⟩ := hR
  cases hro : fn.results.toList.all zKS with
  | false => rw [hro] at h1; cases h1
  | true =>
  rw [hro] at h1
  obtain ⟨us', k1, k2, k3⟩ := zEc hT hM hr (fun x hx => List.all_eq_true.1 hro x hx) h1 hφ
  have hd := zOT ⟨k2, k3⟩ hj
  have hrun : (results fn a.tmps).run P w' = .ok (if h : us'.toArray.size = 1 then us'.toArray[0] else .tuple us'.toArray) w' := by
   have he : results fn a.tmps = (do let vs <-fn.results.mapM (zSt a.tmps); pure (if h : vs.size = 1 then vs[0] else .tuple vs) : Sem Value) := rfl
   rw [he, Sem.run_bind, Array.mapM_eq_mapM_toList, Sem.run_map, k1]
   rfl
  generalize (if h : us'.toArray.size = 1 then us'.toArray[0] else .tuple us'.toArray) = v at hd hrun
  obtain ⟨μ', hM', _, _, hr'⟩ := hle ⟨w, I, 1, by decide, (XH w I ⟨zAl ms, μ⟩).ex, X.xg, []⟩ { a with tmps := #[v] } w' ⟨μ1, ⟨hM.bel, hM.blk⟩, rfl, hdf, fun t => by
   cases ht : Nat.beq t 0 with
   | true =>
    obtain rfl := Nat.eq_of_beq_eq_true ht
    exact hd
   | false =>
    show zAy _ _ _ (bif Nat.beq t 0 then d else bif Nat.ble 900000 t then s'.tm t else .any) _
    rw [ht, cond_false]
    cases h9 : Nat.ble 900000 t with
    | false => trivial
    | true =>
     have e : zAL X.xg #[v] t = zAL X.xg a.tmps t := by
      unfold zAL
      cases Nat.ble 1000000 t with
      | true => rfl
      | false => rw [h9]; rfl
     rw [cond_true]
     show zAy _ _ _ _ (zAL X.xg #[v] t)
     rw [e]
     exact hr t⟩
  have hfin : bodyPost P fn (fun e w'' => ∃ v, e = .returned v /\ ∃ μ' : Nat -> Option Nat, RM (XH w I ⟨zAl ms, μ⟩) ⟨zAl ms', μ'⟩ w'' /\ (∀ id b, zAl ms id = some b -> b.isBox = true -> μ' id = μ id) ∧
   zAy ⟨zAl ms', μ'⟩ (CW (XH w I ⟨zAl ms, μ⟩) ⟨zAl ms', μ'⟩ w'') w'' r v) .normal a w' := by
   refine ⟨hdf, _, hrun, v, rfl, μ', ⟨hM'.bel, hM'.blk⟩, fun id b h1 h2 => ?_, hr' 0⟩
   obtain ⟨q1, q2, q3⟩ := zDC hin h1
   obtain ⟨g, hg⟩ := hbox id b h1 h2
   obtain ⟨b', e1, e2, e3⟩ := zE3 hout h1 h2
   have h3 := hr' id
   rw [show (St.of ((0, r) :: zFu ms) ms').tm id = zDO (zFu ms) id by
    show zDO ((0, r) :: zFu ms) id = _
    rw [zDO]
    cases hz : Nat.beq id 0 with
    | false => rfl
    | true => have := Nat.eq_of_beq_eq_true hz; omega, zGf h1 h2] at h3
   obtain ⟨_, blk, f1, f2, f3⟩ := h3
   have f1 : zAl ms' id = some blk := f1
   rw [e1] at f1
   cases f1
   obtain ⟨g', g1, g2⟩ := f3 e2.symm
   have g2 : zAL X.xg #[v] id = .pointer (some ⟨g', 0, none⟩) := g2
   rw [hsl id q1 q2, hg] at g2
   simp only [Value.pointer.injEq, Option.some.injEq, Addr.mk.injEq, Option.getD_some, and_true] at g2
   rw [hg, g2]
   exact g1
  rcases hend with rfl | rfl
  ·exact hfin
  ·exact hfin
end
section
variable {P : Program} {X : Ctx}
theorem Le.trans {s s' s'' : St} (h : Le X s s') (k : Le X s' s'') : Le X s s'' := fun a w hR => k a w (h a w hR)
theorem zRP {s : St} (t : Nat) {id ver z pub : Nat} {xs : List (List E)} (ht : s.tm t = .one (.own id ver)) (hm : s.mem id = some ⟨ver, .row z xs, pub⟩) :
  Le X s ⟨upd s.tm t (.one (.e (.sl xs))), upd s.mem id (some ⟨ver, .row z xs, (Body.row z xs).cells.length⟩)⟩ := by
 intro a w ⟨μ, hM, hsz, hdf, hr⟩
 have hf : frz s.mem (.own id ver) = some (.sl xs, [(id, ⟨ver, .row z xs, (Body.row z xs).cells.length⟩)]) := by
  simp only [frz, hm, Nat.beq_refl, cond_true]
 obtain ⟨r1, r2, r3, r4⟩ := RM.pubs [(id, ⟨ver, .row z xs, (Body.row z xs).cells.length⟩)] s.mem hM (zMr hf)
 refine ⟨μ, r1, hsz, hdf, fun t' => ?_⟩
 show zAy ⟨upd s.mem id _, μ⟩ _ w (upd s.tm t (.one (.e (.sl xs))) t') _
 by_cases h : t' = t
 ·subst h
  rw [zAn]
  have h0 := (hr t').kept r2
  rw [ht] at h0
  exact zIG r1 h0 hf r3
 ·rw [zAB _ _ h]
  exact (hr t').kept r2
theorem zDK {s : St} (id : Nat) {ver pub : Nat} {c : Cs} {es : List E} {us : zBa} (hm : s.mem id = some ⟨ver, .box c, pub⟩) (hf : zNt s.mem c = some (es, us)) (hn : us.all (fun u => !Nat.beq u.1 id) = true) :
  Le X s ⟨s.tm, upd (zDH s.mem us) id (some ⟨ver, .box (.es es), pub⟩)⟩ := by
 rw [zB9]
 intro a w ⟨μ, hM, hsz, hdf, hr⟩
 obtain ⟨r1, r2, r3, r4⟩ := RM.pubs us s.mem hM (zIH hf)
 let M := zBd s.mem us
 have hid : M id = some ⟨ver, .box c, pub⟩ := by
  rw [<-hm]
  refine r4 id fun u hu e => ?_
  have := List.all_eq_true.1 hn u hu
  rw [e, Nat.beq_refl] at this
  cases this
 have hlen : (c.d0).length = (es.map D0.e).length := by
  have h := hM.blk id _ hm
  unfold zAP at h
  split at h
  ·have h1 : c.d0 = [] := h.1
   cases c with
   | es xs => cases hf; rfl
   | ds xs =>
    have h1 : xs = [] := h1
    subst h1
    cases hf
    rfl
  ·obtain ⟨_, _, _, _, cur, e, lo, hi, _, _, g6, g7⟩ := h
   obtain ⟨vs, hv1, hv2⟩ : ∃ vs : List Value, zBA ⟨s.mem, μ⟩ (CW X ⟨s.mem, μ⟩ w) w c.d0 vs /\ True := by
    have g7 : ∀ (i : Nat) x, c.d0[i]? = some x -> ∃ u, cur[i]? = some u /\ zCQ ⟨s.mem, μ⟩ (CW X ⟨s.mem, μ⟩ w) w x u := g7
    have g6 : c.d0.length <= cur.size := g6
    refine ⟨cur.toList.take c.d0.length, ⟨by have hz : cur.toList.length = cur.size := Array.length_toList; rw [List.length_take]; omega, fun i x u hx hu => ?_⟩, trivial⟩
    obtain ⟨u', h1, h2⟩ := g7 i x hx
    have hi := (List.getElem?_eq_some_iff.1 hx).1
    rw [List.getElem?_take, if_pos hi, Array.getElem?_toList, h1] at hu
    cases hu
    exact h2
   have := zEm r1 (hv1.kept r2) hf r3
   rw [hv1.1, this.1]
 let M' : Mem := upd M id (some ⟨ver, .box (.es es), pub⟩)
 have hget : ∀ id' b', M' id' = some b' -> ∃ b, M id' = some b /\ b.ver = b'.ver /\ b.pub = b'.pub /\ b.body.shape = b'.body.shape := fun id' b' h => by
  by_cases hi : id' = id
  ·subst hi
   have h : upd M id' _ id' = some b' := h
   rw [zAn] at h
   cases h
   exact ⟨_, hid, rfl, rfl, by show (0, c.d0.length) = (0, (es.map D0.e).length); rw [hlen]⟩
  ·have h : upd M id _ id' = some b' := h
   rw [zAB _ _ hi] at h
   exact ⟨b', h, rfl, rfl, rfl⟩
 have hput : ∀ id' b, M id' = some b -> ∃ b', M' id' = some b' /\ b.ver = b'.ver /\ b.pub = b'.pub /\ b'.body.shape = b.body.shape := fun id' b h => by
  by_cases hi : id' = id
  ·subst hi
   rw [hid] at h
   cases h
   exact ⟨⟨ver, .box (.es es), pub⟩, zAn .., rfl, rfl, by show (0, (es.map D0.e).length) = (0, c.d0.length); rw [hlen]⟩
  ·exact ⟨b, by show upd M id _ id' = some b; rw [zAB _ _ hi]; exact h, rfl, rfl, rfl⟩
 have hC : ∀ b o u, CW X ⟨M, μ⟩ w b o u -> CW X ⟨M', μ⟩ w b o u := fun b o u ⟨k1, k2, k3⟩ => ⟨k1, k2, fun ho id' b' m1 m2 => by
  obtain ⟨b0, e1, e2, e3, e4⟩ := hget id' b' m1
  rw [<-e3]
  exact k3 ho id' b0 e1 m2⟩
 have hK : Kept ⟨M, μ⟩ (CW X ⟨M, μ⟩ w) w ⟨M', μ⟩ (CW X ⟨M', μ⟩ w) w := Kept.of hC (fun _ _ h => h) fun id' b h => by
  obtain ⟨b', e1, e2, e3, e4⟩ := hput id' b h
  exact ⟨b', e1, Nat.le_of_eq e2, fun _ => ⟨rfl, e4⟩⟩
 refine ⟨μ, ⟨r1.bel, fun id' b' hb => ?_⟩, hsz, hdf, fun t' => ((hr t').kept r2).kept hK⟩
 obtain ⟨b0, e1, e2, e3, e4⟩ := hget id' b' hb
 have h := r1.blk id' b0 e1
 by_cases hi : id' = id
 ·subst hi
  have hb : upd M id' _ id' = some b' := hb
  rw [zAn] at hb
  cases hb
  have e1 : M id' = some b0 := e1
  rw [hid] at e1
  cases e1
  unfold zAP at h ⊢
  show match μ id' with | none => _ | some g => _
  cases hg : μ id' with
  | none =>
   simp only [hg] at h ⊢
   obtain ⟨h1, h2, h3⟩ := h
   have h1 : c.d0 = [] := h1
   refine ⟨?_, h2, trivial⟩
   show es.map D0.e = []
   refine List.eq_nil_of_length_eq_zero ?_
   rw [<-hlen, h1]
   rfl
  | some g =>
   simp only [hg] at h ⊢
   obtain ⟨_, g1, g2, g3, cur, e, lo, hi, g4, g5, g6, g7⟩ := h
   have g7 : ∀ (i : Nat) x, c.d0[i]? = some x -> ∃ u, cur[i]? = some u /\ zCQ ⟨M, μ⟩ (CW X ⟨M, μ⟩ w) w x u := g7
   have g6 : c.d0.length <= cur.size := g6
   have g3 : pub <= c.d0.length := g3
   have hR2 : zBA ⟨M, μ⟩ (CW X ⟨M, μ⟩ w) w c.d0 (cur.toList.take c.d0.length) := ⟨by have hz : cur.toList.length = cur.size := Array.length_toList; rw [List.length_take]; omega, fun i x u hx hu => by
    obtain ⟨u', h1, h2⟩ := g7 i x hx
    have hi := (List.getElem?_eq_some_iff.1 hx).1
    rw [List.getElem?_take, if_pos hi, Array.getElem?_toList, h1] at hu
    cases hu
    exact h2⟩
   have hE := zEm r1 hR2 hf r3
   refine ⟨trivial, g1, fun id'' b'' m1 m2 => ?_, by show pub <= (es.map D0.e).length; rw [<-hlen]; exact g3, cur, e, lo, hi, g4, g5, by show (es.map D0.e).length <= _; rw [<-hlen]; exact g6, fun i x hx => ?_⟩
   ·obtain ⟨b1, f1, _⟩ := hget id'' b'' m1
    exact g2 id'' b1 f1 m2
   ·have hx : (es.map D0.e)[i]? = some x := hx
    have hi : i < c.d0.length := by rw [hlen]; exact (List.getElem?_eq_some_iff.1 hx).1
    have hcu : i < cur.size := Nat.lt_of_lt_of_le hi g6
    refine ⟨cur[i], Array.getElem?_eq_getElem hcu, ?_⟩
    refine (hE.2 i x cur[i] hx ?_).kept hK
    rw [List.getElem?_take, if_pos hi, Array.getElem?_toList, Array.getElem?_eq_getElem hcu]
 ·have hb : upd M id _ id' = some b' := hb
  rw [zAB _ _ hi] at hb
  have e1 : M id' = some b0 := e1
  rw [hb] at e1
  cases e1
  unfold zAP at h ⊢
  show match μ id' with | none => _ | some g => _
  cases hg : μ id' with
  | none =>
   simp only [hg] at h ⊢
   exact h
  | some g =>
   simp only [hg] at h ⊢
   obtain ⟨g0, g1, g2, g3, cur, e, lo, hi, g4, g5, g6, g7⟩ := h
   refine ⟨g0, g1, fun id'' b'' m1 m2 => ?_, g3, cur, e, lo, hi, g4, g5, g6, fun i x hx => ?_⟩
   ·obtain ⟨b1, f1, _⟩ := hget id'' b'' m1
    exact g2 id'' b1 f1 m2
   ·obtain ⟨u, u1, u2⟩ := g7 i x hx
    exact ⟨u, u1, u2.kept hK⟩
theorem Lex.app {ops : Array Oper} {l1 l2 : List Oper} {s s1 s2 : St} (h : Lex P X ops l1 s s1) (k : Lex P X ops l2 s1 s2) : Lex P X ops (l1 ++ l2) s s2 := by
 induction h with
 | nil s => exact k
 | cons h _ ih => exact .cons h (ih k)
end
end Go.Proofs.YtcdifgacoleckaaGreatDoor.Ab
